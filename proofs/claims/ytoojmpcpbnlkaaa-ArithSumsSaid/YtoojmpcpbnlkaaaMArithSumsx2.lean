/- Contracts of the Go functions that the statement ArithSums reaches, and its row: what each answers, as a Lean function, and that the Go code answers just so. No further condition. -/
import Derived.Test.YtoojmpcpbnlkaaaMArithSumsx0
import Derived.Test.YtoojmpcpbnlkaaaMArithSumsx1
namespace Go.Proofs.Ytoojmpcpbnlkaaa.PArithSums
open Go.RowKit Go.Proofs.YtoojmpcpbnlkaaaW.PrintWords Go.Proofs.YtoojmpcpbnlkaaaW.PrintLast Go.Proofs.YtoojmpcpbnlkaaaW.PrintMore
attribute [local go_sem] max2_int min2_int max_two min_two max_three min_three max_four min_four   -- for this text's walks alone
set_option linter.unusedVariables false
set_option linter.unusedSimpArgs false

/-! ### Add: function 25 (by hand) -/
def distaffref01_Add.f (a0 : Int) (a1 : Int) : Option (Int) := some (wrap64 (a0 + a1))
open Go.Proofs.Ytoojmpcpbnlkaaa.Arr in
theorem distaffref01_Add.bit (a : Int) (i : Nat) (h : i < 64) : distaffref01_bit.f a (i : Int) = some (bitOf a i) := by
  unfold distaffref01_bit.f
  rw [bit_expr a i h, if_pos (by rw [u64]; omega)]
open Go.Proofs.Ytoojmpcpbnlkaaa.Arr in
set_option maxRecDepth 100000 in
set_option maxHeartbeats 1000000 in
theorem distaffref01_Add.calls (a0 : Int) (a1 : Int) (r : Int) (w : World) (h : distaffref01_Add.f a0 a1 = some r) :
    Calls Try.prog 25 #[.int .i64 a0, .int .i64 a1] w fun e w' => e = .returned (.int .i64 r) ∧ Below w.heap.size w w' := by
  obtain rfl := Option.some.inj h
  clear h
  obtain ⟨f, hf⟩ : ∃ f : Nat → Int, f = fun i => (bitOf a0 i + bitOf a1 i + carry a0 a1 i) % 2 := ⟨_, rfl⟩
  have HR := Lib.hid (num_eq f (a0 + a1) (fun j _ => by rw [hf]; exact (bit_sum a0 a1 j).1))
  have HF := Lib.hid hf
  clear hf
  go_enter Try.func25, Try.ntmps25
  go_wp2_with (first | (refine wpList_buildTo rfl 49 #[] rfl (some 9) rfl zeros (by kernel_rfl) ?_) | (refine wpList_store_rowTo rfl 49 (.tmp 5) (.tmp 9) rfl rfl w.heap.size zeros rfl rfl 49 _ (blk_new w _) (by kernel_rfl) rfl (by kernel_rfl) ?_))
  rw [World.setRow_alloc_new]
  go_loopw [6, 7] (fun c i wr => ∃ k : Nat, k ≤ 64 ∧ i = .int .i64 k ∧ c = .int .i64 (carry a0 a1 k) ∧ wr.heap[w.heap.size]? = some (.cells (cellsOf (mk f k)) 49 (0, 0)) ∧ Below w.heap.size w wr) (fun _ i _ => (64 - intOf i).toNat)
  case atStart => exact ⟨0, by omega, rfl, by rw [carry_zero], by rw [← zeros_eq]; exact blk_new w _, (Below.refl _ _).alloc (Nat.le_refl _) _⟩
  case round =>
    obtain ⟨k, hk, rfl, rfl, hblk, hbel⟩ := hrel
    have HB := Lib.hid hblk
    clear hblk
    by_cases hlt : k < 64
    · obtain ⟨v, hcell⟩ : ∃ v, wr.cell? ⟨w.heap.size, k, none⟩ = some v := ⟨_, (blk_cell HB.out k).trans (cells_at _ k (by rw [mk_len]; omega))⟩
      have hfz := blk_frozen HB.out k
      have hbA := Lib.hid (distaffref01_Add.bit a0 k hlt)
      have hbB := Lib.hid (distaffref01_Add.bit a1 k hlt)
      obtain ⟨x, hx⟩ : ∃ x, x = bitOf a0 k := ⟨_, rfl⟩
      obtain ⟨y, hy⟩ : ∃ y, y = bitOf a1 k := ⟨_, rfl⟩
      obtain ⟨c, hc⟩ : ∃ c, c = carry a0 a1 k := ⟨_, rfl⟩
      have x1 := bit_01 a0 k
      have y1 := bit_01 a1 k
      have c1 := carry_01 a0 a1 k
      rw [← hx] at x1 hbA
      rw [← hy] at y1 hbB
      rw [← hc] at c1 ⊢
      have xa : 0 ≤ x := by omega
      have xb : x ≤ 1 := by omega
      have ya : 0 ≤ y := by omega
      have yb : y ≤ 1 := by omega
      have ca : 0 ≤ c := by omega
      have cb : c ≤ 1 := by omega
      have HX := Lib.hid hx
      have HY := Lib.hid hy
      have HC := Lib.hid hc
      clear hx hy hc x1 y1 c1
      go_wp2_with (first | ((go_at_call 35); (with_reducible refine (distaffref01_bit.calls a0 k _ _ hbA.out).mono ?_); rintro e w2 ⟨rfl, ⟨nd, rfl⟩⟩) | ((go_at_call 35); (with_reducible refine (distaffref01_bit.calls a1 k _ _ hbB.out).mono ?_); rintro e w2 ⟨rfl, ⟨nd2, rfl⟩⟩))
      go_roundw
      case rel =>
        refine ⟨k + 1, by omega, by go_num, ?_, blk_put (w := World.drewN wr (nd + nd2)) HB.out k _ ?_, below_set (pw_below_drewN hbel _) (Nat.le_refl _)⟩
        · rw [← (bit_sum a0 a1 k).2, ← HX.out, ← HY.out, ← HC.out]
        · have hv : f k = (x + y + c) % 2 := by rw [HF.out, HX.out, HY.out, HC.out]
          rw [cells_set, ← hv, mk_set]
      case measure => simp [intOf]; omega
    · have hnum := distaffref01_number.calls (mk f 64) (mk_len _ _)
      obtain rfl : k = 64 := by omega
      have HN := Lib.hid hnum
      clear hnum
      go_wp2_with (first | (with_reducible refine wpList_load_row rfl 49 _ rfl w.heap.size rfl 49 _ (0, 0) _ HB.out Try.underlying49 rfl ?hi ?_) | ((go_at_call 45); refine (HN.out _).mono ?_; rintro e w2 ⟨rfl, hb2⟩))
      case hi => rw [cells_size, mk_len]; kernel_rfl
      go_ret
      exact ⟨by rw [HR.out]; first | done | rfl, below_then hbel hbel.size hb2⟩

/-! ### Not: function 40 (by hand) -/
def distaffref01_Not.f (a0 : Int) : Option (Int) := some (wrap64 (-1 - a0))
open Go.Proofs.Ytoojmpcpbnlkaaa.Arr in
theorem distaffref01_Not.bit (a : Int) (i : Nat) (h : i < 64) : distaffref01_bit.f a (i : Int) = some (bitOf a i) := by
  unfold distaffref01_bit.f
  rw [bit_expr a i h, if_pos (by rw [u64]; omega)]
open Go.Proofs.Ytoojmpcpbnlkaaa.Arr in
set_option maxRecDepth 100000 in
set_option maxHeartbeats 400000 in
theorem distaffref01_Not.calls (a0 : Int) (r : Int) (w : World) (h : distaffref01_Not.f a0 = some r) :
    Calls Try.prog 40 #[.int .i64 a0] w fun e w' => e = .returned (.int .i64 r) ∧ Below w.heap.size w w' := by
  obtain rfl := Option.some.inj h
  clear h
  have HR := Lib.hid (num_eq (fun i => wrap64 (1 - bitOf a0 i)) (-1 - a0) (fun j hj => by
    rw [show wrap64 (1 - bitOf a0 j) = 1 - bitOf a0 j by unfold wrap64; have := bit_01 a0 j; omega]; exact bit_not a0 j))
  go_enter Try.func40, Try.ntmps40
  go_wp2_with (first | (refine wpList_buildTo rfl 49 #[] rfl (some 5) rfl zeros (by kernel_rfl) ?_) | (refine wpList_store_rowTo rfl 49 (.tmp 3) (.tmp 5) rfl rfl w.heap.size zeros rfl rfl 49 _ (blk_new w _) (by kernel_rfl) rfl (by kernel_rfl) ?_))
  rw [World.setRow_alloc_new]
  go_loopw [4] (fun i wr => ∃ k : Nat, k ≤ 64 ∧ i = .int .i64 k ∧ wr.heap[w.heap.size]? = some (.cells (cellsOf (mk (fun i => wrap64 (1 - bitOf a0 i)) k)) 49 (0, 0)) ∧ Below w.heap.size w wr) (fun i _ => (64 - intOf i).toNat)
  case atStart => exact ⟨0, by omega, rfl, by rw [← zeros_eq]; exact blk_new w _, (Below.refl _ _).alloc (Nat.le_refl _) _⟩
  case round =>
    obtain ⟨k, hk, rfl, hblk, hbel⟩ := hrel
    have HB := Lib.hid hblk
    clear hblk
    by_cases hlt : k < 64
    · obtain ⟨v, hcell⟩ : ∃ v, wr.cell? ⟨w.heap.size, k, none⟩ = some v := ⟨_, (blk_cell HB.out k).trans (cells_at _ k (by rw [mk_len]; omega))⟩
      have hfz := blk_frozen HB.out k
      have hbit := distaffref01_Not.bit a0 k hlt
      go_wp2_with (first | ((go_at_call 35); refine (distaffref01_bit.calls a0 k _ _ hbit).mono ?_; rintro e w2 ⟨rfl, ⟨nd, rfl⟩⟩))
      go_roundw
      case rel => exact ⟨k + 1, by omega, by go_num, blk_put (w := wr.drewN nd) HB.out k _ (by rw [cells_set]; exact congrArg cellsOf (mk_set (fun i => wrap64 (1 - bitOf a0 i)) k)), below_set (pw_below_drewN hbel nd) (Nat.le_refl _)⟩
      case measure => simp [intOf]; omega
    · have hnum := distaffref01_number.calls (mk (fun i => wrap64 (1 - bitOf a0 i)) 64) (mk_len _ _)
      obtain rfl : k = 64 := by omega
      have HN := Lib.hid hnum
      clear hnum
      go_wp2_with (first | (with_reducible refine wpList_load_row rfl 49 _ rfl w.heap.size rfl 49 _ (0, 0) _ HB.out Try.underlying49 rfl ?hi ?_) | ((go_at_call 45); refine (HN.out _).mono ?_; rintro e w2 ⟨rfl, hb2⟩))
      case hi => rw [cells_size, mk_len]; kernel_rfl
      go_ret
      exact ⟨by rw [HR.out]; first | done | rfl, below_then hbel hbel.size hb2⟩

/-! ### distaffref01_Neg: function 31 -/
def distaffref01_Neg.f (a0 : Int) : Option (Int) := (distaffref01_Not.f a0).bind fun t119 => ((distaffref01_Add.f t119 1).bind fun t120 => (some t120))
set_option maxHeartbeats 8000000 in
set_option maxRecDepth 100000 in
theorem distaffref01_Neg.calls (a0 : Int) (r : Int) (w : World) (h : distaffref01_Neg.f a0 = some r) :
    Calls Try.prog 31 #[.int .i64 a0] w fun e w' => e = .returned (.int .i64 r) ∧ Below w.heap.size w w' := by
  have HB := Aside0.mk (Below.refl w.heap.size w)
  have H : ((distaffref01_Not.f a0).bind fun t119 => ((distaffref01_Add.f t119 1).bind fun t120 => (some t120))) = some r := h
  clear h
  replace H := Option.bind_eq_some_iff.mp H
  obtain ⟨t119, A20, H⟩ := H
  replace H : ((distaffref01_Add.f t119 1).bind fun t120 => (some t120)) = some r := H
  have A2 := Aside0.mk A20
  clear A20
  replace H := Option.bind_eq_some_iff.mp H
  obtain ⟨t120, A30, H⟩ := H
  replace H : (some t120) = some r := H
  have A3 := Aside0.mk A30
  clear A30
  obtain rfl := Option.some.inj H
  go_enter Try.func31, Try.ntmps31
  go_wp2_with (first | ((with_reducible refine gate_callee (f := 40) rfl ?_); refine goesL_ (some 4) rfl rfl Try.func40 (by kernel_rfl) rfl #[.int .i64 a0] rfl (by (try simp only [List.map_toArray, List.map_cons, List.map_nil]); first | done | rfl | (simp only [List.length_drop, List.length_take]; rfl)) ?_; (with_reducible refine (distaffref01_Not.calls a0 t119 _ A2.out).mono ?_); rintro e w4 ⟨rfl, hb⟩; refine ⟨_, rfl, ?_⟩; have n0_ := Aside0.mk (below_step (by repeat (first | (with_reducible first | exact HB.out | apply below_alloc | apply pw_below_drewN | apply below_drew1) | exact HB.out)) hb); clear HB; have HB := n0_; clear n0_; (try clear hb); (try clear hb2); (try clear hk); (try clear hi)) | ((with_reducible refine gate_callee (f := 25) rfl ?_); refine goesL_ (some 5) rfl rfl Try.func25 (by kernel_rfl) rfl #[.int .i64 t119, .int .i64 1] rfl (by (try simp only [List.map_toArray, List.map_cons, List.map_nil]); first | done | rfl | (simp only [List.length_drop, List.length_take]; rfl)) ?_; (with_reducible refine (distaffref01_Add.calls t119 1 t120 _ A3.out).mono ?_); rintro e w5 ⟨rfl, hb⟩; refine ⟨_, rfl, ?_⟩; have n0_ := Aside0.mk (below_step (by repeat (first | (with_reducible first | exact HB.out | apply below_alloc | apply pw_below_drewN | apply below_drew1) | exact HB.out)) hb); clear HB; have HB := n0_; clear n0_; (try clear hb); (try clear hb2); (try clear hk); (try clear hi)))
  go_ret
  exact ⟨by first | rfl | (simp [errW_none, errW_some] <;> rfl) | (simp [*, errW_none, errW_some] <;> rfl), by repeat (first | (with_reducible first | exact HB.out | apply below_alloc | apply pw_below_drewN | apply below_drew1) | exact HB.out)⟩

/-! ### distaffref01_under: function 37 -/
def distaffref01_under.l0 : Nat → Int → Int → Int → Option (Bool)
  | 0, _, _, _ => none
  | k + 1, x0, x1, x5 => if x5 ≥ 0 then ((distaffref01_bit.f x0 x5).bind fun t121 => ((distaffref01_bit.f x1 x5).bind fun t122 => (if t121 = t122 then (distaffref01_under.l0 k x0 x1 (wrap64 (x5 - 1))) else ((distaffref01_bit.f x1 x5).bind fun t123 => (some (t123 == 1)))))) else (some false)
def distaffref01_under.f (k : Nat) (a0 : Int) (a1 : Int) : Option (Bool) := distaffref01_under.l0 k a0 a1 63
theorem distaffref01_under.mono_l : ∀ k, (∀ y0 y1 y2, LeO (distaffref01_under.l0 k y0 y1 y2) (distaffref01_under.l0 (k + 1) y0 y1 y2))
  | 0 => fun _ _ _ r h => by simp [distaffref01_under.l0] at h
  | k + 1 => by
    have ih0 := distaffref01_under.mono_l k
    · intro y0 y1 y2
      unfold distaffref01_under.l0
      repeat' first
      | (with_reducible exact ih0 _ _ _)
      | (with_reducible exact LeO.refl _)
      | (with_reducible exact LeO.none _)
      | (with_reducible refine LeO.ite ?_ ?_)
      | (with_reducible refine LeO.bind ?_ (fun _ => ?_))
      | exact ih0 _ _ _
      | exact LeO.none _
      | refine LeO.ite ?_ ?_
      | refine LeO.bind ?_ (fun _ => ?_)
theorem distaffref01_under.mono : ∀ a0 a1 k, LeO (distaffref01_under.f k a0 a1) (distaffref01_under.f (k + 1) a0 a1) := by
  intro a0 a1 k
  have ih0 := distaffref01_under.mono_l k
  unfold distaffref01_under.f
  repeat' first
      | (with_reducible exact ih0 _ _ _)
      | (with_reducible exact LeO.refl _)
      | (with_reducible exact LeO.none _)
      | (with_reducible refine LeO.ite ?_ ?_)
      | (with_reducible refine LeO.bind ?_ (fun _ => ?_))
      | exact ih0 _ _ _
      | exact LeO.none _
      | refine LeO.ite ?_ ?_
      | refine LeO.bind ?_ (fun _ => ?_)
set_option maxHeartbeats 8000000 in
set_option maxRecDepth 100000 in
theorem distaffref01_under.calls (k : Nat) (a0 : Int) (a1 : Int) (r : Bool) (w : World) (h : distaffref01_under.f k a0 a1 = some r) :
    Calls Try.prog 37 #[.int .i64 a0, .int .i64 a1] w fun e w' => e = .returned (.bool r) ∧ Drawn0 w w' := by
  have H : (distaffref01_under.l0 k a0 a1 63) = some r := h
  clear h
  have H' := Aside0.mk H
  clear H
  go_enter Try.func37, Try.ntmps37
  go_wp2
  go_loopg [5] k (fun kq v5 w' => ∃ (x5_1 : Int), v5 = .int .i64 x5_1 ∧ Aside0 (distaffref01_under.l0 kq a0 a1 x5_1 = some r) ∧ Aside0 (kq ≤ k) ∧ Drawn0 w w')
  case atStart => exact ⟨(63), (by first | rfl | (simp; done) | (simp [*]; done)), H', ⟨Nat.le_refl _⟩, by repeat (first | exact Drawn0.refl _ | apply Drawn0.step)⟩
  case round =>
    clear H'
    try clear p2
    obtain ⟨x5_1, rfl, HA, HK1, ⟨m1, rfl⟩⟩ := hrel
    cases gk with
    | zero => exact absurd HA.out (by simp [distaffref01_under.l0])
    | succ k1 =>
      have H := HA.out
      clear HA
      simp only [distaffref01_under.l0] at H
      by_cases c3 : x5_1 ≥ 0
      · rw [if_pos c3] at H
        have c3b0 : decide (0 ≤ x5_1) = true := decide_eq_true c3
        clear c3
        replace H := Option.bind_eq_some_iff.mp H
        obtain ⟨t121, A40, H⟩ := H
        replace H : ((distaffref01_bit.f a1 x5_1).bind fun t122 => (if t121 = t122 then (distaffref01_under.l0 k1 a0 a1 (wrap64 (x5_1 - 1))) else ((distaffref01_bit.f a1 x5_1).bind fun t123 => (some (t123 == 1))))) = some r := H
        have A4 := Aside0.mk A40
        clear A40
        replace H := Option.bind_eq_some_iff.mp H
        obtain ⟨t122, A50, H⟩ := H
        replace H : (if t121 = t122 then (distaffref01_under.l0 k1 a0 a1 (wrap64 (x5_1 - 1))) else ((distaffref01_bit.f a1 x5_1).bind fun t123 => (some (t123 == 1)))) = some r := H
        have A5 := Aside0.mk A50
        clear A50
        by_cases c6 : t121 = t122
        · rw [if_pos c6] at H
          have c6b0 : (t121 == t122) = true := beq_iff_eq.mpr c6
          have c6b1 : (t121 != t122) = false := bne_eq_false_iff_eq.mpr c6
          clear c6
          have H' := Aside0.mk H
          clear H
          go_wp2_with (first | ((with_reducible refine gate_callee (f := 35) rfl ?_); refine goesL_ (some 12) rfl rfl Try.func35 (by kernel_rfl) rfl #[.int .i64 a0, .int .i64 x5_1] rfl (by (try simp only [List.map_toArray, List.map_cons, List.map_nil]); first | done | rfl | (simp only [List.length_drop, List.length_take]; rfl)) ?_; (with_reducible refine (distaffref01_bit.calls a0 x5_1 t121 _ A4.out).mono ?_); rintro e w' ⟨rfl, ⟨nd, rfl⟩⟩; refine ⟨_, rfl, ?_⟩) | ((with_reducible refine gate_callee (f := 35) rfl ?_); refine goesL_ (some 15) rfl rfl Try.func35 (by kernel_rfl) rfl #[.int .i64 a1, .int .i64 x5_1] rfl (by (try simp only [List.map_toArray, List.map_cons, List.map_nil]); first | done | rfl | (simp only [List.length_drop, List.length_take]; rfl)) ?_; (with_reducible refine (distaffref01_bit.calls a1 x5_1 t122 _ A5.out).mono ?_); rintro e w' ⟨rfl, ⟨nd, rfl⟩⟩; refine ⟨_, rfl, ?_⟩))
          go_roundg k1
          case measure => have := HK1.out; omega
          case rel => exact ⟨(wrap64 (x5_1 - 1)), (by first | rfl | (simp; done) | (simp [*]; done)), H', ⟨by have := HK1.out; omega⟩, by repeat (first | exact Drawn0.refl _ | apply Drawn0.step)⟩
        · rw [if_neg c6] at H
          have c6b0 : (t121 == t122) = false := beq_eq_false_iff_ne.mpr c6
          have c6b1 : (t121 != t122) = true := bne_iff_ne.mpr c6
          replace H := Option.bind_eq_some_iff.mp H
          obtain ⟨t123, A70, H⟩ := H
          replace H : (some (t123 == 1)) = some r := H
          have A7 := Aside0.mk A70
          clear A70
          obtain rfl := Option.some.inj H
          go_wp2_with (first | ((with_reducible refine gate_callee (f := 35) rfl ?_); refine goesL_ (some 12) rfl rfl Try.func35 (by kernel_rfl) rfl #[.int .i64 a0, .int .i64 x5_1] rfl (by (try simp only [List.map_toArray, List.map_cons, List.map_nil]); first | done | rfl | (simp only [List.length_drop, List.length_take]; rfl)) ?_; (with_reducible refine (distaffref01_bit.calls a0 x5_1 t121 _ A4.out).mono ?_); rintro e w' ⟨rfl, ⟨nd, rfl⟩⟩; refine ⟨_, rfl, ?_⟩) | ((with_reducible refine gate_callee (f := 35) rfl ?_); refine goesL_ (some 15) rfl rfl Try.func35 (by kernel_rfl) rfl #[.int .i64 a1, .int .i64 x5_1] rfl (by (try simp only [List.map_toArray, List.map_cons, List.map_nil]); first | done | rfl | (simp only [List.length_drop, List.length_take]; rfl)) ?_; (with_reducible refine (distaffref01_bit.calls a1 x5_1 t122 _ A5.out).mono ?_); rintro e w' ⟨rfl, ⟨nd, rfl⟩⟩; refine ⟨_, rfl, ?_⟩) | ((with_reducible refine gate_callee (f := 35) rfl ?_); refine goesL_ (some 19) rfl rfl Try.func35 (by kernel_rfl) rfl #[.int .i64 a1, .int .i64 x5_1] rfl (by (try simp only [List.map_toArray, List.map_cons, List.map_nil]); first | done | rfl | (simp only [List.length_drop, List.length_take]; rfl)) ?_; (with_reducible refine (distaffref01_bit.calls a1 x5_1 t123 _ A7.out).mono ?_); rintro e w' ⟨rfl, ⟨nd, rfl⟩⟩; refine ⟨_, rfl, ?_⟩))
          go_ret
          exact ⟨by first | rfl | (simp; done) | (simp [*]; done), by repeat (first | exact Drawn0.refl _ | apply Drawn0.step)⟩
      · rw [if_neg c3] at H
        have c3b0 : decide (0 ≤ x5_1) = false := decide_eq_false c3
        clear c3
        obtain rfl := Option.some.inj H
        go_wp2
        go_ret
        exact ⟨by first | rfl | (simp; done) | (simp [*]; done), by repeat (first | exact Drawn0.refl _ | apply Drawn0.step)⟩

/-! ### divide: function 43 (by hand) -/
def distaffref01_divide.f (a0 : Int) (a1 : Int) : Option (Int × Int) := if a1 % 18446744073709551616 = 0 then none else some (wrap64 (a0 % 18446744073709551616 / (a1 % 18446744073709551616)), wrap64 (a0 % 18446744073709551616 % (a1 % 18446744073709551616)))
open Go.Proofs.Ytoojmpcpbnlkaaa.Arr in
theorem distaffref01_divide.bit (a : Int) (i : Nat) (h : i < 64) : distaffref01_bit.f a (i : Int) = some (bitOf a i) := by
  unfold distaffref01_bit.f
  rw [bit_expr a i h, if_pos (by rw [u64]; omega)]
open Go.Proofs.Ytoojmpcpbnlkaaa.Arr in
theorem distaffref01_divide.under_l (a b : Int) (j : Nat) : ∀ k, j < k → j ≤ 64 → distaffref01_under.l0 k a b ((j : Int) - 1) = some (decide (a % 2 ^ j < b % 2 ^ j)) := by
  induction j with
  | zero =>
    intro k hk _
    obtain ⟨k, rfl⟩ : ∃ m, k = m + 1 := ⟨k - 1, by omega⟩
    simp only [distaffref01_under.l0]
    rw [if_neg (by omega), mod_zero, mod_zero]; rfl
  | succ j ih =>
    intro k hk hj
    obtain ⟨k, rfl⟩ : ∃ m, k = m + 1 := ⟨k - 1, by omega⟩
    simp only [distaffref01_under.l0]
    rw [show ((j + 1 : Nat) : Int) - 1 = (j : Int) by omega, if_pos (by omega), distaffref01_divide.bit a j (by omega), distaffref01_divide.bit b j (by omega)]
    simp only [Option.bind_some]
    have hc := cmp_step a b j
    by_cases c : bitOf a j = bitOf b j
    · rw [if_pos c, show wrap64 ((j : Int) - 1) = (j : Int) - 1 by unfold wrap64; omega, ih k (by omega) (by omega)]
      rw [if_pos c] at hc
      exact congrArg some (by rw [Bool.eq_iff_iff, decide_eq_true_iff, decide_eq_true_iff, hc])
    · rw [if_neg c]
      rw [if_neg c] at hc
      exact congrArg some (by rw [Bool.eq_iff_iff, decide_eq_true_iff, hc, beq_iff_eq])
theorem distaffref01_divide.under (a b : Int) (k : Nat) (hk : 64 < k) : distaffref01_under.f k a b = some (decide (a % 18446744073709551616 < b % 18446744073709551616)) := by
  have := distaffref01_divide.under_l a b 64 k hk (by omega)
  exact this
theorem distaffref01_divide.neg (a : Int) : distaffref01_Neg.f a = some (wrap64 (-a)) := by
  unfold distaffref01_Neg.f distaffref01_Not.f distaffref01_Add.f
  simp only [Option.bind_some]
  refine congrArg some ?_
  unfold wrap64; omega
theorem distaffref01_divide.mod_wrap (a : Int) : wrap64 a % 18446744073709551616 = a % 18446744073709551616 := by
  unfold wrap64; omega
open Go.Proofs.Ytoojmpcpbnlkaaa.Arr in
set_option maxRecDepth 100000 in
set_option maxHeartbeats 2000000 in
theorem distaffref01_divide.calls (a0 : Int) (a1 : Int) (r1 : Int) (r2 : Int) (w : World) (h : distaffref01_divide.f a0 a1 = some (r1, r2)) :
    Calls Try.prog 43 #[.int .i64 a0, .int .i64 a1] w fun e w' => e = .returned (.tuple #[.int .i64 r1, .int .i64 r2]) ∧ Below w.heap.size w w' := by
  unfold distaffref01_divide.f at h
  by_cases hz : a1 % 18446744073709551616 = 0
  · rw [if_pos hz] at h; cases h
  · rw [if_neg hz] at h
    have h' := Option.some.inj h
    clear h
    obtain ⟨A, hA⟩ : ∃ A, A = a0 % 18446744073709551616 := ⟨_, rfl⟩
    obtain ⟨B, hB⟩ : ∃ B, B = a1 % 18446744073709551616 := ⟨_, rfl⟩
    rw [← hA, ← hB] at h'
    have hB0 : 0 < B := by omega
    have hB1 : B < 18446744073709551616 := by omega
    obtain ⟨f, hf⟩ : ∃ f : Nat → Int, f = fun i => bitOf (A / B) i := ⟨_, rfl⟩
    have hq : wrap64 (hi (mkd f 0)) = r1 := by
      rw [mkd_all, hf, num_eq _ (A / B) (fun j _ => rfl)]
      exact (Prod.mk.inj h').1
    have hr : wrap64 (A / 2 ^ 0 % B) = r2 := by
      rw [Int.pow_zero, Int.ediv_one]; exact (Prod.mk.inj h').2
    clear h'
    have hA64 : A / 2 ^ 64 % B = 0 := by
      rw [show (2 : Int) ^ 64 = 18446744073709551616 from rfl, Int.ediv_eq_zero_of_lt (by omega) (by omega), Int.zero_emod]
    have HQ := Lib.hid hq
    have HRR := Lib.hid hr
    have HF := Lib.hid hf
    have HA := Lib.hid hA
    have HBB := Lib.hid hB
    have HB0 := Lib.hid hB0
    have HB1 := Lib.hid hB1
    have H64 := Lib.hid hA64
    clear hf hq hr hA hB hB0 hB1 hz hA64
    go_enter Try.func43, Try.ntmps43
    go_wp2_with (first | (refine wpList_buildTo rfl 49 #[] rfl (some 10) rfl zeros (by kernel_rfl) ?_) | (refine wpList_store_rowTo rfl 49 (.tmp 6) (.tmp 10) rfl rfl w.heap.size zeros rfl rfl 49 _ (blk_new w _) (by kernel_rfl) rfl (by kernel_rfl) ?_))
    rw [World.setRow_alloc_new]
    go_loopw [7, 8] (fun rr i wr => ∃ j : Nat, j ≤ 64 ∧ i = .int .i64 ((j : Int) - 1) ∧ rr = .int .i64 (wrap64 (A / 2 ^ j % B)) ∧ wr.heap[w.heap.size]? = some (.cells (cellsOf (mkd f j)) 49 (0, 0)) ∧ Below w.heap.size w wr) (fun _ i _ => (intOf i + 1).toNat)
    case atStart => exact ⟨64, by omega, rfl, by rw [H64.out, show wrap64 0 = 0 by unfold wrap64; rfl], by rw [← zeros_eqd]; exact blk_new w _, (Below.refl _ _).alloc (Nat.le_refl _) _⟩
    case round =>
      obtain ⟨j, hj, rfl, rfl, hblk, hbel⟩ := hrel
      have HB := Lib.hid hblk
      clear hblk
      rcases j with _ | m
      · have hnum := distaffref01_number.calls (mkd f 0) (mkd_len _ _)
        have HN := Lib.hid hnum
        clear hnum
        obtain ⟨rr, hrr⟩ : ∃ rr, rr = wrap64 (A / 2 ^ 0 % B) := ⟨_, rfl⟩
        rw [← hrr]
        have HRQ := Lib.hid hrr
        clear hrr
        go_wp2_with (first | (with_reducible refine wpList_load_row rfl 49 _ rfl w.heap.size rfl 49 _ (0, 0) _ HB.out Try.underlying49 rfl ?hi ?_) | ((go_at_call 45); refine (HN.out _).mono ?_; rintro e w2 ⟨rfl, hb2⟩))
        case hi => rw [cells_size, mkd_len]; kernel_rfl
        go_ret2
        exact ⟨by rw [HQ.out, HRQ.out, HRR.out]; first | done | rfl, below_then hbel hbel.size hb2⟩
      · have e1 : ((m + 1 : Nat) : Int) - 1 = (m : Int) := by omega
        rw [e1]
        clear e1
        have hm : m < 64 := by omega
        obtain ⟨R, hR⟩ : ∃ R, R = A / 2 ^ (m + 1) % B := ⟨_, rfl⟩
        obtain ⟨t, ht⟩ : ∃ t, t = bitOf A m := ⟨_, rfl⟩
        obtain ⟨d1, d2⟩ := div_step A B m HB0.out
        have t01 := bit_01 A m
        have hb0 := HB0.out
        have hb1 := HB1.out
        have R0 : 0 ≤ R := by rw [hR]; exact Int.emod_nonneg _ (by omega)
        have R1 : R < B := by rw [hR]; exact Int.emod_lt_of_pos _ hb0
        rw [← hR, ← ht] at d1 d2
        rw [← ht] at t01
        obtain ⟨r, hr⟩ : ∃ r, r = wrap64 R := ⟨_, rfl⟩
        have hbt : distaffref01_bit.f a0 (m : Int) = some t := by
          rw [distaffref01_divide.bit a0 m hm, ht, HA.out, bit_mod a0 m hm]
        have hhigh : distaffref01_bit.f r 63 = some (if 9223372036854775808 ≤ R then 1 else 0) := by
          rw [show (63 : Int) = ((63 : Nat) : Int) from rfl, distaffref01_divide.bit r 63 (by decide), hr, high_bit R R0 (by omega)]
        obtain ⟨r2, hr2⟩ : ∃ r2, distaffref01_Add.f r r = some r2 ∧ r2 = wrap64 (2 * R) := ⟨wrap64 (r + r), rfl, by rw [hr]; unfold wrap64; omega⟩
        obtain ⟨r3, hr3⟩ : ∃ r3, distaffref01_Add.f r2 t = some r3 ∧ r3 = wrap64 (2 * R + t) := ⟨wrap64 (r2 + t), rfl, by rw [hr2.2]; unfold wrap64; omega⟩
        obtain ⟨nb, hnb⟩ : ∃ nb, distaffref01_Neg.f a1 = some nb ∧ nb = wrap64 (-a1) := ⟨_, distaffref01_divide.neg a1, rfl⟩
        obtain ⟨r4, hr4⟩ : ∃ r4, distaffref01_Add.f r3 nb = some r4 ∧ r4 = wrap64 (2 * R + t - B) := ⟨wrap64 (r3 + nb), rfl, by rw [hr3.2, hnb.2, HBB.out]; unfold wrap64; omega⟩
        have hun : distaffref01_under.f 100 r3 a1 = some (decide ((2 * R + t) % 18446744073709551616 < B)) := by
          rw [distaffref01_divide.under _ _ _ (by decide), hr3.2, distaffref01_divide.mod_wrap, ← HBB.out]
        rw [← hR, ← hr]
        have F1 := Lib.hid hhigh
        have F2 := Lib.hid hr2.1
        have F3 := Lib.hid hbt
        have F4 := Lib.hid hr3.1
        have F5 := Lib.hid hun
        have F6 := Lib.hid hnb.1
        have F7 := Lib.hid hr4.1
        have E3 := Lib.hid hr3.2
        have E4 := Lib.hid hr4.2
        have D1 := Lib.hid d1
        have D2 := Lib.hid d2
        have T := Lib.hid t01
        have Rb := Lib.hid (And.intro R0 (And.intro R1 hb1))
        clear hhigh hr2 hbt hr3 hun hnb hr4 d1 d2 t01 R0 R1 hb0 hb1 hR ht hr
        have bt : m ≤ 63 := by omega
        by_cases c : B ≤ 2 * R + t
        · -- it goes in once more
          have HV := Lib.hid (show f m = 1 by rw [HF.out]; exact D2.out.trans (if_pos c))
          have HW := Lib.hid (show wrap64 (A / 2 ^ m % B) = r4 by rw [D1.out, if_pos c, E4.out])
          by_cases c2 : 9223372036854775808 ≤ R
          · have G1 := Lib.hid (F1.out.trans (by rw [if_pos c2]))
            clear F1 c c2
            go_wp2_with fail
            refine (distaffref01_bit.calls r 63 1 _ G1.out).mono ?_; rintro e w2 ⟨rfl, ⟨nd, rfl⟩⟩
            go_wp2_with fail
            refine (distaffref01_Add.calls r r r2 _ F2.out).mono ?_; rintro e w3 ⟨rfl, h3⟩
            go_wp2_with fail
            refine (distaffref01_bit.calls a0 m t _ F3.out).mono ?_; rintro e w4 ⟨rfl, ⟨nd4, rfl⟩⟩
            go_wp2_with fail
            refine (distaffref01_Add.calls r2 t r3 _ F4.out).mono ?_; rintro e w5 ⟨rfl, h5⟩
            go_wp2_with fail
            refine (distaffref01_Neg.calls a1 nb _ F6.out).mono ?_; rintro e w6 ⟨rfl, h6⟩
            go_wp2_with fail
            refine (distaffref01_Add.calls r3 nb r4 _ F7.out).mono ?_; rintro e w7 ⟨rfl, h7⟩
            have K3 := blk_below (blk_drewN HB.out nd) h3
            have K5 := blk_below (blk_drewN K3 nd4) h5
            have K6 := blk_below K5 h6
            have K7 := blk_below K6 h7
            have HBel := Lib.hid (below_step (below_step (below_step (pw_below_drewN (below_step (pw_below_drewN hbel nd) h3) nd4) h5) h6) h7)
            obtain ⟨v, hcell⟩ : ∃ v, w7.cell? ⟨w.heap.size, m, none⟩ = some v := ⟨_, (blk_cell K7 m).trans (cells_at _ m (by rw [mkd_len]; omega))⟩
            have hfz := blk_frozen K7 m
            have HK := Lib.hid K7
            clear K3 K5 K6 K7 h3 h5 h6 h7
            go_wp2
            go_roundw
            case rel => exact ⟨m, by omega, rfl, by rw [HW.out], blk_put HK.out m _ (by rw [cells_set, ← HV.out, mkd_set]), below_set HBel.out (Nat.le_refl _)⟩
            case measure => simp [intOf]
          · have G1 := Lib.hid (F1.out.trans (by rw [if_neg c2]))
            have G5 : Hid (distaffref01_under.f 100 r3 a1 = some false) := Lib.hid (F5.out.trans (by
              have := Rb.out; have := T.out
              exact congrArg some (decide_eq_false (by omega))))
            clear F1 c c2
            go_wp2_with fail
            refine (distaffref01_bit.calls r 63 0 _ G1.out).mono ?_; rintro e w2 ⟨rfl, ⟨nd, rfl⟩⟩
            go_wp2_with fail
            refine (distaffref01_Add.calls r r r2 _ F2.out).mono ?_; rintro e w3 ⟨rfl, h3⟩
            go_wp2_with fail
            refine (distaffref01_bit.calls a0 m t _ F3.out).mono ?_; rintro e w4 ⟨rfl, ⟨nd4, rfl⟩⟩
            go_wp2_with fail
            refine (distaffref01_Add.calls r2 t r3 _ F4.out).mono ?_; rintro e w5 ⟨rfl, h5⟩
            go_wp2_with fail
            refine (distaffref01_under.calls 100 r3 a1 false _ G5.out).mono ?_; rintro e w5b ⟨rfl, ⟨nd5, rfl⟩⟩
            go_wp2_with fail
            refine (distaffref01_Neg.calls a1 nb _ F6.out).mono ?_; rintro e w6 ⟨rfl, h6⟩
            go_wp2_with fail
            refine (distaffref01_Add.calls r3 nb r4 _ F7.out).mono ?_; rintro e w7 ⟨rfl, h7⟩
            have K3 := blk_below (blk_drewN HB.out nd) h3
            have K5 := blk_below (blk_drewN K3 nd4) h5
            have K6 := blk_below (blk_drewN K5 nd5) h6
            have K7 := blk_below K6 h7
            have HBel := Lib.hid (below_step (below_step (pw_below_drewN (below_step (pw_below_drewN (below_step (pw_below_drewN hbel nd) h3) nd4) h5) nd5) h6) h7)
            obtain ⟨v, hcell⟩ : ∃ v, w7.cell? ⟨w.heap.size, m, none⟩ = some v := ⟨_, (blk_cell K7 m).trans (cells_at _ m (by rw [mkd_len]; omega))⟩
            have hfz := blk_frozen K7 m
            have HK := Lib.hid K7
            clear K3 K5 K6 K7 h3 h5 h6 h7
            go_wp2
            go_roundw
            case rel => exact ⟨m, by omega, rfl, by rw [HW.out], blk_put HK.out m _ (by rw [cells_set, ← HV.out, mkd_set]), below_set HBel.out (Nat.le_refl _)⟩
            case measure => simp [intOf]
        · have HV := Lib.hid (show f m = 0 by rw [HF.out]; exact D2.out.trans (if_neg c))
          have HW := Lib.hid (show wrap64 (A / 2 ^ m % B) = r3 by rw [D1.out, if_neg c, E3.out])
          have c2 : ¬ 9223372036854775808 ≤ R := by have := Rb.out; have := T.out; omega
          have G1 := Lib.hid (F1.out.trans (by rw [if_neg c2]))
          have G5 : Hid (distaffref01_under.f 100 r3 a1 = some true) := Lib.hid (F5.out.trans (by
            have := Rb.out; have := T.out
            exact congrArg some (decide_eq_true (by omega))))
          clear F1 c c2
          go_wp2_with fail
          refine (distaffref01_bit.calls r 63 0 _ G1.out).mono ?_; rintro e w2 ⟨rfl, ⟨nd, rfl⟩⟩
          go_wp2_with fail
          refine (distaffref01_Add.calls r r r2 _ F2.out).mono ?_; rintro e w3 ⟨rfl, h3⟩
          go_wp2_with fail
          refine (distaffref01_bit.calls a0 m t _ F3.out).mono ?_; rintro e w4 ⟨rfl, ⟨nd4, rfl⟩⟩
          go_wp2_with fail
          refine (distaffref01_Add.calls r2 t r3 _ F4.out).mono ?_; rintro e w5 ⟨rfl, h5⟩
          go_wp2_with fail
          refine (distaffref01_under.calls 100 r3 a1 true _ G5.out).mono ?_; rintro e w5b ⟨rfl, ⟨nd5, rfl⟩⟩
          have K3 := blk_below (blk_drewN HB.out nd) h3
          have K5 := blk_below (blk_drewN K3 nd4) h5
          have HK := Lib.hid (blk_drewN K5 nd5)
          have HBel := Lib.hid (pw_below_drewN (below_step (pw_below_drewN (below_step (pw_below_drewN hbel nd) h3) nd4) h5) nd5)
          clear K3 K5 h3 h5
          go_wp2
          go_roundw
          case rel => exact ⟨m, by omega, rfl, by rw [HW.out], by rw [← mkd_zero f m HV.out]; exact HK.out, HBel.out⟩
          case measure => simp [intOf]

/-! ### distaffref01_size: function 44 -/
def distaffref01_size.f (a0 : Int) : Option (Int) := (distaffref01_bit.f a0 63).bind fun t124 => (if t124 = 1 then ((distaffref01_Neg.f a0).bind fun t125 => (some t125)) else (some a0))
set_option maxHeartbeats 8000000 in
set_option maxRecDepth 100000 in
theorem distaffref01_size.calls (a0 : Int) (r : Int) (w : World) (h : distaffref01_size.f a0 = some r) :
    Calls Try.prog 44 #[.int .i64 a0] w fun e w' => e = .returned (.int .i64 r) ∧ Below w.heap.size w w' := by
  have HB := Aside0.mk (Below.refl w.heap.size w)
  have H : ((distaffref01_bit.f a0 63).bind fun t124 => (if t124 = 1 then ((distaffref01_Neg.f a0).bind fun t125 => (some t125)) else (some a0))) = some r := h
  clear h
  replace H := Option.bind_eq_some_iff.mp H
  obtain ⟨t124, A20, H⟩ := H
  replace H : (if t124 = 1 then ((distaffref01_Neg.f a0).bind fun t125 => (some t125)) else (some a0)) = some r := H
  have A2 := Aside0.mk A20
  clear A20
  by_cases c3 : t124 = 1
  · rw [if_pos c3] at H
    have c3b0 : (t124 == 1) = true := beq_iff_eq.mpr c3
    have c3b1 : (t124 != 1) = false := bne_eq_false_iff_eq.mpr c3
    clear c3
    replace H := Option.bind_eq_some_iff.mp H
    obtain ⟨t125, A40, H⟩ := H
    replace H : (some t125) = some r := H
    have A4 := Aside0.mk A40
    clear A40
    obtain rfl := Option.some.inj H
    go_enter Try.func44, Try.ntmps44
    go_wp2_with (first | ((with_reducible refine gate_callee (f := 35) rfl ?_); refine goesL_ (some 4) rfl rfl Try.func35 (by kernel_rfl) rfl #[.int .i64 a0, .int .i64 63] rfl (by (try simp only [List.map_toArray, List.map_cons, List.map_nil]); first | done | rfl | (simp only [List.length_drop, List.length_take]; rfl)) ?_; (with_reducible refine (distaffref01_bit.calls a0 63 t124 _ A2.out).mono ?_); rintro e w' ⟨rfl, ⟨nd, rfl⟩⟩; refine ⟨_, rfl, ?_⟩) | ((with_reducible refine gate_callee (f := 31) rfl ?_); refine goesL_ (some 7) rfl rfl Try.func31 (by kernel_rfl) rfl #[.int .i64 a0] rfl (by (try simp only [List.map_toArray, List.map_cons, List.map_nil]); first | done | rfl | (simp only [List.length_drop, List.length_take]; rfl)) ?_; (with_reducible refine (distaffref01_Neg.calls a0 t125 _ A4.out).mono ?_); rintro e w5 ⟨rfl, hb⟩; refine ⟨_, rfl, ?_⟩; have n0_ := Aside0.mk (below_step (by repeat (first | (with_reducible first | exact HB.out | apply below_alloc | apply pw_below_drewN | apply below_drew1) | exact HB.out)) hb); clear HB; have HB := n0_; clear n0_; (try clear hb); (try clear hb2); (try clear hk); (try clear hi)))
    go_ret
    exact ⟨by first | rfl | (simp [errW_none, errW_some] <;> rfl) | (simp [*, errW_none, errW_some] <;> rfl), by repeat (first | (with_reducible first | exact HB.out | apply below_alloc | apply pw_below_drewN | apply below_drew1) | exact HB.out)⟩
  · rw [if_neg c3] at H
    have c3b0 : (t124 == 1) = false := beq_eq_false_iff_ne.mpr c3
    have c3b1 : (t124 != 1) = true := bne_iff_ne.mpr c3
    obtain rfl := Option.some.inj H
    go_enter Try.func44, Try.ntmps44
    go_wp2_with (first | ((with_reducible refine gate_callee (f := 35) rfl ?_); refine goesL_ (some 4) rfl rfl Try.func35 (by kernel_rfl) rfl #[.int .i64 a0, .int .i64 63] rfl (by (try simp only [List.map_toArray, List.map_cons, List.map_nil]); first | done | rfl | (simp only [List.length_drop, List.length_take]; rfl)) ?_; (with_reducible refine (distaffref01_bit.calls a0 63 t124 _ A2.out).mono ?_); rintro e w' ⟨rfl, ⟨nd, rfl⟩⟩; refine ⟨_, rfl, ?_⟩))
    go_ret
    exact ⟨by first | rfl | (simp [errW_none, errW_some] <;> rfl) | (simp [*, errW_none, errW_some] <;> rfl), by repeat (first | (with_reducible first | exact HB.out | apply below_alloc | apply pw_below_drewN | apply below_drew1) | exact HB.out)⟩

/-! ### distaffref01_Div: function 24 -/
def distaffref01_Div.j0 : Nat → Int → Int → Int → Option (Int × Int)
  | 0, _, _, _ => none
  | k + 1, x0, x6, x7 => (distaffref01_bit.f x0 63).bind fun t133 => (if t133 = 1 then ((distaffref01_Neg.f x7).bind fun t134 => (some (x6, t134))) else (some (x6, x7)))
def distaffref01_Div.f (k : Nat) (a0 : Int) (a1 : Int) : Option (Int × Int) := (distaffref01_size.f a0).bind fun t126 => ((distaffref01_size.f a1).bind fun t127 => ((distaffref01_divide.f t126 t127).bind fun bt128 => ((distaffref01_bit.f a0 63).bind fun t130 => ((distaffref01_bit.f a1 63).bind fun t131 => (if t130 = t131 then (distaffref01_Div.j0 k a0 bt128.1 bt128.2) else ((distaffref01_Neg.f bt128.1).bind fun t132 => (distaffref01_Div.j0 k a0 t132 bt128.2)))))))
theorem distaffref01_Div.mono_l : ∀ k, (∀ y0 y1 y2, LeO (distaffref01_Div.j0 k y0 y1 y2) (distaffref01_Div.j0 (k + 1) y0 y1 y2))
  | 0 => fun _ _ _ r h => by simp [distaffref01_Div.j0] at h
  | k + 1 => by
    have ih0 := distaffref01_Div.mono_l k
    · intro y0 y1 y2
      unfold distaffref01_Div.j0
      repeat' first
      | (with_reducible exact ih0 _ _ _)
      | (with_reducible exact LeO.refl _)
      | (with_reducible exact LeO.none _)
      | (with_reducible refine LeO.ite ?_ ?_)
      | (with_reducible refine LeO.bind ?_ (fun _ => ?_))
      | exact ih0 _ _ _
      | exact LeO.none _
      | refine LeO.ite ?_ ?_
      | refine LeO.bind ?_ (fun _ => ?_)
theorem distaffref01_Div.mono : ∀ a0 a1 k, LeO (distaffref01_Div.f k a0 a1) (distaffref01_Div.f (k + 1) a0 a1) := by
  intro a0 a1 k
  have ih0 := distaffref01_Div.mono_l k
  unfold distaffref01_Div.f
  repeat' first
      | (with_reducible exact ih0 _ _ _)
      | (with_reducible exact LeO.refl _)
      | (with_reducible exact LeO.none _)
      | (with_reducible refine LeO.ite ?_ ?_)
      | (with_reducible refine LeO.bind ?_ (fun _ => ?_))
      | exact ih0 _ _ _
      | exact LeO.none _
      | refine LeO.ite ?_ ?_
      | refine LeO.bind ?_ (fun _ => ?_)
set_option maxHeartbeats 8000000 in
set_option maxRecDepth 100000 in
theorem distaffref01_Div.calls (k : Nat) (a0 : Int) (a1 : Int) (r1 : Int) (r2 : Int) (w : World) (h : distaffref01_Div.f k a0 a1 = some (r1, r2)) :
    Calls Try.prog 24 #[.int .i64 a0, .int .i64 a1] w fun e w' => e = .returned (.tuple #[.int .i64 r1, .int .i64 r2]) ∧ Below w.heap.size w w' := by
  have HB := Aside0.mk (Below.refl w.heap.size w)
  have H : ((distaffref01_size.f a0).bind fun t126 => ((distaffref01_size.f a1).bind fun t127 => ((distaffref01_divide.f t126 t127).bind fun bt128 => ((distaffref01_bit.f a0 63).bind fun t130 => ((distaffref01_bit.f a1 63).bind fun t131 => (if t130 = t131 then (distaffref01_Div.j0 k a0 bt128.1 bt128.2) else ((distaffref01_Neg.f bt128.1).bind fun t132 => (distaffref01_Div.j0 k a0 t132 bt128.2)))))))) = some (r1, r2) := h
  clear h
  replace H := Option.bind_eq_some_iff.mp H
  obtain ⟨t126, A30, H⟩ := H
  replace H : ((distaffref01_size.f a1).bind fun t127 => ((distaffref01_divide.f t126 t127).bind fun bt128 => ((distaffref01_bit.f a0 63).bind fun t130 => ((distaffref01_bit.f a1 63).bind fun t131 => (if t130 = t131 then (distaffref01_Div.j0 k a0 bt128.1 bt128.2) else ((distaffref01_Neg.f bt128.1).bind fun t132 => (distaffref01_Div.j0 k a0 t132 bt128.2))))))) = some (r1, r2) := H
  have A3 := Aside0.mk A30
  clear A30
  replace H := Option.bind_eq_some_iff.mp H
  obtain ⟨t127, A40, H⟩ := H
  replace H : ((distaffref01_divide.f t126 t127).bind fun bt128 => ((distaffref01_bit.f a0 63).bind fun t130 => ((distaffref01_bit.f a1 63).bind fun t131 => (if t130 = t131 then (distaffref01_Div.j0 k a0 bt128.1 bt128.2) else ((distaffref01_Neg.f bt128.1).bind fun t132 => (distaffref01_Div.j0 k a0 t132 bt128.2)))))) = some (r1, r2) := H
  have A4 := Aside0.mk A40
  clear A40
  replace H := Option.bind_eq_some_iff.mp H
  obtain ⟨⟨t128, t129⟩, A50, H⟩ := H
  replace H : ((distaffref01_bit.f a0 63).bind fun t130 => ((distaffref01_bit.f a1 63).bind fun t131 => (if t130 = t131 then (distaffref01_Div.j0 k a0 t128 t129) else ((distaffref01_Neg.f t128).bind fun t132 => (distaffref01_Div.j0 k a0 t132 t129))))) = some (r1, r2) := H
  have A5 := Aside0.mk A50
  clear A50
  replace H := Option.bind_eq_some_iff.mp H
  obtain ⟨t130, A60, H⟩ := H
  replace H : ((distaffref01_bit.f a1 63).bind fun t131 => (if t130 = t131 then (distaffref01_Div.j0 k a0 t128 t129) else ((distaffref01_Neg.f t128).bind fun t132 => (distaffref01_Div.j0 k a0 t132 t129)))) = some (r1, r2) := H
  have A6 := Aside0.mk A60
  clear A60
  replace H := Option.bind_eq_some_iff.mp H
  obtain ⟨t131, A70, H⟩ := H
  replace H : (if t130 = t131 then (distaffref01_Div.j0 k a0 t128 t129) else ((distaffref01_Neg.f t128).bind fun t132 => (distaffref01_Div.j0 k a0 t132 t129))) = some (r1, r2) := H
  have A7 := Aside0.mk A70
  clear A70
  have HC8 := Aside0.mk H
  clear H
  go_enter Try.func24, Try.ntmps24
  go_upto_if 20 with (first | ((with_reducible refine gate_callee (f := 44) rfl ?_); refine goesL_ (some 10) rfl rfl Try.func44 (by kernel_rfl) rfl #[.int .i64 a0] rfl (by (try simp only [List.map_toArray, List.map_cons, List.map_nil]); first | done | rfl | (simp only [List.length_drop, List.length_take]; rfl)) ?_; (with_reducible refine (distaffref01_size.calls a0 t126 _ A3.out).mono ?_); rintro e w9 ⟨rfl, hb⟩; refine ⟨_, rfl, ?_⟩; have n0_ := Aside0.mk (below_step (by repeat (first | (with_reducible first | exact HB.out | apply below_alloc | apply pw_below_drewN | apply below_drew1) | exact HB.out)) hb); clear HB; have HB := n0_; clear n0_; (try clear hb); (try clear hb2); (try clear hk); (try clear hi)) | ((with_reducible refine gate_callee (f := 44) rfl ?_); refine goesL_ (some 12) rfl rfl Try.func44 (by kernel_rfl) rfl #[.int .i64 a1] rfl (by (try simp only [List.map_toArray, List.map_cons, List.map_nil]); first | done | rfl | (simp only [List.length_drop, List.length_take]; rfl)) ?_; (with_reducible refine (distaffref01_size.calls a1 t127 _ A4.out).mono ?_); rintro e w10 ⟨rfl, hb⟩; refine ⟨_, rfl, ?_⟩; have n0_ := Aside0.mk (below_step (by repeat (first | (with_reducible first | exact HB.out | apply below_alloc | apply pw_below_drewN | apply below_drew1) | exact HB.out)) hb); clear HB; have HB := n0_; clear n0_; (try clear hb); (try clear hb2); (try clear hk); (try clear hi)) | ((with_reducible refine gate_callee (f := 43) rfl ?_); refine goesL_ (some 13) rfl rfl Try.func43 (by kernel_rfl) rfl #[.int .i64 t126, .int .i64 t127] rfl (by (try simp only [List.map_toArray, List.map_cons, List.map_nil]); first | done | rfl | (simp only [List.length_drop, List.length_take]; rfl)) ?_; (with_reducible refine (distaffref01_divide.calls t126 t127 t128 t129 _ A5.out).mono ?_); rintro e w11 ⟨rfl, hb⟩; refine ⟨_, rfl, ?_⟩; have n0_ := Aside0.mk (below_step (by repeat (first | (with_reducible first | exact HB.out | apply below_alloc | apply pw_below_drewN | apply below_drew1) | exact HB.out)) hb); clear HB; have HB := n0_; clear n0_; (try clear hb); (try clear hb2); (try clear hk); (try clear hi)) | ((with_reducible refine gate_callee (f := 35) rfl ?_); refine goesL_ (some 17) rfl rfl Try.func35 (by kernel_rfl) rfl #[.int .i64 a0, .int .i64 63] rfl (by (try simp only [List.map_toArray, List.map_cons, List.map_nil]); first | done | rfl | (simp only [List.length_drop, List.length_take]; rfl)) ?_; (with_reducible refine (distaffref01_bit.calls a0 63 t130 _ A6.out).mono ?_); rintro e w' ⟨rfl, ⟨nd, rfl⟩⟩; refine ⟨_, rfl, ?_⟩) | ((with_reducible refine gate_callee (f := 35) rfl ?_); refine goesL_ (some 19) rfl rfl Try.func35 (by kernel_rfl) rfl #[.int .i64 a1, .int .i64 63] rfl (by (try simp only [List.map_toArray, List.map_cons, List.map_nil]); first | done | rfl | (simp only [List.length_drop, List.length_take]; rfl)) ?_; (with_reducible refine (distaffref01_bit.calls a1 63 t131 _ A7.out).mono ?_); rintro e w' ⟨rfl, ⟨nd, rfl⟩⟩; refine ⟨_, rfl, ?_⟩))
  (try simp only [Act.put, List.setIfInBounds_toArray, List.set_cons_zero, List.set_cons_succ])
  go_cut [6] (fun v6 wc => ∃ (kq : Nat) (x6_7 : Int), v6 = .int .i64 x6_7 ∧ Aside0 (distaffref01_Div.j0 kq a0 x6_7 t129 = some (r1, r2)) ∧ Aside0 (kq ≤ k) ∧ Aside0 (Below w.heap.size w wc))
  case first =>
    have H := HC8.out
    clear HC8
    by_cases c12 : t130 = t131
    · rw [if_pos c12] at H
      have c12b0 : (t130 == t131) = true := beq_iff_eq.mpr c12
      have c12b1 : (t130 != t131) = false := bne_eq_false_iff_eq.mpr c12
      clear c12
      (first | rw [c12b0] | (simp only [i64_w, i32_w]; rw [c12b0]) | skip)
      have H' := Aside0.mk H
      clear H
      go_wp2
      go_meet
      case rel => exact ⟨_, (t128), (by first | rfl | (simp; done) | (simp [*]; done)), H', ⟨by first | omega | exact Nat.le_refl _⟩, ⟨by repeat (first | (with_reducible first | exact HB.out | apply below_alloc | apply pw_below_drewN | apply below_drew1) | exact HB.out)⟩⟩
    · rw [if_neg c12] at H
      have c12b0 : (t130 == t131) = false := beq_eq_false_iff_ne.mpr c12
      have c12b1 : (t130 != t131) = true := bne_iff_ne.mpr c12
      (first | rw [c12b0] | (simp only [i64_w, i32_w]; rw [c12b0]) | skip)
      replace H := Option.bind_eq_some_iff.mp H
      obtain ⟨t132, A130, H⟩ := H
      replace H : (distaffref01_Div.j0 k a0 t132 t129) = some (r1, r2) := H
      have A13 := Aside0.mk A130
      clear A130
      have H' := Aside0.mk H
      clear H
      go_wp2_with (first | ((with_reducible refine gate_callee (f := 31) rfl ?_); refine goesL_ (some 22) rfl rfl Try.func31 (by kernel_rfl) rfl #[.int .i64 t128] rfl (by (try simp only [List.map_toArray, List.map_cons, List.map_nil]); first | done | rfl | (simp only [List.length_drop, List.length_take]; rfl)) ?_; (with_reducible refine (distaffref01_Neg.calls t128 t132 _ A13.out).mono ?_); rintro e w14 ⟨rfl, hb⟩; refine ⟨_, rfl, ?_⟩; have n0_ := Aside0.mk (below_step (by repeat (first | (with_reducible first | exact HB.out | apply below_alloc | apply pw_below_drewN | apply below_drew1) | exact HB.out)) hb); clear HB; have HB := n0_; clear n0_; (try clear hb); (try clear hb2); (try clear hk); (try clear hi)))
      go_meet
      case rel => exact ⟨_, (t132), (by first | rfl | (simp; done) | (simp [*]; done)), H', ⟨by first | omega | exact Nat.le_refl _⟩, ⟨by repeat (first | (with_reducible first | exact HB.out | apply below_alloc | apply pw_below_drewN | apply below_drew1) | exact HB.out)⟩⟩
  case rest =>
    clear HC8
    try clear c1
    try clear c2
    try clear p2
    try clear c3
    try clear c4
    try clear c12
    try clear c12b0
    try clear c12b1
    obtain ⟨kq, x6_7, rfl, HA, HJ7, HB⟩ := hcut
    cases kq with
    | zero => exact absurd HA.out (by simp [distaffref01_Div.j0])
    | succ kj7 =>
      have H := HA.out
      clear HA
      simp only [distaffref01_Div.j0] at H
      replace H := Option.bind_eq_some_iff.mp H
      obtain ⟨t133, A150, H⟩ := H
      replace H : (if t133 = 1 then ((distaffref01_Neg.f t129).bind fun t134 => (some (x6_7, t134))) else (some (x6_7, t129))) = some (r1, r2) := H
      have A15 := Aside0.mk A150
      clear A150
      by_cases c16 : t133 = 1
      · rw [if_pos c16] at H
        have c16b0 : (t133 == 1) = true := beq_iff_eq.mpr c16
        have c16b1 : (t133 != 1) = false := bne_eq_false_iff_eq.mpr c16
        clear c16
        replace H := Option.bind_eq_some_iff.mp H
        obtain ⟨t134, A170, H⟩ := H
        replace H : (some (x6_7, t134)) = some (r1, r2) := H
        have A17 := Aside0.mk A170
        clear A170
        simp only [Option.some.injEq, Prod.mk.injEq] at H
        obtain ⟨rfl, rfl⟩ := H
        go_wp2_with (first | ((with_reducible refine gate_callee (f := 35) rfl ?_); refine goesL_ (some 24) rfl rfl Try.func35 (by kernel_rfl) rfl #[.int .i64 a0, .int .i64 63] rfl (by (try simp only [List.map_toArray, List.map_cons, List.map_nil]); first | done | rfl | (simp only [List.length_drop, List.length_take]; rfl)) ?_; (with_reducible refine (distaffref01_bit.calls a0 63 t133 _ A15.out).mono ?_); rintro e w' ⟨rfl, ⟨nd, rfl⟩⟩; refine ⟨_, rfl, ?_⟩) | ((with_reducible refine gate_callee (f := 31) rfl ?_); refine goesL_ (some 27) rfl rfl Try.func31 (by kernel_rfl) rfl #[.int .i64 t129] rfl (by (try simp only [List.map_toArray, List.map_cons, List.map_nil]); first | done | rfl | (simp only [List.length_drop, List.length_take]; rfl)) ?_; (with_reducible refine (distaffref01_Neg.calls t129 t134 _ A17.out).mono ?_); rintro e w18 ⟨rfl, hb⟩; refine ⟨_, rfl, ?_⟩; have n0_ := Aside0.mk (below_step (by repeat (first | (with_reducible first | exact HB.out | apply below_alloc | apply pw_below_drewN | apply below_drew1) | exact HB.out)) hb); clear HB; have HB := n0_; clear n0_; (try clear hb); (try clear hb2); (try clear hk); (try clear hi)))
        go_ret2
        exact ⟨by first | rfl | (simp [errW_none, errW_some] <;> rfl) | (simp [*, errW_none, errW_some] <;> rfl), by repeat (first | (with_reducible first | exact HB.out | apply below_alloc | apply pw_below_drewN | apply below_drew1) | exact HB.out)⟩
      · rw [if_neg c16] at H
        have c16b0 : (t133 == 1) = false := beq_eq_false_iff_ne.mpr c16
        have c16b1 : (t133 != 1) = true := bne_iff_ne.mpr c16
        simp only [Option.some.injEq, Prod.mk.injEq] at H
        obtain ⟨rfl, rfl⟩ := H
        go_wp2_with (first | ((with_reducible refine gate_callee (f := 35) rfl ?_); refine goesL_ (some 24) rfl rfl Try.func35 (by kernel_rfl) rfl #[.int .i64 a0, .int .i64 63] rfl (by (try simp only [List.map_toArray, List.map_cons, List.map_nil]); first | done | rfl | (simp only [List.length_drop, List.length_take]; rfl)) ?_; (with_reducible refine (distaffref01_bit.calls a0 63 t133 _ A15.out).mono ?_); rintro e w' ⟨rfl, ⟨nd, rfl⟩⟩; refine ⟨_, rfl, ?_⟩))
        go_ret2
        exact ⟨by first | rfl | (simp [errW_none, errW_some] <;> rfl) | (simp [*, errW_none, errW_some] <;> rfl), by repeat (first | (with_reducible first | exact HB.out | apply below_alloc | apply pw_below_drewN | apply below_drew1) | exact HB.out)⟩

end Go.Proofs.Ytoojmpcpbnlkaaa.PArithSums
