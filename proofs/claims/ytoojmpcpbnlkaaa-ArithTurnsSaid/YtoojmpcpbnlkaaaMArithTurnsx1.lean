/- Contracts of the Go functions that the statement ArithTurns reaches, and its row: what each answers, as a Lean function, and that the Go code answers just so. No further condition. -/
import Derived.Test.YtoojmpcpbnlkaaaMArithTurnsx0
namespace Go.Proofs.Ytoojmpcpbnlkaaa.PArithTurns
open Go.RowKit Go.Proofs.YtoojmpcpbnlkaaaW.PrintWords Go.Proofs.YtoojmpcpbnlkaaaW.PrintLast Go.Proofs.YtoojmpcpbnlkaaaW.PrintMore
attribute [local go_sem] max2_int min2_int max_two min_two max_three min_three max_four min_four   -- for this text's walks alone
set_option linter.unusedVariables false
set_option linter.unusedSimpArgs false

/-! ### distaffref01_bit: function 35 -/
def distaffref01_bit.f (a0 : Int) (a1 : Int) : Option (Int) := if 0 ≤ (IntKind.u64.wrap (a1)) then (some (wrap64 (Go.bits .and .u64 (shr .u64 (IntKind.u64.wrap (a0)) (IntKind.u64.wrap (a1))) 1))) else (none)
set_option maxHeartbeats 8000000 in
set_option maxRecDepth 100000 in
theorem distaffref01_bit.calls (a0 : Int) (a1 : Int) (r : Int) (w : World) (h : distaffref01_bit.f a0 a1 = some r) :
    Calls Try.prog 35 #[.int .i64 a0, .int .i64 a1] w fun e w' => e = .returned (.int .i64 r) ∧ Drawn0 w w' := by
  have H : (if 0 ≤ (IntKind.u64.wrap (a1)) then (some (wrap64 (Go.bits .and .u64 (shr .u64 (IntKind.u64.wrap (a0)) (IntKind.u64.wrap (a1))) 1))) else (none)) = some r := h
  clear h
  obtain ⟨ji3, hji3⟩ : ∃ j_ : Int, (IntKind.u64.wrap (a1)) = j_ := ⟨_, rfl⟩
  replace H : (if 0 ≤ (ji3) then (some (wrap64 (Go.bits .and .u64 (shr .u64 (IntKind.u64.wrap (a0)) (ji3)) 1))) else (none)) = some r := by first | (rw [hji3] at H; exact H) | (simp only [hji3] at H ⊢; exact H)
  by_cases c4 : 0 ≤ (ji3)
  · rw [if_pos c4] at H
    have c4b0 := eq_true c4
    have c4b1 : decide (0 ≤ (ji3)) = true := decide_eq_true c4
    clear c4
    obtain ⟨ji5, hji5⟩ : ∃ j_ : Int, (shr .u64 (IntKind.u64.wrap (a0)) (ji3)) = j_ := ⟨_, rfl⟩
    replace H : (some (wrap64 (Go.bits .and .u64 (ji5) 1))) = some r := by first | (rw [hji5] at H; exact H) | (simp only [hji5] at H ⊢; exact H)
    have hji5_ : ((IntKind.u64.wrap (a0)) / 2 ^ min (ji3).toNat 64) = ji5 := hji5
    have hji5z : (ji3) ≤ 64 → ((IntKind.u64.wrap (a0)) / 2 ^ (ji3).toNat) = ji5 := shr_small hji5
    obtain rfl := Option.some.inj H
    go_enter Try.func35, Try.ntmps35
    go_wp2
    go_ret
    exact ⟨by first | rfl | (simp; done) | (simp only [← hji3, ← hji5] <;> (first | rfl | simp)) | (simp [*]; done), by repeat (first | exact Drawn0.refl _ | apply Drawn0.step)⟩
  · rw [if_neg c4] at H
    exact absurd H (by simp)

/-! ### number: function 45 (by hand) -/
open Go.Proofs.Ytoojmpcpbnlkaaa.Arr in
set_option maxHeartbeats 400000 in
theorem distaffref01_number.calls (xs : List Int) (hx : xs.length = 64) (w : World) :
    Calls Try.prog 45 #[.agg (cellsOf xs)] w fun e w' => e = .returned (.int .i64 (wrap64 (hi xs))) ∧ Below w.heap.size w w' := by
  have HX := Lib.hid hx
  have hc : ∀ k, k < 64 → (w.alloc (Obj.cells (cellsOf xs) 49)).cell? ⟨w.heap.size, k, none⟩ = some (.int .i64 (xs.getD k 0)) := by
    intro k hk
    exact cell_at xs w k (by omega)
  have HS := Lib.hid (show ∀ m, m < 64 → hi (xs.drop m) = IntKind.u64.wrap (IntKind.u64.wrap (hi (xs.drop (m + 1)) * 2) + IntKind.u64.wrap (xs.getD m 0)) from fun m hm => hi_step xs m (by omega))
  clear hx
  go_enter Try.func45, Try.ntmps45
  go_wp2
  go_loop [3, 4] (fun n i => ∃ j : Nat, j ≤ 64 ∧ i = .int .i64 ((j : Int) - 1) ∧ n = .int .u64 (hi (xs.drop j))) (fun _ i => (intOf i + 1).toNat)
  case atStart => exact ⟨64, Nat.le_refl _, rfl, by rw [List.drop_of_length_le (by rw [HX.out]; exact Nat.le_refl _)]; rfl⟩
  case round =>
    obtain ⟨j, hj, rfl, rfl⟩ := hrel
    rcases j with _ | m
    · go_wp2
      go_ret
      exact ⟨rfl, (Below.refl _ _).alloc (Nat.le_refl _) _⟩
    · have e1 : ((m + 1 : Nat) : Int) - 1 = (m : Int) := by omega
      have hcm := hc m (by omega)
      rw [e1]
      clear e1
      go_wp2
      go_round
      case rel => exact ⟨m, by omega, rfl, congrArg (Value.int .u64) (HS.out m (by omega)).symm⟩
      case measure => simp [intOf]

/-! ### Add: function 25 (by hand) -/
def distaffref01_Add.f (a0 : Int) (a1 : Int) : Option (Int) := some (wrap64 (a0 + a1))
open Go.Proofs.Ytoojmpcpbnlkaaa.Arr in
theorem distaffref01_Add.bit (a : Int) (i : Nat) (h : i < 64) : distaffref01_bit.f a (i : Int) = some (bitOf a i) := by
  unfold distaffref01_bit.f
  rw [bit_expr a i h, if_pos (by rw [u64]; omega)]
open Go.Proofs.Ytoojmpcpbnlkaaa.Arr in
set_option maxRecDepth 100000 in
set_option maxHeartbeats 1000000 in
theorem distaffref01_Add.calls (a0 : Int) (a1 : Int) (r : Int) (w : World) (h : distaffref01_Add.f a0 a1 = some r) :
    Calls Try.prog 25 #[.int .i64 a0, .int .i64 a1] w fun e w' => e = .returned (.int .i64 r) ∧ Below w.heap.size w w' := by
  obtain rfl := Option.some.inj h
  clear h
  obtain ⟨f, hf⟩ : ∃ f : Nat → Int, f = fun i => (bitOf a0 i + bitOf a1 i + carry a0 a1 i) % 2 := ⟨_, rfl⟩
  have HR := Lib.hid (num_eq f (a0 + a1) (fun j _ => by rw [hf]; exact (bit_sum a0 a1 j).1))
  have HF := Lib.hid hf
  clear hf
  go_enter Try.func25, Try.ntmps25
  go_wp2_with (first | (refine wpList_buildTo rfl 49 #[] rfl (some 9) rfl zeros (by kernel_rfl) ?_) | (refine wpList_store_rowTo rfl 49 (.tmp 5) (.tmp 9) rfl rfl w.heap.size zeros rfl rfl 49 _ (blk_new w _) (by kernel_rfl) rfl (by kernel_rfl) ?_))
  rw [World.setRow_alloc_new]
  go_loopw [6, 7] (fun c i wr => ∃ k : Nat, k ≤ 64 ∧ i = .int .i64 k ∧ c = .int .i64 (carry a0 a1 k) ∧ wr.heap[w.heap.size]? = some (.cells (cellsOf (mk f k)) 49 (0, 0)) ∧ Below w.heap.size w wr) (fun _ i _ => (64 - intOf i).toNat)
  case atStart => exact ⟨0, by omega, rfl, by rw [carry_zero], by rw [← zeros_eq]; exact blk_new w _, (Below.refl _ _).alloc (Nat.le_refl _) _⟩
  case round =>
    obtain ⟨k, hk, rfl, rfl, hblk, hbel⟩ := hrel
    have HB := Lib.hid hblk
    clear hblk
    by_cases hlt : k < 64
    · obtain ⟨v, hcell⟩ : ∃ v, wr.cell? ⟨w.heap.size, k, none⟩ = some v := ⟨_, (blk_cell HB.out k).trans (cells_at _ k (by rw [mk_len]; omega))⟩
      have hfz := blk_frozen HB.out k
      have hbA := Lib.hid (distaffref01_Add.bit a0 k hlt)
      have hbB := Lib.hid (distaffref01_Add.bit a1 k hlt)
      obtain ⟨x, hx⟩ : ∃ x, x = bitOf a0 k := ⟨_, rfl⟩
      obtain ⟨y, hy⟩ : ∃ y, y = bitOf a1 k := ⟨_, rfl⟩
      obtain ⟨c, hc⟩ : ∃ c, c = carry a0 a1 k := ⟨_, rfl⟩
      have x1 := bit_01 a0 k
      have y1 := bit_01 a1 k
      have c1 := carry_01 a0 a1 k
      rw [← hx] at x1 hbA
      rw [← hy] at y1 hbB
      rw [← hc] at c1 ⊢
      have xa : 0 ≤ x := by omega
      have xb : x ≤ 1 := by omega
      have ya : 0 ≤ y := by omega
      have yb : y ≤ 1 := by omega
      have ca : 0 ≤ c := by omega
      have cb : c ≤ 1 := by omega
      have HX := Lib.hid hx
      have HY := Lib.hid hy
      have HC := Lib.hid hc
      clear hx hy hc x1 y1 c1
      go_wp2_with (first | ((go_at_call 35); (with_reducible refine (distaffref01_bit.calls a0 k _ _ hbA.out).mono ?_); rintro e w2 ⟨rfl, ⟨nd, rfl⟩⟩) | ((go_at_call 35); (with_reducible refine (distaffref01_bit.calls a1 k _ _ hbB.out).mono ?_); rintro e w2 ⟨rfl, ⟨nd2, rfl⟩⟩))
      go_roundw
      case rel =>
        refine ⟨k + 1, by omega, by go_num, ?_, blk_put (w := World.drewN wr (nd + nd2)) HB.out k _ ?_, below_set (pw_below_drewN hbel _) (Nat.le_refl _)⟩
        · rw [← (bit_sum a0 a1 k).2, ← HX.out, ← HY.out, ← HC.out]
        · have hv : f k = (x + y + c) % 2 := by rw [HF.out, HX.out, HY.out, HC.out]
          rw [cells_set, ← hv, mk_set]
      case measure => simp [intOf]; omega
    · have hnum := distaffref01_number.calls (mk f 64) (mk_len _ _)
      obtain rfl : k = 64 := by omega
      have HN := Lib.hid hnum
      clear hnum
      go_wp2_with (first | (with_reducible refine wpList_load_row rfl 49 _ rfl w.heap.size rfl 49 _ (0, 0) _ HB.out Try.underlying49 rfl ?hi ?_) | ((go_at_call 45); refine (HN.out _).mono ?_; rintro e w2 ⟨rfl, hb2⟩))
      case hi => rw [cells_size, mk_len]; kernel_rfl
      go_ret
      exact ⟨by rw [HR.out]; first | done | rfl, below_then hbel hbel.size hb2⟩

/-! ### Not: function 40 (by hand) -/
def distaffref01_Not.f (a0 : Int) : Option (Int) := some (wrap64 (-1 - a0))
open Go.Proofs.Ytoojmpcpbnlkaaa.Arr in
theorem distaffref01_Not.bit (a : Int) (i : Nat) (h : i < 64) : distaffref01_bit.f a (i : Int) = some (bitOf a i) := by
  unfold distaffref01_bit.f
  rw [bit_expr a i h, if_pos (by rw [u64]; omega)]
open Go.Proofs.Ytoojmpcpbnlkaaa.Arr in
set_option maxRecDepth 100000 in
set_option maxHeartbeats 400000 in
theorem distaffref01_Not.calls (a0 : Int) (r : Int) (w : World) (h : distaffref01_Not.f a0 = some r) :
    Calls Try.prog 40 #[.int .i64 a0] w fun e w' => e = .returned (.int .i64 r) ∧ Below w.heap.size w w' := by
  obtain rfl := Option.some.inj h
  clear h
  have HR := Lib.hid (num_eq (fun i => wrap64 (1 - bitOf a0 i)) (-1 - a0) (fun j hj => by
    rw [show wrap64 (1 - bitOf a0 j) = 1 - bitOf a0 j by unfold wrap64; have := bit_01 a0 j; omega]; exact bit_not a0 j))
  go_enter Try.func40, Try.ntmps40
  go_wp2_with (first | (refine wpList_buildTo rfl 49 #[] rfl (some 5) rfl zeros (by kernel_rfl) ?_) | (refine wpList_store_rowTo rfl 49 (.tmp 3) (.tmp 5) rfl rfl w.heap.size zeros rfl rfl 49 _ (blk_new w _) (by kernel_rfl) rfl (by kernel_rfl) ?_))
  rw [World.setRow_alloc_new]
  go_loopw [4] (fun i wr => ∃ k : Nat, k ≤ 64 ∧ i = .int .i64 k ∧ wr.heap[w.heap.size]? = some (.cells (cellsOf (mk (fun i => wrap64 (1 - bitOf a0 i)) k)) 49 (0, 0)) ∧ Below w.heap.size w wr) (fun i _ => (64 - intOf i).toNat)
  case atStart => exact ⟨0, by omega, rfl, by rw [← zeros_eq]; exact blk_new w _, (Below.refl _ _).alloc (Nat.le_refl _) _⟩
  case round =>
    obtain ⟨k, hk, rfl, hblk, hbel⟩ := hrel
    have HB := Lib.hid hblk
    clear hblk
    by_cases hlt : k < 64
    · obtain ⟨v, hcell⟩ : ∃ v, wr.cell? ⟨w.heap.size, k, none⟩ = some v := ⟨_, (blk_cell HB.out k).trans (cells_at _ k (by rw [mk_len]; omega))⟩
      have hfz := blk_frozen HB.out k
      have hbit := distaffref01_Not.bit a0 k hlt
      go_wp2_with (first | ((go_at_call 35); refine (distaffref01_bit.calls a0 k _ _ hbit).mono ?_; rintro e w2 ⟨rfl, ⟨nd, rfl⟩⟩))
      go_roundw
      case rel => exact ⟨k + 1, by omega, by go_num, blk_put (w := wr.drewN nd) HB.out k _ (by rw [cells_set]; exact congrArg cellsOf (mk_set (fun i => wrap64 (1 - bitOf a0 i)) k)), below_set (pw_below_drewN hbel nd) (Nat.le_refl _)⟩
      case measure => simp [intOf]; omega
    · have hnum := distaffref01_number.calls (mk (fun i => wrap64 (1 - bitOf a0 i)) 64) (mk_len _ _)
      obtain rfl : k = 64 := by omega
      have HN := Lib.hid hnum
      clear hnum
      go_wp2_with (first | (with_reducible refine wpList_load_row rfl 49 _ rfl w.heap.size rfl 49 _ (0, 0) _ HB.out Try.underlying49 rfl ?hi ?_) | ((go_at_call 45); refine (HN.out _).mono ?_; rintro e w2 ⟨rfl, hb2⟩))
      case hi => rw [cells_size, mk_len]; kernel_rfl
      go_ret
      exact ⟨by rw [HR.out]; first | done | rfl, below_then hbel hbel.size hb2⟩

/-! ### distaffref01_Neg: function 31 -/
def distaffref01_Neg.f (a0 : Int) : Option (Int) := (distaffref01_Not.f a0).bind fun t101 => ((distaffref01_Add.f t101 1).bind fun t102 => (some t102))
set_option maxHeartbeats 8000000 in
set_option maxRecDepth 100000 in
theorem distaffref01_Neg.calls (a0 : Int) (r : Int) (w : World) (h : distaffref01_Neg.f a0 = some r) :
    Calls Try.prog 31 #[.int .i64 a0] w fun e w' => e = .returned (.int .i64 r) ∧ Below w.heap.size w w' := by
  have HB := Aside0.mk (Below.refl w.heap.size w)
  have H : ((distaffref01_Not.f a0).bind fun t101 => ((distaffref01_Add.f t101 1).bind fun t102 => (some t102))) = some r := h
  clear h
  replace H := Option.bind_eq_some_iff.mp H
  obtain ⟨t101, A20, H⟩ := H
  replace H : ((distaffref01_Add.f t101 1).bind fun t102 => (some t102)) = some r := H
  have A2 := Aside0.mk A20
  clear A20
  replace H := Option.bind_eq_some_iff.mp H
  obtain ⟨t102, A30, H⟩ := H
  replace H : (some t102) = some r := H
  have A3 := Aside0.mk A30
  clear A30
  obtain rfl := Option.some.inj H
  go_enter Try.func31, Try.ntmps31
  go_wp2_with (first | ((with_reducible refine gate_callee (f := 40) rfl ?_); refine goesL_ (some 4) rfl rfl Try.func40 (by kernel_rfl) rfl #[.int .i64 a0] rfl (by (try simp only [List.map_toArray, List.map_cons, List.map_nil]); first | done | rfl | (simp only [List.length_drop, List.length_take]; rfl)) ?_; (with_reducible refine (distaffref01_Not.calls a0 t101 _ A2.out).mono ?_); rintro e w4 ⟨rfl, hb⟩; refine ⟨_, rfl, ?_⟩; have n0_ := Aside0.mk (below_step (by repeat (first | (with_reducible first | exact HB.out | apply below_alloc | apply pw_below_drewN | apply below_drew1) | exact HB.out)) hb); clear HB; have HB := n0_; clear n0_; (try clear hb); (try clear hb2); (try clear hk); (try clear hi)) | ((with_reducible refine gate_callee (f := 25) rfl ?_); refine goesL_ (some 5) rfl rfl Try.func25 (by kernel_rfl) rfl #[.int .i64 t101, .int .i64 1] rfl (by (try simp only [List.map_toArray, List.map_cons, List.map_nil]); first | done | rfl | (simp only [List.length_drop, List.length_take]; rfl)) ?_; (with_reducible refine (distaffref01_Add.calls t101 1 t102 _ A3.out).mono ?_); rintro e w5 ⟨rfl, hb⟩; refine ⟨_, rfl, ?_⟩; have n0_ := Aside0.mk (below_step (by repeat (first | (with_reducible first | exact HB.out | apply below_alloc | apply pw_below_drewN | apply below_drew1) | exact HB.out)) hb); clear HB; have HB := n0_; clear n0_; (try clear hb); (try clear hb2); (try clear hk); (try clear hi)))
  go_ret
  exact ⟨by first | rfl | (simp [errW_none, errW_some] <;> rfl) | (simp [*, errW_none, errW_some] <;> rfl), by repeat (first | (with_reducible first | exact HB.out | apply below_alloc | apply pw_below_drewN | apply below_drew1) | exact HB.out)⟩

/-! ### distaffref01_under: function 37 -/
def distaffref01_under.l0 : Nat → Int → Int → Int → Option (Bool)
  | 0, _, _, _ => none
  | k + 1, x0, x1, x5 => if x5 ≥ 0 then ((distaffref01_bit.f x0 x5).bind fun t103 => ((distaffref01_bit.f x1 x5).bind fun t104 => (if t103 = t104 then (distaffref01_under.l0 k x0 x1 (wrap64 (x5 - 1))) else ((distaffref01_bit.f x1 x5).bind fun t105 => (some (t105 == 1)))))) else (some false)
def distaffref01_under.f (k : Nat) (a0 : Int) (a1 : Int) : Option (Bool) := distaffref01_under.l0 k a0 a1 63
theorem distaffref01_under.mono_l : ∀ k, (∀ y0 y1 y2, LeO (distaffref01_under.l0 k y0 y1 y2) (distaffref01_under.l0 (k + 1) y0 y1 y2))
  | 0 => fun _ _ _ r h => by simp [distaffref01_under.l0] at h
  | k + 1 => by
    have ih0 := distaffref01_under.mono_l k
    · intro y0 y1 y2
      unfold distaffref01_under.l0
      repeat' first
      | (with_reducible exact ih0 _ _ _)
      | (with_reducible exact LeO.refl _)
      | (with_reducible exact LeO.none _)
      | (with_reducible refine LeO.ite ?_ ?_)
      | (with_reducible refine LeO.bind ?_ (fun _ => ?_))
      | exact ih0 _ _ _
      | exact LeO.none _
      | refine LeO.ite ?_ ?_
      | refine LeO.bind ?_ (fun _ => ?_)
theorem distaffref01_under.mono : ∀ a0 a1 k, LeO (distaffref01_under.f k a0 a1) (distaffref01_under.f (k + 1) a0 a1) := by
  intro a0 a1 k
  have ih0 := distaffref01_under.mono_l k
  unfold distaffref01_under.f
  repeat' first
      | (with_reducible exact ih0 _ _ _)
      | (with_reducible exact LeO.refl _)
      | (with_reducible exact LeO.none _)
      | (with_reducible refine LeO.ite ?_ ?_)
      | (with_reducible refine LeO.bind ?_ (fun _ => ?_))
      | exact ih0 _ _ _
      | exact LeO.none _
      | refine LeO.ite ?_ ?_
      | refine LeO.bind ?_ (fun _ => ?_)
set_option maxHeartbeats 8000000 in
set_option maxRecDepth 100000 in
theorem distaffref01_under.calls (k : Nat) (a0 : Int) (a1 : Int) (r : Bool) (w : World) (h : distaffref01_under.f k a0 a1 = some r) :
    Calls Try.prog 37 #[.int .i64 a0, .int .i64 a1] w fun e w' => e = .returned (.bool r) ∧ Drawn0 w w' := by
  have H : (distaffref01_under.l0 k a0 a1 63) = some r := h
  clear h
  have H' := Aside0.mk H
  clear H
  go_enter Try.func37, Try.ntmps37
  go_wp2
  go_loopg [5] k (fun kq v5 w' => ∃ (x5_1 : Int), v5 = .int .i64 x5_1 ∧ Aside0 (distaffref01_under.l0 kq a0 a1 x5_1 = some r) ∧ Aside0 (kq ≤ k) ∧ Drawn0 w w')
  case atStart => exact ⟨(63), (by first | rfl | (simp; done) | (simp [*]; done)), H', ⟨Nat.le_refl _⟩, by repeat (first | exact Drawn0.refl _ | apply Drawn0.step)⟩
  case round =>
    clear H'
    try clear p2
    obtain ⟨x5_1, rfl, HA, HK1, ⟨m1, rfl⟩⟩ := hrel
    cases gk with
    | zero => exact absurd HA.out (by simp [distaffref01_under.l0])
    | succ k1 =>
      have H := HA.out
      clear HA
      simp only [distaffref01_under.l0] at H
      by_cases c3 : x5_1 ≥ 0
      · rw [if_pos c3] at H
        have c3b0 : decide (0 ≤ x5_1) = true := decide_eq_true c3
        clear c3
        replace H := Option.bind_eq_some_iff.mp H
        obtain ⟨t103, A40, H⟩ := H
        replace H : ((distaffref01_bit.f a1 x5_1).bind fun t104 => (if t103 = t104 then (distaffref01_under.l0 k1 a0 a1 (wrap64 (x5_1 - 1))) else ((distaffref01_bit.f a1 x5_1).bind fun t105 => (some (t105 == 1))))) = some r := H
        have A4 := Aside0.mk A40
        clear A40
        replace H := Option.bind_eq_some_iff.mp H
        obtain ⟨t104, A50, H⟩ := H
        replace H : (if t103 = t104 then (distaffref01_under.l0 k1 a0 a1 (wrap64 (x5_1 - 1))) else ((distaffref01_bit.f a1 x5_1).bind fun t105 => (some (t105 == 1)))) = some r := H
        have A5 := Aside0.mk A50
        clear A50
        by_cases c6 : t103 = t104
        · rw [if_pos c6] at H
          have c6b0 : (t103 == t104) = true := beq_iff_eq.mpr c6
          have c6b1 : (t103 != t104) = false := bne_eq_false_iff_eq.mpr c6
          clear c6
          have H' := Aside0.mk H
          clear H
          go_wp2_with (first | ((with_reducible refine gate_callee (f := 35) rfl ?_); refine goesL_ (some 12) rfl rfl Try.func35 (by kernel_rfl) rfl #[.int .i64 a0, .int .i64 x5_1] rfl (by (try simp only [List.map_toArray, List.map_cons, List.map_nil]); first | done | rfl | (simp only [List.length_drop, List.length_take]; rfl)) ?_; (with_reducible refine (distaffref01_bit.calls a0 x5_1 t103 _ A4.out).mono ?_); rintro e w' ⟨rfl, ⟨nd, rfl⟩⟩; refine ⟨_, rfl, ?_⟩) | ((with_reducible refine gate_callee (f := 35) rfl ?_); refine goesL_ (some 15) rfl rfl Try.func35 (by kernel_rfl) rfl #[.int .i64 a1, .int .i64 x5_1] rfl (by (try simp only [List.map_toArray, List.map_cons, List.map_nil]); first | done | rfl | (simp only [List.length_drop, List.length_take]; rfl)) ?_; (with_reducible refine (distaffref01_bit.calls a1 x5_1 t104 _ A5.out).mono ?_); rintro e w' ⟨rfl, ⟨nd, rfl⟩⟩; refine ⟨_, rfl, ?_⟩))
          go_roundg k1
          case measure => have := HK1.out; omega
          case rel => exact ⟨(wrap64 (x5_1 - 1)), (by first | rfl | (simp; done) | (simp [*]; done)), H', ⟨by have := HK1.out; omega⟩, by repeat (first | exact Drawn0.refl _ | apply Drawn0.step)⟩
        · rw [if_neg c6] at H
          have c6b0 : (t103 == t104) = false := beq_eq_false_iff_ne.mpr c6
          have c6b1 : (t103 != t104) = true := bne_iff_ne.mpr c6
          replace H := Option.bind_eq_some_iff.mp H
          obtain ⟨t105, A70, H⟩ := H
          replace H : (some (t105 == 1)) = some r := H
          have A7 := Aside0.mk A70
          clear A70
          obtain rfl := Option.some.inj H
          go_wp2_with (first | ((with_reducible refine gate_callee (f := 35) rfl ?_); refine goesL_ (some 12) rfl rfl Try.func35 (by kernel_rfl) rfl #[.int .i64 a0, .int .i64 x5_1] rfl (by (try simp only [List.map_toArray, List.map_cons, List.map_nil]); first | done | rfl | (simp only [List.length_drop, List.length_take]; rfl)) ?_; (with_reducible refine (distaffref01_bit.calls a0 x5_1 t103 _ A4.out).mono ?_); rintro e w' ⟨rfl, ⟨nd, rfl⟩⟩; refine ⟨_, rfl, ?_⟩) | ((with_reducible refine gate_callee (f := 35) rfl ?_); refine goesL_ (some 15) rfl rfl Try.func35 (by kernel_rfl) rfl #[.int .i64 a1, .int .i64 x5_1] rfl (by (try simp only [List.map_toArray, List.map_cons, List.map_nil]); first | done | rfl | (simp only [List.length_drop, List.length_take]; rfl)) ?_; (with_reducible refine (distaffref01_bit.calls a1 x5_1 t104 _ A5.out).mono ?_); rintro e w' ⟨rfl, ⟨nd, rfl⟩⟩; refine ⟨_, rfl, ?_⟩) | ((with_reducible refine gate_callee (f := 35) rfl ?_); refine goesL_ (some 19) rfl rfl Try.func35 (by kernel_rfl) rfl #[.int .i64 a1, .int .i64 x5_1] rfl (by (try simp only [List.map_toArray, List.map_cons, List.map_nil]); first | done | rfl | (simp only [List.length_drop, List.length_take]; rfl)) ?_; (with_reducible refine (distaffref01_bit.calls a1 x5_1 t105 _ A7.out).mono ?_); rintro e w' ⟨rfl, ⟨nd, rfl⟩⟩; refine ⟨_, rfl, ?_⟩))
          go_ret
          exact ⟨by first | rfl | (simp; done) | (simp [*]; done), by repeat (first | exact Drawn0.refl _ | apply Drawn0.step)⟩
      · rw [if_neg c3] at H
        have c3b0 : decide (0 ≤ x5_1) = false := decide_eq_false c3
        clear c3
        obtain rfl := Option.some.inj H
        go_wp2
        go_ret
        exact ⟨by first | rfl | (simp; done) | (simp [*]; done), by repeat (first | exact Drawn0.refl _ | apply Drawn0.step)⟩

/-! ### divide: function 43 (by hand) -/
def distaffref01_divide.f (a0 : Int) (a1 : Int) : Option (Int × Int) := if a1 % 18446744073709551616 = 0 then none else some (wrap64 (a0 % 18446744073709551616 / (a1 % 18446744073709551616)), wrap64 (a0 % 18446744073709551616 % (a1 % 18446744073709551616)))
open Go.Proofs.Ytoojmpcpbnlkaaa.Arr in
theorem distaffref01_divide.bit (a : Int) (i : Nat) (h : i < 64) : distaffref01_bit.f a (i : Int) = some (bitOf a i) := by
  unfold distaffref01_bit.f
  rw [bit_expr a i h, if_pos (by rw [u64]; omega)]
open Go.Proofs.Ytoojmpcpbnlkaaa.Arr in
theorem distaffref01_divide.under_l (a b : Int) (j : Nat) : ∀ k, j < k → j ≤ 64 → distaffref01_under.l0 k a b ((j : Int) - 1) = some (decide (a % 2 ^ j < b % 2 ^ j)) := by
  induction j with
  | zero =>
    intro k hk _
    obtain ⟨k, rfl⟩ : ∃ m, k = m + 1 := ⟨k - 1, by omega⟩
    simp only [distaffref01_under.l0]
    rw [if_neg (by omega), mod_zero, mod_zero]; rfl
  | succ j ih =>
    intro k hk hj
    obtain ⟨k, rfl⟩ : ∃ m, k = m + 1 := ⟨k - 1, by omega⟩
    simp only [distaffref01_under.l0]
    rw [show ((j + 1 : Nat) : Int) - 1 = (j : Int) by omega, if_pos (by omega), distaffref01_divide.bit a j (by omega), distaffref01_divide.bit b j (by omega)]
    simp only [Option.bind_some]
    have hc := cmp_step a b j
    by_cases c : bitOf a j = bitOf b j
    · rw [if_pos c, show wrap64 ((j : Int) - 1) = (j : Int) - 1 by unfold wrap64; omega, ih k (by omega) (by omega)]
      rw [if_pos c] at hc
      exact congrArg some (by rw [Bool.eq_iff_iff, decide_eq_true_iff, decide_eq_true_iff, hc])
    · rw [if_neg c]
      rw [if_neg c] at hc
      exact congrArg some (by rw [Bool.eq_iff_iff, decide_eq_true_iff, hc, beq_iff_eq])
theorem distaffref01_divide.under (a b : Int) (k : Nat) (hk : 64 < k) : distaffref01_under.f k a b = some (decide (a % 18446744073709551616 < b % 18446744073709551616)) := by
  have := distaffref01_divide.under_l a b 64 k hk (by omega)
  exact this
theorem distaffref01_divide.neg (a : Int) : distaffref01_Neg.f a = some (wrap64 (-a)) := by
  unfold distaffref01_Neg.f distaffref01_Not.f distaffref01_Add.f
  simp only [Option.bind_some]
  refine congrArg some ?_
  unfold wrap64; omega
theorem distaffref01_divide.mod_wrap (a : Int) : wrap64 a % 18446744073709551616 = a % 18446744073709551616 := by
  unfold wrap64; omega
open Go.Proofs.Ytoojmpcpbnlkaaa.Arr in
set_option maxRecDepth 100000 in
set_option maxHeartbeats 2000000 in
theorem distaffref01_divide.calls (a0 : Int) (a1 : Int) (r1 : Int) (r2 : Int) (w : World) (h : distaffref01_divide.f a0 a1 = some (r1, r2)) :
    Calls Try.prog 43 #[.int .i64 a0, .int .i64 a1] w fun e w' => e = .returned (.tuple #[.int .i64 r1, .int .i64 r2]) ∧ Below w.heap.size w w' := by
  unfold distaffref01_divide.f at h
  by_cases hz : a1 % 18446744073709551616 = 0
  · rw [if_pos hz] at h; cases h
  · rw [if_neg hz] at h
    have h' := Option.some.inj h
    clear h
    obtain ⟨A, hA⟩ : ∃ A, A = a0 % 18446744073709551616 := ⟨_, rfl⟩
    obtain ⟨B, hB⟩ : ∃ B, B = a1 % 18446744073709551616 := ⟨_, rfl⟩
    rw [← hA, ← hB] at h'
    have hB0 : 0 < B := by omega
    have hB1 : B < 18446744073709551616 := by omega
    obtain ⟨f, hf⟩ : ∃ f : Nat → Int, f = fun i => bitOf (A / B) i := ⟨_, rfl⟩
    have hq : wrap64 (hi (mkd f 0)) = r1 := by
      rw [mkd_all, hf, num_eq _ (A / B) (fun j _ => rfl)]
      exact (Prod.mk.inj h').1
    have hr : wrap64 (A / 2 ^ 0 % B) = r2 := by
      rw [Int.pow_zero, Int.ediv_one]; exact (Prod.mk.inj h').2
    clear h'
    have hA64 : A / 2 ^ 64 % B = 0 := by
      rw [show (2 : Int) ^ 64 = 18446744073709551616 from rfl, Int.ediv_eq_zero_of_lt (by omega) (by omega), Int.zero_emod]
    have HQ := Lib.hid hq
    have HRR := Lib.hid hr
    have HF := Lib.hid hf
    have HA := Lib.hid hA
    have HBB := Lib.hid hB
    have HB0 := Lib.hid hB0
    have HB1 := Lib.hid hB1
    have H64 := Lib.hid hA64
    clear hf hq hr hA hB hB0 hB1 hz hA64
    go_enter Try.func43, Try.ntmps43
    go_wp2_with (first | (refine wpList_buildTo rfl 49 #[] rfl (some 10) rfl zeros (by kernel_rfl) ?_) | (refine wpList_store_rowTo rfl 49 (.tmp 6) (.tmp 10) rfl rfl w.heap.size zeros rfl rfl 49 _ (blk_new w _) (by kernel_rfl) rfl (by kernel_rfl) ?_))
    rw [World.setRow_alloc_new]
    go_loopw [7, 8] (fun rr i wr => ∃ j : Nat, j ≤ 64 ∧ i = .int .i64 ((j : Int) - 1) ∧ rr = .int .i64 (wrap64 (A / 2 ^ j % B)) ∧ wr.heap[w.heap.size]? = some (.cells (cellsOf (mkd f j)) 49 (0, 0)) ∧ Below w.heap.size w wr) (fun _ i _ => (intOf i + 1).toNat)
    case atStart => exact ⟨64, by omega, rfl, by rw [H64.out, show wrap64 0 = 0 by unfold wrap64; rfl], by rw [← zeros_eqd]; exact blk_new w _, (Below.refl _ _).alloc (Nat.le_refl _) _⟩
    case round =>
      obtain ⟨j, hj, rfl, rfl, hblk, hbel⟩ := hrel
      have HB := Lib.hid hblk
      clear hblk
      rcases j with _ | m
      · have hnum := distaffref01_number.calls (mkd f 0) (mkd_len _ _)
        have HN := Lib.hid hnum
        clear hnum
        obtain ⟨rr, hrr⟩ : ∃ rr, rr = wrap64 (A / 2 ^ 0 % B) := ⟨_, rfl⟩
        rw [← hrr]
        have HRQ := Lib.hid hrr
        clear hrr
        go_wp2_with (first | (with_reducible refine wpList_load_row rfl 49 _ rfl w.heap.size rfl 49 _ (0, 0) _ HB.out Try.underlying49 rfl ?hi ?_) | ((go_at_call 45); refine (HN.out _).mono ?_; rintro e w2 ⟨rfl, hb2⟩))
        case hi => rw [cells_size, mkd_len]; kernel_rfl
        go_ret2
        exact ⟨by rw [HQ.out, HRQ.out, HRR.out]; first | done | rfl, below_then hbel hbel.size hb2⟩
      · have e1 : ((m + 1 : Nat) : Int) - 1 = (m : Int) := by omega
        rw [e1]
        clear e1
        have hm : m < 64 := by omega
        obtain ⟨R, hR⟩ : ∃ R, R = A / 2 ^ (m + 1) % B := ⟨_, rfl⟩
        obtain ⟨t, ht⟩ : ∃ t, t = bitOf A m := ⟨_, rfl⟩
        obtain ⟨d1, d2⟩ := div_step A B m HB0.out
        have t01 := bit_01 A m
        have hb0 := HB0.out
        have hb1 := HB1.out
        have R0 : 0 ≤ R := by rw [hR]; exact Int.emod_nonneg _ (by omega)
        have R1 : R < B := by rw [hR]; exact Int.emod_lt_of_pos _ hb0
        rw [← hR, ← ht] at d1 d2
        rw [← ht] at t01
        obtain ⟨r, hr⟩ : ∃ r, r = wrap64 R := ⟨_, rfl⟩
        have hbt : distaffref01_bit.f a0 (m : Int) = some t := by
          rw [distaffref01_divide.bit a0 m hm, ht, HA.out, bit_mod a0 m hm]
        have hhigh : distaffref01_bit.f r 63 = some (if 9223372036854775808 ≤ R then 1 else 0) := by
          rw [show (63 : Int) = ((63 : Nat) : Int) from rfl, distaffref01_divide.bit r 63 (by decide), hr, high_bit R R0 (by omega)]
        obtain ⟨r2, hr2⟩ : ∃ r2, distaffref01_Add.f r r = some r2 ∧ r2 = wrap64 (2 * R) := ⟨wrap64 (r + r), rfl, by rw [hr]; unfold wrap64; omega⟩
        obtain ⟨r3, hr3⟩ : ∃ r3, distaffref01_Add.f r2 t = some r3 ∧ r3 = wrap64 (2 * R + t) := ⟨wrap64 (r2 + t), rfl, by rw [hr2.2]; unfold wrap64; omega⟩
        obtain ⟨nb, hnb⟩ : ∃ nb, distaffref01_Neg.f a1 = some nb ∧ nb = wrap64 (-a1) := ⟨_, distaffref01_divide.neg a1, rfl⟩
        obtain ⟨r4, hr4⟩ : ∃ r4, distaffref01_Add.f r3 nb = some r4 ∧ r4 = wrap64 (2 * R + t - B) := ⟨wrap64 (r3 + nb), rfl, by rw [hr3.2, hnb.2, HBB.out]; unfold wrap64; omega⟩
        have hun : distaffref01_under.f 100 r3 a1 = some (decide ((2 * R + t) % 18446744073709551616 < B)) := by
          rw [distaffref01_divide.under _ _ _ (by decide), hr3.2, distaffref01_divide.mod_wrap, ← HBB.out]
        rw [← hR, ← hr]
        have F1 := Lib.hid hhigh
        have F2 := Lib.hid hr2.1
        have F3 := Lib.hid hbt
        have F4 := Lib.hid hr3.1
        have F5 := Lib.hid hun
        have F6 := Lib.hid hnb.1
        have F7 := Lib.hid hr4.1
        have E3 := Lib.hid hr3.2
        have E4 := Lib.hid hr4.2
        have D1 := Lib.hid d1
        have D2 := Lib.hid d2
        have T := Lib.hid t01
        have Rb := Lib.hid (And.intro R0 (And.intro R1 hb1))
        clear hhigh hr2 hbt hr3 hun hnb hr4 d1 d2 t01 R0 R1 hb0 hb1 hR ht hr
        have bt : m ≤ 63 := by omega
        by_cases c : B ≤ 2 * R + t
        · -- it goes in once more
          have HV := Lib.hid (show f m = 1 by rw [HF.out]; exact D2.out.trans (if_pos c))
          have HW := Lib.hid (show wrap64 (A / 2 ^ m % B) = r4 by rw [D1.out, if_pos c, E4.out])
          by_cases c2 : 9223372036854775808 ≤ R
          · have G1 := Lib.hid (F1.out.trans (by rw [if_pos c2]))
            clear F1 c c2
            go_wp2_with fail
            refine (distaffref01_bit.calls r 63 1 _ G1.out).mono ?_; rintro e w2 ⟨rfl, ⟨nd, rfl⟩⟩
            go_wp2_with fail
            refine (distaffref01_Add.calls r r r2 _ F2.out).mono ?_; rintro e w3 ⟨rfl, h3⟩
            go_wp2_with fail
            refine (distaffref01_bit.calls a0 m t _ F3.out).mono ?_; rintro e w4 ⟨rfl, ⟨nd4, rfl⟩⟩
            go_wp2_with fail
            refine (distaffref01_Add.calls r2 t r3 _ F4.out).mono ?_; rintro e w5 ⟨rfl, h5⟩
            go_wp2_with fail
            refine (distaffref01_Neg.calls a1 nb _ F6.out).mono ?_; rintro e w6 ⟨rfl, h6⟩
            go_wp2_with fail
            refine (distaffref01_Add.calls r3 nb r4 _ F7.out).mono ?_; rintro e w7 ⟨rfl, h7⟩
            have K3 := blk_below (blk_drewN HB.out nd) h3
            have K5 := blk_below (blk_drewN K3 nd4) h5
            have K6 := blk_below K5 h6
            have K7 := blk_below K6 h7
            have HBel := Lib.hid (below_step (below_step (below_step (pw_below_drewN (below_step (pw_below_drewN hbel nd) h3) nd4) h5) h6) h7)
            obtain ⟨v, hcell⟩ : ∃ v, w7.cell? ⟨w.heap.size, m, none⟩ = some v := ⟨_, (blk_cell K7 m).trans (cells_at _ m (by rw [mkd_len]; omega))⟩
            have hfz := blk_frozen K7 m
            have HK := Lib.hid K7
            clear K3 K5 K6 K7 h3 h5 h6 h7
            go_wp2
            go_roundw
            case rel => exact ⟨m, by omega, rfl, by rw [HW.out], blk_put HK.out m _ (by rw [cells_set, ← HV.out, mkd_set]), below_set HBel.out (Nat.le_refl _)⟩
            case measure => simp [intOf]
          · have G1 := Lib.hid (F1.out.trans (by rw [if_neg c2]))
            have G5 : Hid (distaffref01_under.f 100 r3 a1 = some false) := Lib.hid (F5.out.trans (by
              have := Rb.out; have := T.out
              exact congrArg some (decide_eq_false (by omega))))
            clear F1 c c2
            go_wp2_with fail
            refine (distaffref01_bit.calls r 63 0 _ G1.out).mono ?_; rintro e w2 ⟨rfl, ⟨nd, rfl⟩⟩
            go_wp2_with fail
            refine (distaffref01_Add.calls r r r2 _ F2.out).mono ?_; rintro e w3 ⟨rfl, h3⟩
            go_wp2_with fail
            refine (distaffref01_bit.calls a0 m t _ F3.out).mono ?_; rintro e w4 ⟨rfl, ⟨nd4, rfl⟩⟩
            go_wp2_with fail
            refine (distaffref01_Add.calls r2 t r3 _ F4.out).mono ?_; rintro e w5 ⟨rfl, h5⟩
            go_wp2_with fail
            refine (distaffref01_under.calls 100 r3 a1 false _ G5.out).mono ?_; rintro e w5b ⟨rfl, ⟨nd5, rfl⟩⟩
            go_wp2_with fail
            refine (distaffref01_Neg.calls a1 nb _ F6.out).mono ?_; rintro e w6 ⟨rfl, h6⟩
            go_wp2_with fail
            refine (distaffref01_Add.calls r3 nb r4 _ F7.out).mono ?_; rintro e w7 ⟨rfl, h7⟩
            have K3 := blk_below (blk_drewN HB.out nd) h3
            have K5 := blk_below (blk_drewN K3 nd4) h5
            have K6 := blk_below (blk_drewN K5 nd5) h6
            have K7 := blk_below K6 h7
            have HBel := Lib.hid (below_step (below_step (pw_below_drewN (below_step (pw_below_drewN (below_step (pw_below_drewN hbel nd) h3) nd4) h5) nd5) h6) h7)
            obtain ⟨v, hcell⟩ : ∃ v, w7.cell? ⟨w.heap.size, m, none⟩ = some v := ⟨_, (blk_cell K7 m).trans (cells_at _ m (by rw [mkd_len]; omega))⟩
            have hfz := blk_frozen K7 m
            have HK := Lib.hid K7
            clear K3 K5 K6 K7 h3 h5 h6 h7
            go_wp2
            go_roundw
            case rel => exact ⟨m, by omega, rfl, by rw [HW.out], blk_put HK.out m _ (by rw [cells_set, ← HV.out, mkd_set]), below_set HBel.out (Nat.le_refl _)⟩
            case measure => simp [intOf]
        · have HV := Lib.hid (show f m = 0 by rw [HF.out]; exact D2.out.trans (if_neg c))
          have HW := Lib.hid (show wrap64 (A / 2 ^ m % B) = r3 by rw [D1.out, if_neg c, E3.out])
          have c2 : ¬ 9223372036854775808 ≤ R := by have := Rb.out; have := T.out; omega
          have G1 := Lib.hid (F1.out.trans (by rw [if_neg c2]))
          have G5 : Hid (distaffref01_under.f 100 r3 a1 = some true) := Lib.hid (F5.out.trans (by
            have := Rb.out; have := T.out
            exact congrArg some (decide_eq_true (by omega))))
          clear F1 c c2
          go_wp2_with fail
          refine (distaffref01_bit.calls r 63 0 _ G1.out).mono ?_; rintro e w2 ⟨rfl, ⟨nd, rfl⟩⟩
          go_wp2_with fail
          refine (distaffref01_Add.calls r r r2 _ F2.out).mono ?_; rintro e w3 ⟨rfl, h3⟩
          go_wp2_with fail
          refine (distaffref01_bit.calls a0 m t _ F3.out).mono ?_; rintro e w4 ⟨rfl, ⟨nd4, rfl⟩⟩
          go_wp2_with fail
          refine (distaffref01_Add.calls r2 t r3 _ F4.out).mono ?_; rintro e w5 ⟨rfl, h5⟩
          go_wp2_with fail
          refine (distaffref01_under.calls 100 r3 a1 true _ G5.out).mono ?_; rintro e w5b ⟨rfl, ⟨nd5, rfl⟩⟩
          have K3 := blk_below (blk_drewN HB.out nd) h3
          have K5 := blk_below (blk_drewN K3 nd4) h5
          have HK := Lib.hid (blk_drewN K5 nd5)
          have HBel := Lib.hid (pw_below_drewN (below_step (pw_below_drewN (below_step (pw_below_drewN hbel nd) h3) nd4) h5) nd5)
          clear K3 K5 h3 h5
          go_wp2
          go_roundw
          case rel => exact ⟨m, by omega, rfl, by rw [HW.out], by rw [← mkd_zero f m HV.out]; exact HK.out, HBel.out⟩
          case measure => simp [intOf]

/-! ### distaffref01_size: function 44 -/
def distaffref01_size.f (a0 : Int) : Option (Int) := (distaffref01_bit.f a0 63).bind fun t106 => (if t106 = 1 then ((distaffref01_Neg.f a0).bind fun t107 => (some t107)) else (some a0))
set_option maxHeartbeats 8000000 in
set_option maxRecDepth 100000 in
theorem distaffref01_size.calls (a0 : Int) (r : Int) (w : World) (h : distaffref01_size.f a0 = some r) :
    Calls Try.prog 44 #[.int .i64 a0] w fun e w' => e = .returned (.int .i64 r) ∧ Below w.heap.size w w' := by
  have HB := Aside0.mk (Below.refl w.heap.size w)
  have H : ((distaffref01_bit.f a0 63).bind fun t106 => (if t106 = 1 then ((distaffref01_Neg.f a0).bind fun t107 => (some t107)) else (some a0))) = some r := h
  clear h
  replace H := Option.bind_eq_some_iff.mp H
  obtain ⟨t106, A20, H⟩ := H
  replace H : (if t106 = 1 then ((distaffref01_Neg.f a0).bind fun t107 => (some t107)) else (some a0)) = some r := H
  have A2 := Aside0.mk A20
  clear A20
  by_cases c3 : t106 = 1
  · rw [if_pos c3] at H
    have c3b0 : (t106 == 1) = true := beq_iff_eq.mpr c3
    have c3b1 : (t106 != 1) = false := bne_eq_false_iff_eq.mpr c3
    clear c3
    replace H := Option.bind_eq_some_iff.mp H
    obtain ⟨t107, A40, H⟩ := H
    replace H : (some t107) = some r := H
    have A4 := Aside0.mk A40
    clear A40
    obtain rfl := Option.some.inj H
    go_enter Try.func44, Try.ntmps44
    go_wp2_with (first | ((with_reducible refine gate_callee (f := 35) rfl ?_); refine goesL_ (some 4) rfl rfl Try.func35 (by kernel_rfl) rfl #[.int .i64 a0, .int .i64 63] rfl (by (try simp only [List.map_toArray, List.map_cons, List.map_nil]); first | done | rfl | (simp only [List.length_drop, List.length_take]; rfl)) ?_; (with_reducible refine (distaffref01_bit.calls a0 63 t106 _ A2.out).mono ?_); rintro e w' ⟨rfl, ⟨nd, rfl⟩⟩; refine ⟨_, rfl, ?_⟩) | ((with_reducible refine gate_callee (f := 31) rfl ?_); refine goesL_ (some 7) rfl rfl Try.func31 (by kernel_rfl) rfl #[.int .i64 a0] rfl (by (try simp only [List.map_toArray, List.map_cons, List.map_nil]); first | done | rfl | (simp only [List.length_drop, List.length_take]; rfl)) ?_; (with_reducible refine (distaffref01_Neg.calls a0 t107 _ A4.out).mono ?_); rintro e w5 ⟨rfl, hb⟩; refine ⟨_, rfl, ?_⟩; have n0_ := Aside0.mk (below_step (by repeat (first | (with_reducible first | exact HB.out | apply below_alloc | apply pw_below_drewN | apply below_drew1) | exact HB.out)) hb); clear HB; have HB := n0_; clear n0_; (try clear hb); (try clear hb2); (try clear hk); (try clear hi)))
    go_ret
    exact ⟨by first | rfl | (simp [errW_none, errW_some] <;> rfl) | (simp [*, errW_none, errW_some] <;> rfl), by repeat (first | (with_reducible first | exact HB.out | apply below_alloc | apply pw_below_drewN | apply below_drew1) | exact HB.out)⟩
  · rw [if_neg c3] at H
    have c3b0 : (t106 == 1) = false := beq_eq_false_iff_ne.mpr c3
    have c3b1 : (t106 != 1) = true := bne_iff_ne.mpr c3
    obtain rfl := Option.some.inj H
    go_enter Try.func44, Try.ntmps44
    go_wp2_with (first | ((with_reducible refine gate_callee (f := 35) rfl ?_); refine goesL_ (some 4) rfl rfl Try.func35 (by kernel_rfl) rfl #[.int .i64 a0, .int .i64 63] rfl (by (try simp only [List.map_toArray, List.map_cons, List.map_nil]); first | done | rfl | (simp only [List.length_drop, List.length_take]; rfl)) ?_; (with_reducible refine (distaffref01_bit.calls a0 63 t106 _ A2.out).mono ?_); rintro e w' ⟨rfl, ⟨nd, rfl⟩⟩; refine ⟨_, rfl, ?_⟩))
    go_ret
    exact ⟨by first | rfl | (simp [errW_none, errW_some] <;> rfl) | (simp [*, errW_none, errW_some] <;> rfl), by repeat (first | (with_reducible first | exact HB.out | apply below_alloc | apply pw_below_drewN | apply below_drew1) | exact HB.out)⟩

/-! ### distaffref01_Div: function 24 -/
def distaffref01_Div.j0 : Nat → Int → Int → Int → Option (Int × Int)
  | 0, _, _, _ => none
  | k + 1, x0, x6, x7 => (distaffref01_bit.f x0 63).bind fun t115 => (if t115 = 1 then ((distaffref01_Neg.f x7).bind fun t116 => (some (x6, t116))) else (some (x6, x7)))
def distaffref01_Div.f (k : Nat) (a0 : Int) (a1 : Int) : Option (Int × Int) := (distaffref01_size.f a0).bind fun t108 => ((distaffref01_size.f a1).bind fun t109 => ((distaffref01_divide.f t108 t109).bind fun bt110 => ((distaffref01_bit.f a0 63).bind fun t112 => ((distaffref01_bit.f a1 63).bind fun t113 => (if t112 = t113 then (distaffref01_Div.j0 k a0 bt110.1 bt110.2) else ((distaffref01_Neg.f bt110.1).bind fun t114 => (distaffref01_Div.j0 k a0 t114 bt110.2)))))))
theorem distaffref01_Div.mono_l : ∀ k, (∀ y0 y1 y2, LeO (distaffref01_Div.j0 k y0 y1 y2) (distaffref01_Div.j0 (k + 1) y0 y1 y2))
  | 0 => fun _ _ _ r h => by simp [distaffref01_Div.j0] at h
  | k + 1 => by
    have ih0 := distaffref01_Div.mono_l k
    · intro y0 y1 y2
      unfold distaffref01_Div.j0
      repeat' first
      | (with_reducible exact ih0 _ _ _)
      | (with_reducible exact LeO.refl _)
      | (with_reducible exact LeO.none _)
      | (with_reducible refine LeO.ite ?_ ?_)
      | (with_reducible refine LeO.bind ?_ (fun _ => ?_))
      | exact ih0 _ _ _
      | exact LeO.none _
      | refine LeO.ite ?_ ?_
      | refine LeO.bind ?_ (fun _ => ?_)
theorem distaffref01_Div.mono : ∀ a0 a1 k, LeO (distaffref01_Div.f k a0 a1) (distaffref01_Div.f (k + 1) a0 a1) := by
  intro a0 a1 k
  have ih0 := distaffref01_Div.mono_l k
  unfold distaffref01_Div.f
  repeat' first
      | (with_reducible exact ih0 _ _ _)
      | (with_reducible exact LeO.refl _)
      | (with_reducible exact LeO.none _)
      | (with_reducible refine LeO.ite ?_ ?_)
      | (with_reducible refine LeO.bind ?_ (fun _ => ?_))
      | exact ih0 _ _ _
      | exact LeO.none _
      | refine LeO.ite ?_ ?_
      | refine LeO.bind ?_ (fun _ => ?_)
set_option maxHeartbeats 8000000 in
set_option maxRecDepth 100000 in
theorem distaffref01_Div.calls (k : Nat) (a0 : Int) (a1 : Int) (r1 : Int) (r2 : Int) (w : World) (h : distaffref01_Div.f k a0 a1 = some (r1, r2)) :
    Calls Try.prog 24 #[.int .i64 a0, .int .i64 a1] w fun e w' => e = .returned (.tuple #[.int .i64 r1, .int .i64 r2]) ∧ Below w.heap.size w w' := by
  have HB := Aside0.mk (Below.refl w.heap.size w)
  have H : ((distaffref01_size.f a0).bind fun t108 => ((distaffref01_size.f a1).bind fun t109 => ((distaffref01_divide.f t108 t109).bind fun bt110 => ((distaffref01_bit.f a0 63).bind fun t112 => ((distaffref01_bit.f a1 63).bind fun t113 => (if t112 = t113 then (distaffref01_Div.j0 k a0 bt110.1 bt110.2) else ((distaffref01_Neg.f bt110.1).bind fun t114 => (distaffref01_Div.j0 k a0 t114 bt110.2)))))))) = some (r1, r2) := h
  clear h
  replace H := Option.bind_eq_some_iff.mp H
  obtain ⟨t108, A30, H⟩ := H
  replace H : ((distaffref01_size.f a1).bind fun t109 => ((distaffref01_divide.f t108 t109).bind fun bt110 => ((distaffref01_bit.f a0 63).bind fun t112 => ((distaffref01_bit.f a1 63).bind fun t113 => (if t112 = t113 then (distaffref01_Div.j0 k a0 bt110.1 bt110.2) else ((distaffref01_Neg.f bt110.1).bind fun t114 => (distaffref01_Div.j0 k a0 t114 bt110.2))))))) = some (r1, r2) := H
  have A3 := Aside0.mk A30
  clear A30
  replace H := Option.bind_eq_some_iff.mp H
  obtain ⟨t109, A40, H⟩ := H
  replace H : ((distaffref01_divide.f t108 t109).bind fun bt110 => ((distaffref01_bit.f a0 63).bind fun t112 => ((distaffref01_bit.f a1 63).bind fun t113 => (if t112 = t113 then (distaffref01_Div.j0 k a0 bt110.1 bt110.2) else ((distaffref01_Neg.f bt110.1).bind fun t114 => (distaffref01_Div.j0 k a0 t114 bt110.2)))))) = some (r1, r2) := H
  have A4 := Aside0.mk A40
  clear A40
  replace H := Option.bind_eq_some_iff.mp H
  obtain ⟨⟨t110, t111⟩, A50, H⟩ := H
  replace H : ((distaffref01_bit.f a0 63).bind fun t112 => ((distaffref01_bit.f a1 63).bind fun t113 => (if t112 = t113 then (distaffref01_Div.j0 k a0 t110 t111) else ((distaffref01_Neg.f t110).bind fun t114 => (distaffref01_Div.j0 k a0 t114 t111))))) = some (r1, r2) := H
  have A5 := Aside0.mk A50
  clear A50
  replace H := Option.bind_eq_some_iff.mp H
  obtain ⟨t112, A60, H⟩ := H
  replace H : ((distaffref01_bit.f a1 63).bind fun t113 => (if t112 = t113 then (distaffref01_Div.j0 k a0 t110 t111) else ((distaffref01_Neg.f t110).bind fun t114 => (distaffref01_Div.j0 k a0 t114 t111)))) = some (r1, r2) := H
  have A6 := Aside0.mk A60
  clear A60
  replace H := Option.bind_eq_some_iff.mp H
  obtain ⟨t113, A70, H⟩ := H
  replace H : (if t112 = t113 then (distaffref01_Div.j0 k a0 t110 t111) else ((distaffref01_Neg.f t110).bind fun t114 => (distaffref01_Div.j0 k a0 t114 t111))) = some (r1, r2) := H
  have A7 := Aside0.mk A70
  clear A70
  have HC8 := Aside0.mk H
  clear H
  go_enter Try.func24, Try.ntmps24
  go_upto_if 20 with (first | ((with_reducible refine gate_callee (f := 44) rfl ?_); refine goesL_ (some 10) rfl rfl Try.func44 (by kernel_rfl) rfl #[.int .i64 a0] rfl (by (try simp only [List.map_toArray, List.map_cons, List.map_nil]); first | done | rfl | (simp only [List.length_drop, List.length_take]; rfl)) ?_; (with_reducible refine (distaffref01_size.calls a0 t108 _ A3.out).mono ?_); rintro e w9 ⟨rfl, hb⟩; refine ⟨_, rfl, ?_⟩; have n0_ := Aside0.mk (below_step (by repeat (first | (with_reducible first | exact HB.out | apply below_alloc | apply pw_below_drewN | apply below_drew1) | exact HB.out)) hb); clear HB; have HB := n0_; clear n0_; (try clear hb); (try clear hb2); (try clear hk); (try clear hi)) | ((with_reducible refine gate_callee (f := 44) rfl ?_); refine goesL_ (some 12) rfl rfl Try.func44 (by kernel_rfl) rfl #[.int .i64 a1] rfl (by (try simp only [List.map_toArray, List.map_cons, List.map_nil]); first | done | rfl | (simp only [List.length_drop, List.length_take]; rfl)) ?_; (with_reducible refine (distaffref01_size.calls a1 t109 _ A4.out).mono ?_); rintro e w10 ⟨rfl, hb⟩; refine ⟨_, rfl, ?_⟩; have n0_ := Aside0.mk (below_step (by repeat (first | (with_reducible first | exact HB.out | apply below_alloc | apply pw_below_drewN | apply below_drew1) | exact HB.out)) hb); clear HB; have HB := n0_; clear n0_; (try clear hb); (try clear hb2); (try clear hk); (try clear hi)) | ((with_reducible refine gate_callee (f := 43) rfl ?_); refine goesL_ (some 13) rfl rfl Try.func43 (by kernel_rfl) rfl #[.int .i64 t108, .int .i64 t109] rfl (by (try simp only [List.map_toArray, List.map_cons, List.map_nil]); first | done | rfl | (simp only [List.length_drop, List.length_take]; rfl)) ?_; (with_reducible refine (distaffref01_divide.calls t108 t109 t110 t111 _ A5.out).mono ?_); rintro e w11 ⟨rfl, hb⟩; refine ⟨_, rfl, ?_⟩; have n0_ := Aside0.mk (below_step (by repeat (first | (with_reducible first | exact HB.out | apply below_alloc | apply pw_below_drewN | apply below_drew1) | exact HB.out)) hb); clear HB; have HB := n0_; clear n0_; (try clear hb); (try clear hb2); (try clear hk); (try clear hi)) | ((with_reducible refine gate_callee (f := 35) rfl ?_); refine goesL_ (some 17) rfl rfl Try.func35 (by kernel_rfl) rfl #[.int .i64 a0, .int .i64 63] rfl (by (try simp only [List.map_toArray, List.map_cons, List.map_nil]); first | done | rfl | (simp only [List.length_drop, List.length_take]; rfl)) ?_; (with_reducible refine (distaffref01_bit.calls a0 63 t112 _ A6.out).mono ?_); rintro e w' ⟨rfl, ⟨nd, rfl⟩⟩; refine ⟨_, rfl, ?_⟩) | ((with_reducible refine gate_callee (f := 35) rfl ?_); refine goesL_ (some 19) rfl rfl Try.func35 (by kernel_rfl) rfl #[.int .i64 a1, .int .i64 63] rfl (by (try simp only [List.map_toArray, List.map_cons, List.map_nil]); first | done | rfl | (simp only [List.length_drop, List.length_take]; rfl)) ?_; (with_reducible refine (distaffref01_bit.calls a1 63 t113 _ A7.out).mono ?_); rintro e w' ⟨rfl, ⟨nd, rfl⟩⟩; refine ⟨_, rfl, ?_⟩))
  (try simp only [Act.put, List.setIfInBounds_toArray, List.set_cons_zero, List.set_cons_succ])
  go_cut [6] (fun v6 wc => ∃ (kq : Nat) (x6_7 : Int), v6 = .int .i64 x6_7 ∧ Aside0 (distaffref01_Div.j0 kq a0 x6_7 t111 = some (r1, r2)) ∧ Aside0 (kq ≤ k) ∧ Aside0 (Below w.heap.size w wc))
  case first =>
    have H := HC8.out
    clear HC8
    by_cases c12 : t112 = t113
    · rw [if_pos c12] at H
      have c12b0 : (t112 == t113) = true := beq_iff_eq.mpr c12
      have c12b1 : (t112 != t113) = false := bne_eq_false_iff_eq.mpr c12
      clear c12
      (first | rw [c12b0] | (simp only [i64_w, i32_w]; rw [c12b0]) | skip)
      have H' := Aside0.mk H
      clear H
      go_wp2
      go_meet
      case rel => exact ⟨_, (t110), (by first | rfl | (simp; done) | (simp [*]; done)), H', ⟨by first | omega | exact Nat.le_refl _⟩, ⟨by repeat (first | (with_reducible first | exact HB.out | apply below_alloc | apply pw_below_drewN | apply below_drew1) | exact HB.out)⟩⟩
    · rw [if_neg c12] at H
      have c12b0 : (t112 == t113) = false := beq_eq_false_iff_ne.mpr c12
      have c12b1 : (t112 != t113) = true := bne_iff_ne.mpr c12
      (first | rw [c12b0] | (simp only [i64_w, i32_w]; rw [c12b0]) | skip)
      replace H := Option.bind_eq_some_iff.mp H
      obtain ⟨t114, A130, H⟩ := H
      replace H : (distaffref01_Div.j0 k a0 t114 t111) = some (r1, r2) := H
      have A13 := Aside0.mk A130
      clear A130
      have H' := Aside0.mk H
      clear H
      go_wp2_with (first | ((with_reducible refine gate_callee (f := 31) rfl ?_); refine goesL_ (some 22) rfl rfl Try.func31 (by kernel_rfl) rfl #[.int .i64 t110] rfl (by (try simp only [List.map_toArray, List.map_cons, List.map_nil]); first | done | rfl | (simp only [List.length_drop, List.length_take]; rfl)) ?_; (with_reducible refine (distaffref01_Neg.calls t110 t114 _ A13.out).mono ?_); rintro e w14 ⟨rfl, hb⟩; refine ⟨_, rfl, ?_⟩; have n0_ := Aside0.mk (below_step (by repeat (first | (with_reducible first | exact HB.out | apply below_alloc | apply pw_below_drewN | apply below_drew1) | exact HB.out)) hb); clear HB; have HB := n0_; clear n0_; (try clear hb); (try clear hb2); (try clear hk); (try clear hi)))
      go_meet
      case rel => exact ⟨_, (t114), (by first | rfl | (simp; done) | (simp [*]; done)), H', ⟨by first | omega | exact Nat.le_refl _⟩, ⟨by repeat (first | (with_reducible first | exact HB.out | apply below_alloc | apply pw_below_drewN | apply below_drew1) | exact HB.out)⟩⟩
  case rest =>
    clear HC8
    try clear c1
    try clear c2
    try clear p2
    try clear c3
    try clear c4
    try clear c12
    try clear c12b0
    try clear c12b1
    obtain ⟨kq, x6_7, rfl, HA, HJ7, HB⟩ := hcut
    cases kq with
    | zero => exact absurd HA.out (by simp [distaffref01_Div.j0])
    | succ kj7 =>
      have H := HA.out
      clear HA
      simp only [distaffref01_Div.j0] at H
      replace H := Option.bind_eq_some_iff.mp H
      obtain ⟨t115, A150, H⟩ := H
      replace H : (if t115 = 1 then ((distaffref01_Neg.f t111).bind fun t116 => (some (x6_7, t116))) else (some (x6_7, t111))) = some (r1, r2) := H
      have A15 := Aside0.mk A150
      clear A150
      by_cases c16 : t115 = 1
      · rw [if_pos c16] at H
        have c16b0 : (t115 == 1) = true := beq_iff_eq.mpr c16
        have c16b1 : (t115 != 1) = false := bne_eq_false_iff_eq.mpr c16
        clear c16
        replace H := Option.bind_eq_some_iff.mp H
        obtain ⟨t116, A170, H⟩ := H
        replace H : (some (x6_7, t116)) = some (r1, r2) := H
        have A17 := Aside0.mk A170
        clear A170
        simp only [Option.some.injEq, Prod.mk.injEq] at H
        obtain ⟨rfl, rfl⟩ := H
        go_wp2_with (first | ((with_reducible refine gate_callee (f := 35) rfl ?_); refine goesL_ (some 24) rfl rfl Try.func35 (by kernel_rfl) rfl #[.int .i64 a0, .int .i64 63] rfl (by (try simp only [List.map_toArray, List.map_cons, List.map_nil]); first | done | rfl | (simp only [List.length_drop, List.length_take]; rfl)) ?_; (with_reducible refine (distaffref01_bit.calls a0 63 t115 _ A15.out).mono ?_); rintro e w' ⟨rfl, ⟨nd, rfl⟩⟩; refine ⟨_, rfl, ?_⟩) | ((with_reducible refine gate_callee (f := 31) rfl ?_); refine goesL_ (some 27) rfl rfl Try.func31 (by kernel_rfl) rfl #[.int .i64 t111] rfl (by (try simp only [List.map_toArray, List.map_cons, List.map_nil]); first | done | rfl | (simp only [List.length_drop, List.length_take]; rfl)) ?_; (with_reducible refine (distaffref01_Neg.calls t111 t116 _ A17.out).mono ?_); rintro e w18 ⟨rfl, hb⟩; refine ⟨_, rfl, ?_⟩; have n0_ := Aside0.mk (below_step (by repeat (first | (with_reducible first | exact HB.out | apply below_alloc | apply pw_below_drewN | apply below_drew1) | exact HB.out)) hb); clear HB; have HB := n0_; clear n0_; (try clear hb); (try clear hb2); (try clear hk); (try clear hi)))
        go_ret2
        exact ⟨by first | rfl | (simp [errW_none, errW_some] <;> rfl) | (simp [*, errW_none, errW_some] <;> rfl), by repeat (first | (with_reducible first | exact HB.out | apply below_alloc | apply pw_below_drewN | apply below_drew1) | exact HB.out)⟩
      · rw [if_neg c16] at H
        have c16b0 : (t115 == 1) = false := beq_eq_false_iff_ne.mpr c16
        have c16b1 : (t115 != 1) = true := bne_iff_ne.mpr c16
        simp only [Option.some.injEq, Prod.mk.injEq] at H
        obtain ⟨rfl, rfl⟩ := H
        go_wp2_with (first | ((with_reducible refine gate_callee (f := 35) rfl ?_); refine goesL_ (some 24) rfl rfl Try.func35 (by kernel_rfl) rfl #[.int .i64 a0, .int .i64 63] rfl (by (try simp only [List.map_toArray, List.map_cons, List.map_nil]); first | done | rfl | (simp only [List.length_drop, List.length_take]; rfl)) ?_; (with_reducible refine (distaffref01_bit.calls a0 63 t115 _ A15.out).mono ?_); rintro e w' ⟨rfl, ⟨nd, rfl⟩⟩; refine ⟨_, rfl, ?_⟩))
        go_ret2
        exact ⟨by first | rfl | (simp [errW_none, errW_some] <;> rfl) | (simp [*, errW_none, errW_some] <;> rfl), by repeat (first | (with_reducible first | exact HB.out | apply below_alloc | apply pw_below_drewN | apply below_drew1) | exact HB.out)⟩

/-! ### distaffref01_mul: function 32 -/
def distaffref01_mul.l0 : Nat → Int → Int → Int → Int → Option (Int)
  | 0, _, _, _, _ => none
  | k + 1, x0, x1, x5, x6 => if x6 ≥ 0 then ((distaffref01_Add.f x5 x5).bind fun t117 => ((distaffref01_bit.f x1 x6).bind fun t118 => (if t118 = 1 then ((distaffref01_Add.f t117 x0).bind fun t119 => (distaffref01_mul.l0 k x0 x1 t119 (wrap64 (x6 - 1)))) else (distaffref01_mul.l0 k x0 x1 t117 (wrap64 (x6 - 1)))))) else (some x5)
def distaffref01_mul.f (k : Nat) (a0 : Int) (a1 : Int) : Option (Int) := distaffref01_mul.l0 k a0 a1 0 63
theorem distaffref01_mul.mono_l : ∀ k, (∀ y0 y1 y2 y3, LeO (distaffref01_mul.l0 k y0 y1 y2 y3) (distaffref01_mul.l0 (k + 1) y0 y1 y2 y3))
  | 0 => fun _ _ _ _ r h => by simp [distaffref01_mul.l0] at h
  | k + 1 => by
    have ih0 := distaffref01_mul.mono_l k
    · intro y0 y1 y2 y3
      unfold distaffref01_mul.l0
      repeat' first
      | (with_reducible exact ih0 _ _ _ _)
      | (with_reducible exact LeO.refl _)
      | (with_reducible exact LeO.none _)
      | (with_reducible refine LeO.ite ?_ ?_)
      | (with_reducible refine LeO.bind ?_ (fun _ => ?_))
      | exact ih0 _ _ _ _
      | exact LeO.none _
      | refine LeO.ite ?_ ?_
      | refine LeO.bind ?_ (fun _ => ?_)
theorem distaffref01_mul.mono : ∀ a0 a1 k, LeO (distaffref01_mul.f k a0 a1) (distaffref01_mul.f (k + 1) a0 a1) := by
  intro a0 a1 k
  have ih0 := distaffref01_mul.mono_l k
  unfold distaffref01_mul.f
  repeat' first
      | (with_reducible exact ih0 _ _ _ _)
      | (with_reducible exact LeO.refl _)
      | (with_reducible exact LeO.none _)
      | (with_reducible refine LeO.ite ?_ ?_)
      | (with_reducible refine LeO.bind ?_ (fun _ => ?_))
      | exact ih0 _ _ _ _
      | exact LeO.none _
      | refine LeO.ite ?_ ?_
      | refine LeO.bind ?_ (fun _ => ?_)
set_option maxHeartbeats 8000000 in
set_option maxRecDepth 100000 in
theorem distaffref01_mul.calls (k : Nat) (a0 : Int) (a1 : Int) (r : Int) (w : World) (h : distaffref01_mul.f k a0 a1 = some r) :
    Calls Try.prog 32 #[.int .i64 a0, .int .i64 a1] w fun e w' => e = .returned (.int .i64 r) ∧ Below w.heap.size w w' := by
  have HB := Aside0.mk (Below.refl w.heap.size w)
  have H : (distaffref01_mul.l0 k a0 a1 0 63) = some r := h
  clear h
  have H' := Aside0.mk H
  clear H
  go_enter Try.func32, Try.ntmps32
  go_wp2
  go_loopg [5, 6] k (fun kq v5 v6 w' => ∃ (x5_1 : Int) (x6_1 : Int), v5 = .int .i64 x5_1 ∧ v6 = .int .i64 x6_1 ∧ Aside0 (distaffref01_mul.l0 kq a0 a1 x5_1 x6_1 = some r) ∧ Aside0 (kq ≤ k) ∧ Aside0 (Below w.heap.size w w'))
  case atStart => exact ⟨(0), (63), (by first | rfl | (simp; done) | (simp [*]; done)), (by first | rfl | (simp; done) | (simp [*]; done)), H', ⟨Nat.le_refl _⟩, ⟨by repeat (first | (with_reducible first | exact HB.out | apply below_alloc | apply pw_below_drewN | apply below_drew1) | exact HB.out)⟩⟩
  case round =>
    clear H'
    try clear p2
    obtain ⟨x5_1, x6_1, rfl, rfl, HA, HK1, HB⟩ := hrel
    cases gk with
    | zero => exact absurd HA.out (by simp [distaffref01_mul.l0])
    | succ k1 =>
      have H := HA.out
      clear HA
      simp only [distaffref01_mul.l0] at H
      by_cases c3 : x6_1 ≥ 0
      · rw [if_pos c3] at H
        have c3b0 : decide (0 ≤ x6_1) = true := decide_eq_true c3
        clear c3
        replace H := Option.bind_eq_some_iff.mp H
        obtain ⟨t117, A40, H⟩ := H
        replace H : ((distaffref01_bit.f a1 x6_1).bind fun t118 => (if t118 = 1 then ((distaffref01_Add.f t117 a0).bind fun t119 => (distaffref01_mul.l0 k1 a0 a1 t119 (wrap64 (x6_1 - 1)))) else (distaffref01_mul.l0 k1 a0 a1 t117 (wrap64 (x6_1 - 1))))) = some r := H
        have A4 := Aside0.mk A40
        clear A40
        replace H := Option.bind_eq_some_iff.mp H
        obtain ⟨t118, A50, H⟩ := H
        replace H : (if t118 = 1 then ((distaffref01_Add.f t117 a0).bind fun t119 => (distaffref01_mul.l0 k1 a0 a1 t119 (wrap64 (x6_1 - 1)))) else (distaffref01_mul.l0 k1 a0 a1 t117 (wrap64 (x6_1 - 1)))) = some r := H
        have A5 := Aside0.mk A50
        clear A50
        by_cases c6 : t118 = 1
        · rw [if_pos c6] at H
          have c6b0 : (t118 == 1) = true := beq_iff_eq.mpr c6
          have c6b1 : (t118 != 1) = false := bne_eq_false_iff_eq.mpr c6
          clear c6
          replace H := Option.bind_eq_some_iff.mp H
          obtain ⟨t119, A70, H⟩ := H
          replace H : (distaffref01_mul.l0 k1 a0 a1 t119 (wrap64 (x6_1 - 1))) = some r := H
          have A7 := Aside0.mk A70
          clear A70
          have H' := Aside0.mk H
          clear H
          go_wp2_with (first | ((with_reducible refine gate_callee (f := 25) rfl ?_); refine goesL_ (some 13) rfl rfl Try.func25 (by kernel_rfl) rfl #[.int .i64 x5_1, .int .i64 x5_1] rfl (by (try simp only [List.map_toArray, List.map_cons, List.map_nil]); first | done | rfl | (simp only [List.length_drop, List.length_take]; rfl)) ?_; (with_reducible refine (distaffref01_Add.calls x5_1 x5_1 t117 _ A4.out).mono ?_); rintro e w8 ⟨rfl, hb⟩; refine ⟨_, rfl, ?_⟩; have n0_ := Aside0.mk (below_step (by repeat (first | (with_reducible first | exact HB.out | apply below_alloc | apply pw_below_drewN | apply below_drew1) | exact HB.out)) hb); clear HB; have HB := n0_; clear n0_; (try clear hb); (try clear hb2); (try clear hk); (try clear hi)) | ((with_reducible refine gate_callee (f := 35) rfl ?_); refine goesL_ (some 16) rfl rfl Try.func35 (by kernel_rfl) rfl #[.int .i64 a1, .int .i64 x6_1] rfl (by (try simp only [List.map_toArray, List.map_cons, List.map_nil]); first | done | rfl | (simp only [List.length_drop, List.length_take]; rfl)) ?_; (with_reducible refine (distaffref01_bit.calls a1 x6_1 t118 _ A5.out).mono ?_); rintro e w' ⟨rfl, ⟨nd, rfl⟩⟩; refine ⟨_, rfl, ?_⟩) | ((with_reducible refine gate_callee (f := 25) rfl ?_); refine goesL_ (some 20) rfl rfl Try.func25 (by kernel_rfl) rfl #[.int .i64 t117, .int .i64 a0] rfl (by (try simp only [List.map_toArray, List.map_cons, List.map_nil]); first | done | rfl | (simp only [List.length_drop, List.length_take]; rfl)) ?_; (with_reducible refine (distaffref01_Add.calls t117 a0 t119 _ A7.out).mono ?_); rintro e w9 ⟨rfl, hb⟩; refine ⟨_, rfl, ?_⟩; have n0_ := Aside0.mk (below_step (by repeat (first | (with_reducible first | exact HB.out | apply below_alloc | apply pw_below_drewN | apply below_drew1) | exact HB.out)) hb); clear HB; have HB := n0_; clear n0_; (try clear hb); (try clear hb2); (try clear hk); (try clear hi)))
          go_roundg k1
          case measure => have := HK1.out; omega
          case rel => exact ⟨(t119), (wrap64 (x6_1 - 1)), (by first | rfl | (simp; done) | (simp [*]; done)), (by first | rfl | (simp; done) | (simp [*]; done)), H', ⟨by have := HK1.out; omega⟩, ⟨by repeat (first | (with_reducible first | exact HB.out | apply below_alloc | apply pw_below_drewN | apply below_drew1) | exact HB.out)⟩⟩
        · rw [if_neg c6] at H
          have c6b0 : (t118 == 1) = false := beq_eq_false_iff_ne.mpr c6
          have c6b1 : (t118 != 1) = true := bne_iff_ne.mpr c6
          have H' := Aside0.mk H
          clear H
          go_wp2_with (first | ((with_reducible refine gate_callee (f := 25) rfl ?_); refine goesL_ (some 13) rfl rfl Try.func25 (by kernel_rfl) rfl #[.int .i64 x5_1, .int .i64 x5_1] rfl (by (try simp only [List.map_toArray, List.map_cons, List.map_nil]); first | done | rfl | (simp only [List.length_drop, List.length_take]; rfl)) ?_; (with_reducible refine (distaffref01_Add.calls x5_1 x5_1 t117 _ A4.out).mono ?_); rintro e w10 ⟨rfl, hb⟩; refine ⟨_, rfl, ?_⟩; have n0_ := Aside0.mk (below_step (by repeat (first | (with_reducible first | exact HB.out | apply below_alloc | apply pw_below_drewN | apply below_drew1) | exact HB.out)) hb); clear HB; have HB := n0_; clear n0_; (try clear hb); (try clear hb2); (try clear hk); (try clear hi)) | ((with_reducible refine gate_callee (f := 35) rfl ?_); refine goesL_ (some 16) rfl rfl Try.func35 (by kernel_rfl) rfl #[.int .i64 a1, .int .i64 x6_1] rfl (by (try simp only [List.map_toArray, List.map_cons, List.map_nil]); first | done | rfl | (simp only [List.length_drop, List.length_take]; rfl)) ?_; (with_reducible refine (distaffref01_bit.calls a1 x6_1 t118 _ A5.out).mono ?_); rintro e w' ⟨rfl, ⟨nd, rfl⟩⟩; refine ⟨_, rfl, ?_⟩))
          go_roundg k1
          case measure => have := HK1.out; omega
          case rel => exact ⟨(t117), (wrap64 (x6_1 - 1)), (by first | rfl | (simp; done) | (simp [*]; done)), (by first | rfl | (simp; done) | (simp [*]; done)), H', ⟨by have := HK1.out; omega⟩, ⟨by repeat (first | (with_reducible first | exact HB.out | apply below_alloc | apply pw_below_drewN | apply below_drew1) | exact HB.out)⟩⟩
      · rw [if_neg c3] at H
        have c3b0 : decide (0 ≤ x6_1) = false := decide_eq_false c3
        clear c3
        obtain rfl := Option.some.inj H
        go_wp2
        go_ret
        exact ⟨by first | rfl | (simp [errW_none, errW_some] <;> rfl) | (simp [*, errW_none, errW_some] <;> rfl), by repeat (first | (with_reducible first | exact HB.out | apply below_alloc | apply pw_below_drewN | apply below_drew1) | exact HB.out)⟩

/-! ### logic: function 33 (by hand) -/
def distaffref01_logic.f (a0 : Int) (a1 : Int) (a2 : Int) : Option (Int) := some (if a0 = 9 then Go.bits .and .i64 a1 a2 else if a0 = 10 then Go.bits .or .i64 a1 a2 else Go.bits .xor .i64 a1 a2)
open Go.Proofs.Ytoojmpcpbnlkaaa.Arr in
theorem distaffref01_logic.bit (a : Int) (i : Nat) (h : i < 64) : distaffref01_bit.f a (i : Int) = some (bitOf a i) := by
  unfold distaffref01_bit.f
  rw [bit_expr a i h, if_pos (by rw [u64]; omega)]
open Go.Proofs.Ytoojmpcpbnlkaaa.Arr in
set_option maxRecDepth 100000 in
set_option maxHeartbeats 2000000 in
theorem distaffref01_logic.calls (a0 : Int) (a1 : Int) (a2 : Int) (r : Int) (w : World) (h : distaffref01_logic.f a0 a1 a2 = some r) :
    Calls Try.prog 33 #[.int .i64 a0, .int .i64 a1, .int .i64 a2] w fun e w' => e = .returned (.int .i64 r) ∧ Below w.heap.size w w' := by
  have hr := Option.some.inj h
  clear h
  obtain ⟨f, hf⟩ : ∃ f : Nat → Int, f = fun i => if a0 = 9 then bitOf a1 i * bitOf a2 i else if a0 = 10 then bitOf a1 i + bitOf a2 i - bitOf a1 i * bitOf a2 i else (bitOf a1 i + bitOf a2 i) % 2 := ⟨_, rfl⟩
  have hnum : wrap64 (hi (mk f 64)) = r := by
    rw [← hr, hf]
    by_cases c1 : a0 = 9
    · simp only [c1, if_true]
      rw [num_eq _ (Go.bits .and .i64 a1 a2) (fun j hj => (bit_and a1 a2 j hj).symm), wrap_and]
    · by_cases c2 : a0 = 10
      · simp only [c2, if_true, show ¬ ((10 : Int) = 9) by decide, if_false]
        rw [num_eq _ (Go.bits .or .i64 a1 a2) (fun j hj => (bit_or a1 a2 j hj).symm), wrap_or]
      · simp only [c1, c2, if_false]
        rw [num_eq _ (Go.bits .xor .i64 a1 a2) (fun j hj => (bit_xor a1 a2 j hj).symm), wrap_xor]
  clear hr
  have HR := Lib.hid hnum
  have HF := Lib.hid hf
  clear hf hnum
  go_enter Try.func33, Try.ntmps33
  go_wp2_with (first | (refine wpList_buildTo rfl 49 #[] rfl (some 11) rfl zeros (by kernel_rfl) ?_) | (refine wpList_store_rowTo rfl 49 (.tmp 7) (.tmp 11) rfl rfl w.heap.size zeros rfl rfl 49 _ (blk_new w _) (by kernel_rfl) rfl (by kernel_rfl) ?_))
  rw [World.setRow_alloc_new]
  go_loopw [8] (fun i wr => ∃ k : Nat, k ≤ 64 ∧ i = .int .i64 k ∧ wr.heap[w.heap.size]? = some (.cells (cellsOf (mk f k)) 49 (0, 0)) ∧ Below w.heap.size w wr) (fun i _ => (64 - intOf i).toNat)
  case atStart => exact ⟨0, by omega, rfl, by rw [← zeros_eq]; exact blk_new w _, (Below.refl _ _).alloc (Nat.le_refl _) _⟩
  case round =>
    obtain ⟨k, hk, rfl, hblk, hbel⟩ := hrel
    have HB := Lib.hid hblk
    clear hblk
    by_cases hlt : k < 64
    · obtain ⟨v, hcell⟩ : ∃ v, wr.cell? ⟨w.heap.size, k, none⟩ = some v := ⟨_, (blk_cell HB.out k).trans (cells_at _ k (by rw [mk_len]; omega))⟩
      have hfz := blk_frozen HB.out k
      have hbA := Lib.hid (distaffref01_logic.bit a1 k hlt)
      have hbB := Lib.hid (distaffref01_logic.bit a2 k hlt)
      obtain ⟨x, hx⟩ : ∃ x, x = bitOf a1 k := ⟨_, rfl⟩
      obtain ⟨y, hy⟩ : ∃ y, y = bitOf a2 k := ⟨_, rfl⟩
      have x1 := bit_01 a1 k
      have y1 := bit_01 a2 k
      rw [← hx] at x1 hbA
      rw [← hy] at y1 hbB
      have xa : 0 ≤ x := by omega
      have xb : x ≤ 1 := by omega
      have ya : 0 ≤ y := by omega
      have yb : y ≤ 1 := by omega
      have ma : 0 ≤ x * y := Int.mul_nonneg xa ya
      have mb : x * y ≤ 1 := by
        have := Int.mul_le_mul xb yb ya (show (0 : Int) ≤ 1 by decide)
        omega
      have HX := Lib.hid hx
      have HY := Lib.hid hy
      clear hx hy x1 y1
      by_cases c1 : a0 = 9
      · have hv : f k = x * y := by rw [HF.out]; simp only [c1, if_true]; rw [HX.out, HY.out]
        have HV := Lib.hid hv
        clear hv
        have d1 : (a0 == 9) = true := beq_iff_eq.mpr c1
        clear c1
        go_wp2_with (first | ((go_at_call 35); (with_reducible refine (distaffref01_bit.calls a1 k _ _ hbA.out).mono ?_); rintro e w2 ⟨rfl, ⟨nd, rfl⟩⟩) | ((go_at_call 35); (with_reducible refine (distaffref01_bit.calls a2 k _ _ hbB.out).mono ?_); rintro e w2 ⟨rfl, ⟨nd2, rfl⟩⟩))
        go_roundw
        case rel => exact ⟨k + 1, by omega, by go_num, blk_put (w := World.drewN wr _) HB.out k _ (by rw [cells_set, ← HV.out, mk_set]), below_set (pw_below_drewN hbel _) (Nat.le_refl _)⟩
        case measure => simp [intOf]; omega
      · have d1 : (a0 == 9) = false := beq_eq_false_iff_ne.mpr c1
        by_cases c2 : a0 = 10
        · have hv : f k = x + y - x * y := by rw [HF.out]; simp only [c2, if_true, show ¬ ((10 : Int) = 9) by decide, if_false]; rw [HX.out, HY.out]
          have HV := Lib.hid hv
          clear hv
          have d2 : (a0 == 10) = true := beq_iff_eq.mpr c2
          clear c1 c2
          go_wp2_with (first | ((go_at_call 35); (with_reducible refine (distaffref01_bit.calls a1 k _ _ hbA.out).mono ?_); rintro e w2 ⟨rfl, ⟨nd, rfl⟩⟩) | ((go_at_call 35); (with_reducible refine (distaffref01_bit.calls a2 k _ _ hbB.out).mono ?_); rintro e w2 ⟨rfl, ⟨nd2, rfl⟩⟩))
          go_roundw
          case rel => exact ⟨k + 1, by omega, by go_num, blk_put (w := World.drewN wr _) HB.out k _ (by rw [cells_set, ← HV.out, mk_set]), below_set (pw_below_drewN hbel _) (Nat.le_refl _)⟩
          case measure => simp [intOf]; omega
        · have hv : f k = (x + y) % 2 := by rw [HF.out]; simp only [c1, c2, if_false]; rw [HX.out, HY.out]
          have HV := Lib.hid hv
          clear hv
          have d2 : (a0 == 10) = false := beq_eq_false_iff_ne.mpr c2
          clear c1 c2
          go_wp2_with (first | ((go_at_call 35); (with_reducible refine (distaffref01_bit.calls a1 k _ _ hbA.out).mono ?_); rintro e w2 ⟨rfl, ⟨nd, rfl⟩⟩) | ((go_at_call 35); (with_reducible refine (distaffref01_bit.calls a2 k _ _ hbB.out).mono ?_); rintro e w2 ⟨rfl, ⟨nd2, rfl⟩⟩))
          go_roundw
          case rel => exact ⟨k + 1, by omega, by go_num, blk_put (w := World.drewN wr _) HB.out k _ (by rw [cells_set, ← HV.out, mk_set]), below_set (pw_below_drewN hbel _) (Nat.le_refl _)⟩
          case measure => simp [intOf]; omega
    · have hnum := distaffref01_number.calls (mk f 64) (mk_len _ _)
      obtain rfl : k = 64 := by omega
      have HN := Lib.hid hnum
      clear hnum
      go_wp2_with (first | (with_reducible refine wpList_load_row rfl 49 _ rfl w.heap.size rfl 49 _ (0, 0) _ HB.out Try.underlying49 rfl ?hi ?_) | ((go_at_call 45); refine (HN.out _).mono ?_; rintro e w2 ⟨rfl, hb2⟩))
      case hi => rw [cells_size, mk_len]; kernel_rfl
      go_ret
      exact ⟨by rw [HR.out]; first | done | rfl, below_then hbel hbel.size hb2⟩

end Go.Proofs.Ytoojmpcpbnlkaaa.PArithTurns
