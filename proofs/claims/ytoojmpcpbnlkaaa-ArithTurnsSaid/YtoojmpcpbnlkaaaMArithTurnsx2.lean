/- Contracts of the Go functions that the statement ArithTurns reaches, and its row: what each answers, as a Lean function, and that the Go code answers just so. No further condition. -/
import Derived.Test.YtoojmpcpbnlkaaaMArithTurnsx0
import Derived.Test.YtoojmpcpbnlkaaaMArithTurnsx1
namespace Go.Proofs.Ytoojmpcpbnlkaaa.PArithTurns
open Go.RowKit Go.Proofs.YtoojmpcpbnlkaaaW.PrintWords Go.Proofs.YtoojmpcpbnlkaaaW.PrintLast Go.Proofs.YtoojmpcpbnlkaaaW.PrintMore
attribute [local go_sem] max2_int min2_int max_two min_two max_three min_three max_four min_four   -- for this text's walks alone
set_option linter.unusedVariables false
set_option linter.unusedSimpArgs false

/-! ### shift: function 34 (by hand) -/
def distaffref01_shift.f (a0 : Int) (a1 : Int) (a2 : Bool) (a3 : Int) : Option (Int) := if (0 ≤ a1 ∧ a1 < 64) ∧ (a3 = 0 ∨ a3 = 1) then some (if a2 = true then wrap64 (a0 * 2 ^ a1.toNat) else wrap64 (Go.Proofs.Ytoojmpcpbnlkaaa.Arr.rightOf a0 a1.toNat a3)) else none
open Go.Proofs.Ytoojmpcpbnlkaaa.Arr in
theorem distaffref01_shift.bit (a : Int) (i : Nat) (h : i < 64) : distaffref01_bit.f a (i : Int) = some (bitOf a i) := by
  unfold distaffref01_bit.f
  rw [bit_expr a i h, if_pos (by rw [u64]; omega)]
open Go.Proofs.Ytoojmpcpbnlkaaa.Arr in
set_option maxRecDepth 100000 in
set_option maxHeartbeats 2000000 in
theorem distaffref01_shift.calls (a0 : Int) (a1 : Int) (a2 : Bool) (a3 : Int) (r : Int) (w : World) (h : distaffref01_shift.f a0 a1 a2 a3 = some r) :
    Calls Try.prog 34 #[.int .i64 a0, .int .i64 a1, .bool a2, .int .i64 a3] w fun e w' => e = .returned (.int .i64 r) ∧ Below w.heap.size w w' := by
  unfold distaffref01_shift.f at h
  by_cases hc : (0 ≤ a1 ∧ a1 < 64) ∧ (a3 = 0 ∨ a3 = 1)
  · rw [if_pos hc] at h
    obtain ⟨⟨hn0, hn1⟩, hab⟩ := hc
    obtain ⟨n, rfl⟩ := Int.eq_ofNat_of_zero_le hn0
    rw [Int.toNat_natCast] at h
    have hn : n < 64 := by omega
    have hr := Option.some.inj h
    clear h
    obtain ⟨f, hf⟩ : ∃ f : Nat → Int, f = fun i => if a2 = true then (if n ≤ i then bitOf a0 (i - n) else 0) else (if i + n < 64 then bitOf a0 (i + n) else a3) := ⟨_, rfl⟩
    have hnum : wrap64 (hi (mk f 64)) = r := by
      rw [← hr, hf]
      cases a2 with
      | true =>
        simp only [if_true]
        rw [num_eq _ (a0 * 2 ^ n) (fun j hj => (bit_left a0 n j).symm)]
      | false =>
        simp only [Bool.false_eq_true, if_false]
        rw [num_eq _ (rightOf a0 n a3) (fun j hj => (bit_right a0 n j a3 hn hj hab).symm)]
    clear hr hab
    have HR := Lib.hid hnum
    have HF := Lib.hid hf
    clear hf hnum
    go_enter Try.func34, Try.ntmps34
    go_wp2_with (first | (refine wpList_buildTo rfl 49 #[] rfl (some 12) rfl zeros (by kernel_rfl) ?_) | (refine wpList_store_rowTo rfl 49 (.tmp 9) (.tmp 12) rfl rfl w.heap.size zeros rfl rfl 49 _ (blk_new w _) (by kernel_rfl) rfl (by kernel_rfl) ?_))
    rw [World.setRow_alloc_new]
    go_loopw [10] (fun i wr => ∃ k : Nat, k ≤ 64 ∧ i = .int .i64 k ∧ wr.heap[w.heap.size]? = some (.cells (cellsOf (mk f k)) 49 (0, 0)) ∧ Below w.heap.size w wr) (fun i _ => (64 - intOf i).toNat)
    case atStart => exact ⟨0, by omega, rfl, by rw [← zeros_eq]; exact blk_new w _, (Below.refl _ _).alloc (Nat.le_refl _) _⟩
    case round =>
      obtain ⟨k, hk, rfl, hblk, hbel⟩ := hrel
      have HB := Lib.hid hblk
      clear hblk
      by_cases hlt : k < 64
      · obtain ⟨v, hcell⟩ : ∃ v, wr.cell? ⟨w.heap.size, k, none⟩ = some v := ⟨_, (blk_cell HB.out k).trans (cells_at _ k (by rw [mk_len]; omega))⟩
        have hfz := blk_frozen HB.out k
        cases a2 with
        | true =>
          by_cases c : n ≤ k
          · have e : ((k : Int) - (n : Int)) = ((k - n : Nat) : Int) := by omega
            have hbA : Hid (distaffref01_bit.f a0 ((k : Int) - (n : Int)) = some (bitOf a0 (k - n))) := Lib.hid (by rw [e]; exact distaffref01_shift.bit a0 (k - n) (by omega))
            have HV := Lib.hid (show f k = bitOf a0 (k - n) by rw [HF.out]; simp [c])
            clear e
            have p1 : 0 ≤ (k : Int) - (n : Int) := by omega
            have p2 : (k : Int) - (n : Int) < 64 := by omega
            go_wp2_with (first | ((go_at_call 35); (with_reducible refine (distaffref01_bit.calls a0 _ _ _ hbA.out).mono ?_); rintro e w2 ⟨rfl, ⟨nd, rfl⟩⟩))
            go_roundw
            case rel => exact ⟨k + 1, by omega, by go_num, blk_put (w := World.drewN wr _) HB.out k _ (by rw [cells_set, ← HV.out, mk_set]), below_set (pw_below_drewN hbel _) (Nat.le_refl _)⟩
            case measure => simp [intOf]; omega
          · have HV := Lib.hid (show f k = 0 by rw [HF.out]; simp [c])
            have p1 : (k : Int) - (n : Int) < 0 := by omega
            have p3 : decide (0 ≤ (k : Int) - (n : Int)) = false := by simp; omega
            go_wp2
            go_roundw
            case rel => exact ⟨k + 1, by omega, by go_num, blk_put (w := wr) HB.out k _ (by rw [cells_set, ← HV.out, mk_set]), below_set hbel (Nat.le_refl _)⟩
            case measure => simp [intOf]; omega
        | false =>
          by_cases c : k + n < 64
          · have e : ((k : Int) + (n : Int)) = ((k + n : Nat) : Int) := by omega
            have hbA : Hid (distaffref01_bit.f a0 ((k : Int) + (n : Int)) = some (bitOf a0 (k + n))) := Lib.hid (by rw [e]; exact distaffref01_shift.bit a0 (k + n) c)
            have HV := Lib.hid (show f k = bitOf a0 (k + n) by rw [HF.out]; simp [c])
            clear e
            have p1 : 0 ≤ (k : Int) + (n : Int) := by omega
            have p2 : (k : Int) + (n : Int) < 64 := by omega
            go_wp2_with (first | ((go_at_call 35); (with_reducible refine (distaffref01_bit.calls a0 _ _ _ hbA.out).mono ?_); rintro e w2 ⟨rfl, ⟨nd, rfl⟩⟩))
            go_roundw
            case rel => exact ⟨k + 1, by omega, by go_num, blk_put (w := World.drewN wr _) HB.out k _ (by rw [cells_set, ← HV.out, mk_set]), below_set (pw_below_drewN hbel _) (Nat.le_refl _)⟩
            case measure => simp [intOf]; omega
          · have HV := Lib.hid (show f k = a3 by rw [HF.out]; simp [c])
            have p1 : 64 ≤ (k : Int) + (n : Int) := by omega
            have p3 : decide ((k : Int) + (n : Int) < 64) = false := by simp; omega
            go_wp2
            go_roundw
            case rel => exact ⟨k + 1, by omega, by go_num, blk_put (w := wr) HB.out k _ (by rw [cells_set, ← HV.out, mk_set]), below_set hbel (Nat.le_refl _)⟩
            case measure => simp [intOf]; omega
      · have hnum := distaffref01_number.calls (mk f 64) (mk_len _ _)
        obtain rfl : k = 64 := by omega
        have HN := Lib.hid hnum
        clear hnum
        go_wp2_with (first | (with_reducible refine wpList_load_row rfl 49 _ rfl w.heap.size rfl 49 _ (0, 0) _ HB.out Try.underlying49 rfl ?hi ?_) | ((go_at_call 45); refine (HN.out _).mono ?_; rintro e w2 ⟨rfl, hb2⟩))
        case hi => rw [cells_size, mk_len]; kernel_rfl
        go_ret
        exact ⟨by rw [HR.out]; first | done | rfl, below_then hbel hbel.size hb2⟩
  · rw [if_neg hc] at h
    cases h

/-! ### distaffref01_one: function 36 -/
def distaffref01_one.f (a0 : Bool) : Option (Int) := if a0 = true then (some 1) else (some 0)
set_option maxHeartbeats 8000000 in
set_option maxRecDepth 100000 in
theorem distaffref01_one.calls (a0 : Bool) (r : Int) (w : World) (h : distaffref01_one.f a0 = some r) :
    Calls Try.prog 36 #[.bool a0] w fun e w' => e = .returned (.int .i64 r) ∧ Drawn0 w w' := by
  have H : (if a0 = true then (some 1) else (some 0)) = some r := h
  clear h
  by_cases c2 : a0 = true
  · subst c2
    have H1 : (some 1) = some r := by rw [if_pos rfl] at H; exact H
    clear H
    have H := H1
    clear H1
    obtain rfl := Option.some.inj H
    go_enter Try.func36, Try.ntmps36
    go_wp2
    go_ret
    exact ⟨by first | rfl | (simp; done) | (simp [*]; done), by repeat (first | exact Drawn0.refl _ | apply Drawn0.step)⟩
  · replace c2 := Bool.eq_false_iff.mpr c2
    subst c2
    have H1 : (some 0) = some r := by rw [if_neg (show ¬ (false = true) by decide)] at H; exact H
    clear H
    have H := H1
    clear H1
    obtain rfl := Option.some.inj H
    go_enter Try.func36, Try.ntmps36
    go_wp2
    go_ret
    exact ⟨by first | rfl | (simp; done) | (simp [*]; done), by repeat (first | exact Drawn0.refl _ | apply Drawn0.step)⟩

/-! ### distaffref01_below: function 38 -/
def distaffref01_below.f (k : Nat) (a0 : Int) (a1 : Int) : Option (Bool) := (distaffref01_bit.f a0 63).bind fun t120 => ((distaffref01_bit.f a1 63).bind fun t121 => (if t120 = t121 then ((distaffref01_under.f k a0 a1).bind fun t122 => (some t122)) else ((distaffref01_bit.f a0 63).bind fun t123 => (some (t123 == 1)))))
theorem distaffref01_below.mono : ∀ a0 a1 k, LeO (distaffref01_below.f k a0 a1) (distaffref01_below.f (k + 1) a0 a1) := by
  intro a0 a1 k
  unfold distaffref01_below.f
  repeat' first
      | (with_reducible exact distaffref01_under.mono _ _ _)
      | (with_reducible exact LeO.refl _)
      | (with_reducible exact LeO.none _)
      | (with_reducible refine LeO.ite ?_ ?_)
      | (with_reducible refine LeO.bind ?_ (fun _ => ?_))
      | exact distaffref01_under.mono _ _ _
      | exact LeO.none _
      | refine LeO.ite ?_ ?_
      | refine LeO.bind ?_ (fun _ => ?_)
set_option maxHeartbeats 8000000 in
set_option maxRecDepth 100000 in
theorem distaffref01_below.calls (k : Nat) (a0 : Int) (a1 : Int) (r : Bool) (w : World) (h : distaffref01_below.f k a0 a1 = some r) :
    Calls Try.prog 38 #[.int .i64 a0, .int .i64 a1] w fun e w' => e = .returned (.bool r) ∧ Drawn0 w w' := by
  have H : ((distaffref01_bit.f a0 63).bind fun t120 => ((distaffref01_bit.f a1 63).bind fun t121 => (if t120 = t121 then ((distaffref01_under.f k a0 a1).bind fun t122 => (some t122)) else ((distaffref01_bit.f a0 63).bind fun t123 => (some (t123 == 1)))))) = some r := h
  clear h
  replace H := Option.bind_eq_some_iff.mp H
  obtain ⟨t120, A30, H⟩ := H
  replace H : ((distaffref01_bit.f a1 63).bind fun t121 => (if t120 = t121 then ((distaffref01_under.f k a0 a1).bind fun t122 => (some t122)) else ((distaffref01_bit.f a0 63).bind fun t123 => (some (t123 == 1))))) = some r := H
  have A3 := Aside0.mk A30
  clear A30
  replace H := Option.bind_eq_some_iff.mp H
  obtain ⟨t121, A40, H⟩ := H
  replace H : (if t120 = t121 then ((distaffref01_under.f k a0 a1).bind fun t122 => (some t122)) else ((distaffref01_bit.f a0 63).bind fun t123 => (some (t123 == 1)))) = some r := H
  have A4 := Aside0.mk A40
  clear A40
  by_cases c5 : t120 = t121
  · rw [if_pos c5] at H
    have c5b0 : (t120 == t121) = true := beq_iff_eq.mpr c5
    have c5b1 : (t120 != t121) = false := bne_eq_false_iff_eq.mpr c5
    clear c5
    replace H := Option.bind_eq_some_iff.mp H
    obtain ⟨t122, A60, H⟩ := H
    replace H : (some t122) = some r := H
    have A6 := Aside0.mk A60
    clear A60
    obtain rfl := Option.some.inj H
    go_enter Try.func38, Try.ntmps38
    go_wp2_with (first | ((with_reducible refine gate_callee (f := 35) rfl ?_); refine goesL_ (some 6) rfl rfl Try.func35 (by kernel_rfl) rfl #[.int .i64 a0, .int .i64 63] rfl (by (try simp only [List.map_toArray, List.map_cons, List.map_nil]); first | done | rfl | (simp only [List.length_drop, List.length_take]; rfl)) ?_; (with_reducible refine (distaffref01_bit.calls a0 63 t120 _ A3.out).mono ?_); rintro e w' ⟨rfl, ⟨nd, rfl⟩⟩; refine ⟨_, rfl, ?_⟩) | ((with_reducible refine gate_callee (f := 35) rfl ?_); refine goesL_ (some 8) rfl rfl Try.func35 (by kernel_rfl) rfl #[.int .i64 a1, .int .i64 63] rfl (by (try simp only [List.map_toArray, List.map_cons, List.map_nil]); first | done | rfl | (simp only [List.length_drop, List.length_take]; rfl)) ?_; (with_reducible refine (distaffref01_bit.calls a1 63 t121 _ A4.out).mono ?_); rintro e w' ⟨rfl, ⟨nd, rfl⟩⟩; refine ⟨_, rfl, ?_⟩) | ((with_reducible refine gate_callee (f := 37) rfl ?_); refine goesL_ (some 15) rfl rfl Try.func37 (by kernel_rfl) rfl #[.int .i64 a0, .int .i64 a1] rfl (by (try simp only [List.map_toArray, List.map_cons, List.map_nil]); first | done | rfl | (simp only [List.length_drop, List.length_take]; rfl)) ?_; (with_reducible refine (distaffref01_under.calls k a0 a1 t122 _ A6.out).mono ?_); rintro e w' ⟨rfl, ⟨nd, rfl⟩⟩; refine ⟨_, rfl, ?_⟩))
    go_ret
    exact ⟨by first | rfl | (simp; done) | (simp [*]; done), by repeat (first | exact Drawn0.refl _ | apply Drawn0.step)⟩
  · rw [if_neg c5] at H
    have c5b0 : (t120 == t121) = false := beq_eq_false_iff_ne.mpr c5
    have c5b1 : (t120 != t121) = true := bne_iff_ne.mpr c5
    replace H := Option.bind_eq_some_iff.mp H
    obtain ⟨t123, A70, H⟩ := H
    replace H : (some (t123 == 1)) = some r := H
    have A7 := Aside0.mk A70
    clear A70
    obtain rfl := Option.some.inj H
    go_enter Try.func38, Try.ntmps38
    go_wp2_with (first | ((with_reducible refine gate_callee (f := 35) rfl ?_); refine goesL_ (some 6) rfl rfl Try.func35 (by kernel_rfl) rfl #[.int .i64 a0, .int .i64 63] rfl (by (try simp only [List.map_toArray, List.map_cons, List.map_nil]); first | done | rfl | (simp only [List.length_drop, List.length_take]; rfl)) ?_; (with_reducible refine (distaffref01_bit.calls a0 63 t120 _ A3.out).mono ?_); rintro e w' ⟨rfl, ⟨nd, rfl⟩⟩; refine ⟨_, rfl, ?_⟩) | ((with_reducible refine gate_callee (f := 35) rfl ?_); refine goesL_ (some 8) rfl rfl Try.func35 (by kernel_rfl) rfl #[.int .i64 a1, .int .i64 63] rfl (by (try simp only [List.map_toArray, List.map_cons, List.map_nil]); first | done | rfl | (simp only [List.length_drop, List.length_take]; rfl)) ?_; (with_reducible refine (distaffref01_bit.calls a1 63 t121 _ A4.out).mono ?_); rintro e w' ⟨rfl, ⟨nd, rfl⟩⟩; refine ⟨_, rfl, ?_⟩) | ((with_reducible refine gate_callee (f := 35) rfl ?_); refine goesL_ (some 11) rfl rfl Try.func35 (by kernel_rfl) rfl #[.int .i64 a0, .int .i64 63] rfl (by (try simp only [List.map_toArray, List.map_cons, List.map_nil]); first | done | rfl | (simp only [List.length_drop, List.length_take]; rfl)) ?_; (with_reducible refine (distaffref01_bit.calls a0 63 t123 _ A7.out).mono ?_); rintro e w' ⟨rfl, ⟨nd, rfl⟩⟩; refine ⟨_, rfl, ?_⟩))
    go_ret
    exact ⟨by first | rfl | (simp; done) | (simp [*]; done), by repeat (first | exact Drawn0.refl _ | apply Drawn0.step)⟩

/-! ### distaffref01_Do: function 11 -/
mutual
def distaffref01_Do.j0 : Nat → Int → Int → Int → Int → Int → Bool → Option (Int × Bool)
  | 0, _, _, _, _, _, _ => none
  | k + 1, x0, x1, x2, x8, x15, x32 => if x32 = true then (if x2 = 0 then (some (0, false)) else ((distaffref01_Div.f k x1 x2).bind fun bt128 => (if x0 = 7 then (some (bt128.1, true)) else (some (bt128.2, true))))) else (if x15 = 9 then (distaffref01_Do.j1 k x0 x1 x2 x8 x15 (x15 == 9)) else (if x15 = 10 then (distaffref01_Do.j1 k x0 x1 x2 x8 x15 (x15 == 10)) else (distaffref01_Do.j1 k x0 x1 x2 x8 x15 (x15 == 11))))
def distaffref01_Do.j1 : Nat → Int → Int → Int → Int → Int → Bool → Option (Int × Bool)
  | 0, _, _, _, _, _, _ => none
  | k + 1, x0, x1, x2, x8, x15, x47 => if x47 = true then ((distaffref01_logic.f x0 x1 x2).bind fun t130 => (some (t130, true))) else (if x15 = 12 then ((distaffref01_shift.f x1 x8 true 0).bind fun t131 => (some (t131, true))) else (if x15 = 13 then ((distaffref01_bit.f x1 63).bind fun t132 => ((distaffref01_shift.f x1 x8 false t132).bind fun t133 => (some (t133, true)))) else (if x15 = 14 then ((distaffref01_shift.f x1 x8 false 0).bind fun t134 => (some (t134, true))) else (if x15 = 17 then ((distaffref01_under.f k x1 x2).bind fun t135 => (if t135 = true then ((distaffref01_one.f false).bind fun t136 => (some (t136, true))) else ((distaffref01_under.f k x2 x1).bind fun t137 => ((distaffref01_one.f (!t137)).bind fun t138 => (some (t138, true)))))) else (if x15 = 18 then ((distaffref01_under.f k x1 x2).bind fun t139 => (if t139 = true then ((distaffref01_one.f true).bind fun t140 => (some (t140, true))) else ((distaffref01_under.f k x2 x1).bind fun t141 => ((distaffref01_one.f t141).bind fun t142 => (some (t142, true)))))) else (if x15 = 19 then ((distaffref01_below.f k x1 x2).bind fun t143 => ((distaffref01_one.f t143).bind fun t144 => (some (t144, true)))) else (if x15 = 20 then ((distaffref01_below.f k x2 x1).bind fun t145 => ((distaffref01_one.f (!t145)).bind fun t146 => (some (t146, true)))) else (if x15 = 21 then ((distaffref01_below.f k x2 x1).bind fun t147 => ((distaffref01_one.f t147).bind fun t148 => (some (t148, true)))) else (if x15 = 22 then ((distaffref01_below.f k x1 x2).bind fun t149 => ((distaffref01_one.f (!t149)).bind fun t150 => (some (t150, true)))) else (if x15 = 23 then ((distaffref01_under.f k x1 x2).bind fun t151 => ((distaffref01_one.f t151).bind fun t152 => (some (t152, true)))) else (some (0, false))))))))))))
end
def distaffref01_Do.f (k : Nat) (a0 : Int) (a1 : Int) (a2 : Int) : Option (Int × Bool) := if a0 = 4 then ((distaffref01_Add.f a1 a2).bind fun t124 => (some (t124, true))) else (if a0 = 5 then ((distaffref01_Neg.f a2).bind fun t125 => ((distaffref01_Add.f a1 t125).bind fun t126 => (some (t126, true)))) else (if a0 = 6 then ((distaffref01_mul.f k a1 a2).bind fun t127 => (some (t127, true))) else (if a0 = 7 then (distaffref01_Do.j0 k a0 a1 a2 (wrap64 (Int.tmod (IntKind.u64.wrap (a2)) 64)) a0 (a0 == 7)) else (distaffref01_Do.j0 k a0 a1 a2 (wrap64 (Int.tmod (IntKind.u64.wrap (a2)) 64)) a0 (a0 == 8)))))
theorem distaffref01_Do.mono_l : ∀ k, (∀ y0 y1 y2 y3 y4 y5, LeO (distaffref01_Do.j0 k y0 y1 y2 y3 y4 y5) (distaffref01_Do.j0 (k + 1) y0 y1 y2 y3 y4 y5)) ∧ (∀ y0 y1 y2 y3 y4 y5, LeO (distaffref01_Do.j1 k y0 y1 y2 y3 y4 y5) (distaffref01_Do.j1 (k + 1) y0 y1 y2 y3 y4 y5))
  | 0 => ⟨fun _ _ _ _ _ _ r h => by simp [distaffref01_Do.j0] at h, fun _ _ _ _ _ _ r h => by simp [distaffref01_Do.j1] at h⟩
  | k + 1 => by
    obtain ⟨ih0, ih1⟩ := distaffref01_Do.mono_l k
    refine ⟨?_, ?_⟩
    · intro y0 y1 y2 y3 y4 y5
      unfold distaffref01_Do.j0
      repeat' first
      | (with_reducible exact ih0 _ _ _ _ _ _)
      | (with_reducible exact ih1 _ _ _ _ _ _)
      | (with_reducible exact distaffref01_Div.mono _ _ _)
      | (with_reducible exact distaffref01_below.mono _ _ _)
      | (with_reducible exact distaffref01_mul.mono _ _ _)
      | (with_reducible exact distaffref01_under.mono _ _ _)
      | (with_reducible exact LeO.refl _)
      | (with_reducible exact LeO.none _)
      | (with_reducible refine LeO.ite ?_ ?_)
      | (with_reducible refine LeO.bind ?_ (fun _ => ?_))
      | exact ih0 _ _ _ _ _ _
      | exact ih1 _ _ _ _ _ _
      | exact distaffref01_Div.mono _ _ _
      | exact distaffref01_below.mono _ _ _
      | exact distaffref01_mul.mono _ _ _
      | exact distaffref01_under.mono _ _ _
      | exact LeO.none _
      | refine LeO.ite ?_ ?_
      | refine LeO.bind ?_ (fun _ => ?_)
    · intro y0 y1 y2 y3 y4 y5
      unfold distaffref01_Do.j1
      repeat' first
      | (with_reducible exact ih0 _ _ _ _ _ _)
      | (with_reducible exact ih1 _ _ _ _ _ _)
      | (with_reducible exact distaffref01_Div.mono _ _ _)
      | (with_reducible exact distaffref01_below.mono _ _ _)
      | (with_reducible exact distaffref01_mul.mono _ _ _)
      | (with_reducible exact distaffref01_under.mono _ _ _)
      | (with_reducible exact LeO.refl _)
      | (with_reducible exact LeO.none _)
      | (with_reducible refine LeO.ite ?_ ?_)
      | (with_reducible refine LeO.bind ?_ (fun _ => ?_))
      | exact ih0 _ _ _ _ _ _
      | exact ih1 _ _ _ _ _ _
      | exact distaffref01_Div.mono _ _ _
      | exact distaffref01_below.mono _ _ _
      | exact distaffref01_mul.mono _ _ _
      | exact distaffref01_under.mono _ _ _
      | exact LeO.none _
      | refine LeO.ite ?_ ?_
      | refine LeO.bind ?_ (fun _ => ?_)
theorem distaffref01_Do.mono : ∀ a0 a1 a2 k, LeO (distaffref01_Do.f k a0 a1 a2) (distaffref01_Do.f (k + 1) a0 a1 a2) := by
  intro a0 a1 a2 k
  obtain ⟨ih0, ih1⟩ := distaffref01_Do.mono_l k
  unfold distaffref01_Do.f
  repeat' first
      | (with_reducible exact ih0 _ _ _ _ _ _)
      | (with_reducible exact ih1 _ _ _ _ _ _)
      | (with_reducible exact distaffref01_Div.mono _ _ _)
      | (with_reducible exact distaffref01_below.mono _ _ _)
      | (with_reducible exact distaffref01_mul.mono _ _ _)
      | (with_reducible exact distaffref01_under.mono _ _ _)
      | (with_reducible exact LeO.refl _)
      | (with_reducible exact LeO.none _)
      | (with_reducible refine LeO.ite ?_ ?_)
      | (with_reducible refine LeO.bind ?_ (fun _ => ?_))
      | exact ih0 _ _ _ _ _ _
      | exact ih1 _ _ _ _ _ _
      | exact distaffref01_Div.mono _ _ _
      | exact distaffref01_below.mono _ _ _
      | exact distaffref01_mul.mono _ _ _
      | exact distaffref01_under.mono _ _ _
      | exact LeO.none _
      | refine LeO.ite ?_ ?_
      | refine LeO.bind ?_ (fun _ => ?_)
set_option maxHeartbeats 8000000 in
set_option maxRecDepth 100000 in
theorem distaffref01_Do.calls (k : Nat) (a0 : Int) (a1 : Int) (a2 : Int) (r1 : Int) (r2 : Bool) (w : World) (h : distaffref01_Do.f k a0 a1 a2 = some (r1, r2)) :
    Calls Try.prog 11 #[.int .i64 a0, .int .i64 a1, .int .i64 a2] w fun e w' => e = .returned (.tuple #[.int .i64 r1, .bool r2]) ∧ Below w.heap.size w w' := by
  have HB := Aside0.mk (Below.refl w.heap.size w)
  have H : (if a0 = 4 then ((distaffref01_Add.f a1 a2).bind fun t124 => (some (t124, true))) else (if a0 = 5 then ((distaffref01_Neg.f a2).bind fun t125 => ((distaffref01_Add.f a1 t125).bind fun t126 => (some (t126, true)))) else (if a0 = 6 then ((distaffref01_mul.f k a1 a2).bind fun t127 => (some (t127, true))) else (if a0 = 7 then (distaffref01_Do.j0 k a0 a1 a2 (wrap64 (Int.tmod (IntKind.u64.wrap (a2)) 64)) a0 (a0 == 7)) else (distaffref01_Do.j0 k a0 a1 a2 (wrap64 (Int.tmod (IntKind.u64.wrap (a2)) 64)) a0 (a0 == 8)))))) = some (r1, r2) := h
  clear h
  by_cases c4 : a0 = 4
  · rw [if_pos c4] at H
    have c4b0 : (a0 == 4) = true := beq_iff_eq.mpr c4
    have c4b1 : (a0 != 4) = false := bne_eq_false_iff_eq.mpr c4
    clear c4
    replace H := Option.bind_eq_some_iff.mp H
    obtain ⟨t124, A50, H⟩ := H
    replace H : (some (t124, true)) = some (r1, r2) := H
    have A5 := Aside0.mk A50
    clear A50
    simp only [Option.some.injEq, Prod.mk.injEq] at H
    obtain ⟨rfl, rfl⟩ := H
    go_enter Try.func11, Try.ntmps11
    go_wp2_with (first | ((with_reducible refine gate_callee (f := 25) rfl ?_); refine goesL_ (some 20) rfl rfl Try.func25 (by kernel_rfl) rfl #[.int .i64 a1, .int .i64 a2] rfl (by (try simp only [List.map_toArray, List.map_cons, List.map_nil]); first | done | rfl | (simp only [List.length_drop, List.length_take]; rfl)) ?_; (with_reducible refine (distaffref01_Add.calls a1 a2 t124 _ A5.out).mono ?_); rintro e w6 ⟨rfl, hb⟩; refine ⟨_, rfl, ?_⟩; have n0_ := Aside0.mk (below_step (by repeat (first | (with_reducible first | exact HB.out | apply below_alloc | apply pw_below_drewN | apply below_drew1) | exact HB.out)) hb); clear HB; have HB := n0_; clear n0_; (try clear hb); (try clear hb2); (try clear hk); (try clear hi)))
    go_ret2
    exact ⟨by first | rfl | (simp [errW_none, errW_some] <;> rfl) | (simp [*, errW_none, errW_some] <;> rfl), by repeat (first | (with_reducible first | exact HB.out | apply below_alloc | apply pw_below_drewN | apply below_drew1) | exact HB.out)⟩
  · rw [if_neg c4] at H
    have c4b0 : (a0 == 4) = false := beq_eq_false_iff_ne.mpr c4
    have c4b1 : (a0 != 4) = true := bne_iff_ne.mpr c4
    by_cases c7 : a0 = 5
    · rw [if_pos c7] at H
      have c7b0 : (a0 == 5) = true := beq_iff_eq.mpr c7
      have c7b1 : (a0 != 5) = false := bne_eq_false_iff_eq.mpr c7
      clear c7
      replace H := Option.bind_eq_some_iff.mp H
      obtain ⟨t125, A80, H⟩ := H
      replace H : ((distaffref01_Add.f a1 t125).bind fun t126 => (some (t126, true))) = some (r1, r2) := H
      have A8 := Aside0.mk A80
      clear A80
      replace H := Option.bind_eq_some_iff.mp H
      obtain ⟨t126, A90, H⟩ := H
      replace H : (some (t126, true)) = some (r1, r2) := H
      have A9 := Aside0.mk A90
      clear A90
      simp only [Option.some.injEq, Prod.mk.injEq] at H
      obtain ⟨rfl, rfl⟩ := H
      go_enter Try.func11, Try.ntmps11
      go_wp2_with (first | ((with_reducible refine gate_callee (f := 31) rfl ?_); refine goesL_ (some 25) rfl rfl Try.func31 (by kernel_rfl) rfl #[.int .i64 a2] rfl (by (try simp only [List.map_toArray, List.map_cons, List.map_nil]); first | done | rfl | (simp only [List.length_drop, List.length_take]; rfl)) ?_; (with_reducible refine (distaffref01_Neg.calls a2 t125 _ A8.out).mono ?_); rintro e w10 ⟨rfl, hb⟩; refine ⟨_, rfl, ?_⟩; have n0_ := Aside0.mk (below_step (by repeat (first | (with_reducible first | exact HB.out | apply below_alloc | apply pw_below_drewN | apply below_drew1) | exact HB.out)) hb); clear HB; have HB := n0_; clear n0_; (try clear hb); (try clear hb2); (try clear hk); (try clear hi)) | ((with_reducible refine gate_callee (f := 25) rfl ?_); refine goesL_ (some 26) rfl rfl Try.func25 (by kernel_rfl) rfl #[.int .i64 a1, .int .i64 t125] rfl (by (try simp only [List.map_toArray, List.map_cons, List.map_nil]); first | done | rfl | (simp only [List.length_drop, List.length_take]; rfl)) ?_; (with_reducible refine (distaffref01_Add.calls a1 t125 t126 _ A9.out).mono ?_); rintro e w11 ⟨rfl, hb⟩; refine ⟨_, rfl, ?_⟩; have n0_ := Aside0.mk (below_step (by repeat (first | (with_reducible first | exact HB.out | apply below_alloc | apply pw_below_drewN | apply below_drew1) | exact HB.out)) hb); clear HB; have HB := n0_; clear n0_; (try clear hb); (try clear hb2); (try clear hk); (try clear hi)))
      go_ret2
      exact ⟨by first | rfl | (simp [errW_none, errW_some] <;> rfl) | (simp [*, errW_none, errW_some] <;> rfl), by repeat (first | (with_reducible first | exact HB.out | apply below_alloc | apply pw_below_drewN | apply below_drew1) | exact HB.out)⟩
    · rw [if_neg c7] at H
      have c7b0 : (a0 == 5) = false := beq_eq_false_iff_ne.mpr c7
      have c7b1 : (a0 != 5) = true := bne_iff_ne.mpr c7
      by_cases c12 : a0 = 6
      · rw [if_pos c12] at H
        have c12b0 : (a0 == 6) = true := beq_iff_eq.mpr c12
        have c12b1 : (a0 != 6) = false := bne_eq_false_iff_eq.mpr c12
        clear c12
        replace H := Option.bind_eq_some_iff.mp H
        obtain ⟨t127, A130, H⟩ := H
        replace H : (some (t127, true)) = some (r1, r2) := H
        have A13 := Aside0.mk A130
        clear A130
        simp only [Option.some.injEq, Prod.mk.injEq] at H
        obtain ⟨rfl, rfl⟩ := H
        go_enter Try.func11, Try.ntmps11
        go_wp2_with (first | ((with_reducible refine gate_callee (f := 32) rfl ?_); refine goesL_ (some 31) rfl rfl Try.func32 (by kernel_rfl) rfl #[.int .i64 a1, .int .i64 a2] rfl (by (try simp only [List.map_toArray, List.map_cons, List.map_nil]); first | done | rfl | (simp only [List.length_drop, List.length_take]; rfl)) ?_; (with_reducible refine (distaffref01_mul.calls k a1 a2 t127 _ A13.out).mono ?_); rintro e w14 ⟨rfl, hb⟩; refine ⟨_, rfl, ?_⟩; have n0_ := Aside0.mk (below_step (by repeat (first | (with_reducible first | exact HB.out | apply below_alloc | apply pw_below_drewN | apply below_drew1) | exact HB.out)) hb); clear HB; have HB := n0_; clear n0_; (try clear hb); (try clear hb2); (try clear hk); (try clear hi)))
        go_ret2
        exact ⟨by first | rfl | (simp [errW_none, errW_some] <;> rfl) | (simp [*, errW_none, errW_some] <;> rfl), by repeat (first | (with_reducible first | exact HB.out | apply below_alloc | apply pw_below_drewN | apply below_drew1) | exact HB.out)⟩
      · rw [if_neg c12] at H
        have c12b0 : (a0 == 6) = false := beq_eq_false_iff_ne.mpr c12
        have c12b1 : (a0 != 6) = true := bne_iff_ne.mpr c12
        have HC15 := Aside0.mk H
        clear H
        go_enter Try.func11, Try.ntmps11
        go_upto_if 32 with (fail)
        go_cut [32] (fun v32 wc => ∃ (kq : Nat) (x32_14 : Bool), v32 = .bool x32_14 ∧ Aside0 (distaffref01_Do.j0 kq a0 a1 a2 (wrap64 (Int.tmod (IntKind.u64.wrap (a2)) 64)) a0 x32_14 = some (r1, r2)) ∧ Aside0 (kq ≤ k) ∧ Aside0 (Below w.heap.size w wc))
        case first =>
          have H := HC15.out
          clear HC15
          by_cases c16 : a0 = 7
          · rw [if_pos c16] at H
            have c16b0 : (a0 == 7) = true := beq_iff_eq.mpr c16
            have c16b1 : (a0 != 7) = false := bne_eq_false_iff_eq.mpr c16
            clear c16
            (first | rw [c16b0] | (simp only [i64_w, i32_w]; rw [c16b0]) | skip)
            have H' := Aside0.mk H
            clear H
            go_wp2
            go_meet
            case rel => exact ⟨_, ((a0 == 7)), (by first | rfl | (simp; done) | (simp [*]; done)), H', ⟨by first | omega | exact Nat.le_refl _⟩, ⟨by repeat (first | (with_reducible first | exact HB.out | apply below_alloc | apply pw_below_drewN | apply below_drew1) | exact HB.out)⟩⟩
          · rw [if_neg c16] at H
            have c16b0 : (a0 == 7) = false := beq_eq_false_iff_ne.mpr c16
            have c16b1 : (a0 != 7) = true := bne_iff_ne.mpr c16
            (first | rw [c16b0] | (simp only [i64_w, i32_w]; rw [c16b0]) | skip)
            have H' := Aside0.mk H
            clear H
            go_wp2
            go_meet
            case rel => exact ⟨_, ((a0 == 8)), (by first | rfl | (simp; done) | (simp [*]; done)), H', ⟨by first | omega | exact Nat.le_refl _⟩, ⟨by repeat (first | (with_reducible first | exact HB.out | apply below_alloc | apply pw_below_drewN | apply below_drew1) | exact HB.out)⟩⟩
        case rest =>
          clear HC15
          try clear c1
          try clear c2
          try clear p2
          try clear c3
          try clear c4
          try clear c4b0
          try clear c4b1
          try clear p6
          try clear c7
          try clear c7b0
          try clear c7b1
          try clear c11
          try clear c12
          try clear c12b0
          try clear c12b1
          try clear c16
          try clear c16b0
          try clear c16b1
          obtain ⟨kq, x32_14, rfl, HA, HJ14, HB⟩ := hcut
          cases kq with
          | zero => exact absurd HA.out (by simp [distaffref01_Do.j0])
          | succ kj14 =>
            have H := HA.out
            clear HA
            simp only [distaffref01_Do.j0] at H
            by_cases c17 : x32_14 = true
            · subst c17
              have H1 : (if a2 = 0 then (some (0, false)) else ((distaffref01_Div.f kj14 a1 a2).bind fun bt128 => (if a0 = 7 then (some (bt128.1, true)) else (some (bt128.2, true))))) = some (r1, r2) := by rw [if_pos rfl] at H; exact H
              clear H
              have H := H1
              clear H1
              by_cases c18 : a2 = 0
              · rw [if_pos c18] at H
                have c18b0 : (a2 == 0) = true := beq_iff_eq.mpr c18
                have c18b1 : (a2 != 0) = false := bne_eq_false_iff_eq.mpr c18
                clear c18
                simp only [Option.some.injEq, Prod.mk.injEq] at H
                obtain ⟨rfl, rfl⟩ := H
                go_wp2
                go_ret2
                exact ⟨by first | rfl | (simp [errW_none, errW_some] <;> rfl) | (simp [*, errW_none, errW_some] <;> rfl), by repeat (first | (with_reducible first | exact HB.out | apply below_alloc | apply pw_below_drewN | apply below_drew1) | exact HB.out)⟩
              · rw [if_neg c18] at H
                have c18b0 : (a2 == 0) = false := beq_eq_false_iff_ne.mpr c18
                have c18b1 : (a2 != 0) = true := bne_iff_ne.mpr c18
                replace H := Option.bind_eq_some_iff.mp H
                obtain ⟨⟨t128, t129⟩, A190, H⟩ := H
                replace H : (if a0 = 7 then (some (t128, true)) else (some (t129, true))) = some (r1, r2) := H
                have A19 := Aside0.mk A190
                clear A190
                by_cases c20 : a0 = 7
                · rw [if_pos c20] at H
                  have c20b0 : (a0 == 7) = true := beq_iff_eq.mpr c20
                  have c20b1 : (a0 != 7) = false := bne_eq_false_iff_eq.mpr c20
                  clear c20
                  simp only [Option.some.injEq, Prod.mk.injEq] at H
                  obtain ⟨rfl, rfl⟩ := H
                  go_wp2_with (first | ((with_reducible refine gate_callee (f := 24) rfl ?_); refine goesL_ (some 40) rfl rfl Try.func24 (by kernel_rfl) rfl #[.int .i64 a1, .int .i64 a2] rfl (by (try simp only [List.map_toArray, List.map_cons, List.map_nil]); first | done | rfl | (simp only [List.length_drop, List.length_take]; rfl)) ?_; (with_reducible refine (distaffref01_Div.calls kj14 a1 a2 t128 t129 _ A19.out).mono ?_); rintro e w21 ⟨rfl, hb⟩; refine ⟨_, rfl, ?_⟩; have n0_ := Aside0.mk (below_step (by repeat (first | (with_reducible first | exact HB.out | apply below_alloc | apply pw_below_drewN | apply below_drew1) | exact HB.out)) hb); clear HB; have HB := n0_; clear n0_; (try clear hb); (try clear hb2); (try clear hk); (try clear hi)))
                  go_ret2
                  exact ⟨by first | rfl | (simp [errW_none, errW_some] <;> rfl) | (simp [*, errW_none, errW_some] <;> rfl), by repeat (first | (with_reducible first | exact HB.out | apply below_alloc | apply pw_below_drewN | apply below_drew1) | exact HB.out)⟩
                · rw [if_neg c20] at H
                  have c20b0 : (a0 == 7) = false := beq_eq_false_iff_ne.mpr c20
                  have c20b1 : (a0 != 7) = true := bne_iff_ne.mpr c20
                  simp only [Option.some.injEq, Prod.mk.injEq] at H
                  obtain ⟨rfl, rfl⟩ := H
                  go_wp2_with (first | ((with_reducible refine gate_callee (f := 24) rfl ?_); refine goesL_ (some 40) rfl rfl Try.func24 (by kernel_rfl) rfl #[.int .i64 a1, .int .i64 a2] rfl (by (try simp only [List.map_toArray, List.map_cons, List.map_nil]); first | done | rfl | (simp only [List.length_drop, List.length_take]; rfl)) ?_; (with_reducible refine (distaffref01_Div.calls kj14 a1 a2 t128 t129 _ A19.out).mono ?_); rintro e w22 ⟨rfl, hb⟩; refine ⟨_, rfl, ?_⟩; have n0_ := Aside0.mk (below_step (by repeat (first | (with_reducible first | exact HB.out | apply below_alloc | apply pw_below_drewN | apply below_drew1) | exact HB.out)) hb); clear HB; have HB := n0_; clear n0_; (try clear hb); (try clear hb2); (try clear hk); (try clear hi)))
                  go_ret2
                  exact ⟨by first | rfl | (simp [errW_none, errW_some] <;> rfl) | (simp [*, errW_none, errW_some] <;> rfl), by repeat (first | (with_reducible first | exact HB.out | apply below_alloc | apply pw_below_drewN | apply below_drew1) | exact HB.out)⟩
            · replace c17 := Bool.eq_false_iff.mpr c17
              subst c17
              have H1 : (if a0 = 9 then (distaffref01_Do.j1 kj14 a0 a1 a2 (wrap64 (Int.tmod (IntKind.u64.wrap (a2)) 64)) a0 (a0 == 9)) else (if a0 = 10 then (distaffref01_Do.j1 kj14 a0 a1 a2 (wrap64 (Int.tmod (IntKind.u64.wrap (a2)) 64)) a0 (a0 == 10)) else (distaffref01_Do.j1 kj14 a0 a1 a2 (wrap64 (Int.tmod (IntKind.u64.wrap (a2)) 64)) a0 (a0 == 11)))) = some (r1, r2) := by rw [if_neg (show ¬ (false = true) by decide)] at H; exact H
              clear H
              have H := H1
              clear H1
              have HC23 := Aside0.mk H
              clear H
              go_upto_if 47 with (fail)
              go_cut [47] (fun v47 wc => ∃ (kq : Nat) (x47_22 : Bool), v47 = .bool x47_22 ∧ Aside0 (distaffref01_Do.j1 kq a0 a1 a2 (wrap64 (Int.tmod (IntKind.u64.wrap (a2)) 64)) a0 x47_22 = some (r1, r2)) ∧ Aside0 (kq ≤ kj14) ∧ Aside0 (Below w.heap.size w wc))
              case first =>
                have H := HC23.out
                clear HC23
                by_cases c24 : a0 = 9
                · rw [if_pos c24] at H
                  have c24b0 : (a0 == 9) = true := beq_iff_eq.mpr c24
                  have c24b1 : (a0 != 9) = false := bne_eq_false_iff_eq.mpr c24
                  clear c24
                  (first | rw [c24b0] | (simp only [i64_w, i32_w]; rw [c24b0]) | skip)
                  have H' := Aside0.mk H
                  clear H
                  go_wp2
                  go_meet
                  case rel => exact ⟨_, ((a0 == 9)), (by first | rfl | (simp; done) | (simp [*]; done)), H', ⟨by have := HJ14.out; first | omega | exact Nat.le_refl _⟩, ⟨by repeat (first | (with_reducible first | exact HB.out | apply below_alloc | apply pw_below_drewN | apply below_drew1) | exact HB.out)⟩⟩
                · rw [if_neg c24] at H
                  have c24b0 : (a0 == 9) = false := beq_eq_false_iff_ne.mpr c24
                  have c24b1 : (a0 != 9) = true := bne_iff_ne.mpr c24
                  (first | rw [c24b0] | (simp only [i64_w, i32_w]; rw [c24b0]) | skip)
                  by_cases c25 : a0 = 10
                  · rw [if_pos c25] at H
                    have c25b0 : (a0 == 10) = true := beq_iff_eq.mpr c25
                    have c25b1 : (a0 != 10) = false := bne_eq_false_iff_eq.mpr c25
                    clear c25
                    have H' := Aside0.mk H
                    clear H
                    go_wp2
                    go_meet
                    case rel => exact ⟨_, ((a0 == 10)), (by first | rfl | (simp; done) | (simp [*]; done)), H', ⟨by have := HJ14.out; first | omega | exact Nat.le_refl _⟩, ⟨by repeat (first | (with_reducible first | exact HB.out | apply below_alloc | apply pw_below_drewN | apply below_drew1) | exact HB.out)⟩⟩
                  · rw [if_neg c25] at H
                    have c25b0 : (a0 == 10) = false := beq_eq_false_iff_ne.mpr c25
                    have c25b1 : (a0 != 10) = true := bne_iff_ne.mpr c25
                    have H' := Aside0.mk H
                    clear H
                    go_wp2
                    go_meet
                    case rel => exact ⟨_, ((a0 == 11)), (by first | rfl | (simp; done) | (simp [*]; done)), H', ⟨by have := HJ14.out; first | omega | exact Nat.le_refl _⟩, ⟨by repeat (first | (with_reducible first | exact HB.out | apply below_alloc | apply pw_below_drewN | apply below_drew1) | exact HB.out)⟩⟩
              case rest =>
                clear HC23
                try clear c1
                try clear c2
                try clear p2
                try clear c3
                try clear c4
                try clear c4b0
                try clear c4b1
                try clear p6
                try clear c7
                try clear c7b0
                try clear c7b1
                try clear c11
                try clear c12
                try clear c12b0
                try clear c12b1
                try clear c16
                try clear c16b0
                try clear c16b1
                try clear c17
                try clear c18
                try clear c18b0
                try clear c18b1
                try clear c20
                try clear c20b0
                try clear c20b1
                try clear c24
                try clear c24b0
                try clear c24b1
                try clear c25
                try clear c25b0
                try clear c25b1
                try clear p2
                try clear p6
                obtain ⟨kq, x47_22, rfl, HA, HJ22, HB⟩ := hcut
                cases kq with
                | zero => exact absurd HA.out (by simp [distaffref01_Do.j1])
                | succ kj22 =>
                  have H := HA.out
                  clear HA
                  simp only [distaffref01_Do.j1] at H
                  by_cases c26 : x47_22 = true
                  · subst c26
                    have H1 : ((distaffref01_logic.f a0 a1 a2).bind fun t130 => (some (t130, true))) = some (r1, r2) := by rw [if_pos rfl] at H; exact H
                    clear H
                    have H := H1
                    clear H1
                    replace H := Option.bind_eq_some_iff.mp H
                    obtain ⟨t130, A270, H⟩ := H
                    replace H : (some (t130, true)) = some (r1, r2) := H
                    have A27 := Aside0.mk A270
                    clear A270
                    simp only [Option.some.injEq, Prod.mk.injEq] at H
                    obtain ⟨rfl, rfl⟩ := H
                    go_wp2_with (first | ((with_reducible refine gate_callee (f := 33) rfl ?_); refine goesL_ (some 54) rfl rfl Try.func33 (by kernel_rfl) rfl #[.int .i64 a0, .int .i64 a1, .int .i64 a2] rfl (by (try simp only [List.map_toArray, List.map_cons, List.map_nil]); first | done | rfl | (simp only [List.length_drop, List.length_take]; rfl)) ?_; (with_reducible refine (distaffref01_logic.calls a0 a1 a2 t130 _ A27.out).mono ?_); rintro e w28 ⟨rfl, hb⟩; refine ⟨_, rfl, ?_⟩; have n0_ := Aside0.mk (below_step (by repeat (first | (with_reducible first | exact HB.out | apply below_alloc | apply pw_below_drewN | apply below_drew1) | exact HB.out)) hb); clear HB; have HB := n0_; clear n0_; (try clear hb); (try clear hb2); (try clear hk); (try clear hi)))
                    go_ret2
                    exact ⟨by first | rfl | (simp [errW_none, errW_some] <;> rfl) | (simp [*, errW_none, errW_some] <;> rfl), by repeat (first | (with_reducible first | exact HB.out | apply below_alloc | apply pw_below_drewN | apply below_drew1) | exact HB.out)⟩
                  · replace c26 := Bool.eq_false_iff.mpr c26
                    subst c26
                    have H1 : (if a0 = 12 then ((distaffref01_shift.f a1 (wrap64 (Int.tmod (IntKind.u64.wrap (a2)) 64)) true 0).bind fun t131 => (some (t131, true))) else (if a0 = 13 then ((distaffref01_bit.f a1 63).bind fun t132 => ((distaffref01_shift.f a1 (wrap64 (Int.tmod (IntKind.u64.wrap (a2)) 64)) false t132).bind fun t133 => (some (t133, true)))) else (if a0 = 14 then ((distaffref01_shift.f a1 (wrap64 (Int.tmod (IntKind.u64.wrap (a2)) 64)) false 0).bind fun t134 => (some (t134, true))) else (if a0 = 17 then ((distaffref01_under.f kj22 a1 a2).bind fun t135 => (if t135 = true then ((distaffref01_one.f false).bind fun t136 => (some (t136, true))) else ((distaffref01_under.f kj22 a2 a1).bind fun t137 => ((distaffref01_one.f (!t137)).bind fun t138 => (some (t138, true)))))) else (if a0 = 18 then ((distaffref01_under.f kj22 a1 a2).bind fun t139 => (if t139 = true then ((distaffref01_one.f true).bind fun t140 => (some (t140, true))) else ((distaffref01_under.f kj22 a2 a1).bind fun t141 => ((distaffref01_one.f t141).bind fun t142 => (some (t142, true)))))) else (if a0 = 19 then ((distaffref01_below.f kj22 a1 a2).bind fun t143 => ((distaffref01_one.f t143).bind fun t144 => (some (t144, true)))) else (if a0 = 20 then ((distaffref01_below.f kj22 a2 a1).bind fun t145 => ((distaffref01_one.f (!t145)).bind fun t146 => (some (t146, true)))) else (if a0 = 21 then ((distaffref01_below.f kj22 a2 a1).bind fun t147 => ((distaffref01_one.f t147).bind fun t148 => (some (t148, true)))) else (if a0 = 22 then ((distaffref01_below.f kj22 a1 a2).bind fun t149 => ((distaffref01_one.f (!t149)).bind fun t150 => (some (t150, true)))) else (if a0 = 23 then ((distaffref01_under.f kj22 a1 a2).bind fun t151 => ((distaffref01_one.f t151).bind fun t152 => (some (t152, true)))) else (some (0, false)))))))))))) = some (r1, r2) := by rw [if_neg (show ¬ (false = true) by decide)] at H; exact H
                    clear H
                    have H := H1
                    clear H1
                    by_cases c29 : a0 = 12
                    · rw [if_pos c29] at H
                      have c29b0 : (a0 == 12) = true := beq_iff_eq.mpr c29
                      have c29b1 : (a0 != 12) = false := bne_eq_false_iff_eq.mpr c29
                      clear c29
                      replace H := Option.bind_eq_some_iff.mp H
                      obtain ⟨t131, A300, H⟩ := H
                      replace H : (some (t131, true)) = some (r1, r2) := H
                      have A30 := Aside0.mk A300
                      clear A300
                      simp only [Option.some.injEq, Prod.mk.injEq] at H
                      obtain ⟨rfl, rfl⟩ := H
                      go_wp2_with (first | ((with_reducible refine gate_callee (f := 34) rfl ?_); refine goesL_ (some 59) rfl rfl Try.func34 (by kernel_rfl) rfl #[.int .i64 a1, .int .i64 (wrap64 (Int.tmod (IntKind.u64.wrap (a2)) 64)), .bool true, .int .i64 0] rfl (by (try simp only [List.map_toArray, List.map_cons, List.map_nil]); first | done | rfl | (simp only [List.length_drop, List.length_take]; rfl)) ?_; (with_reducible refine (distaffref01_shift.calls a1 (wrap64 (Int.tmod (IntKind.u64.wrap (a2)) 64)) true 0 t131 _ A30.out).mono ?_); rintro e w31 ⟨rfl, hb⟩; refine ⟨_, rfl, ?_⟩; have n0_ := Aside0.mk (below_step (by repeat (first | (with_reducible first | exact HB.out | apply below_alloc | apply pw_below_drewN | apply below_drew1) | exact HB.out)) hb); clear HB; have HB := n0_; clear n0_; (try clear hb); (try clear hb2); (try clear hk); (try clear hi)))
                      go_ret2
                      exact ⟨by first | rfl | (simp [errW_none, errW_some] <;> rfl) | (simp [*, errW_none, errW_some] <;> rfl), by repeat (first | (with_reducible first | exact HB.out | apply below_alloc | apply pw_below_drewN | apply below_drew1) | exact HB.out)⟩
                    · rw [if_neg c29] at H
                      have c29b0 : (a0 == 12) = false := beq_eq_false_iff_ne.mpr c29
                      have c29b1 : (a0 != 12) = true := bne_iff_ne.mpr c29
                      by_cases c32 : a0 = 13
                      · rw [if_pos c32] at H
                        have c32b0 : (a0 == 13) = true := beq_iff_eq.mpr c32
                        have c32b1 : (a0 != 13) = false := bne_eq_false_iff_eq.mpr c32
                        clear c32
                        replace H := Option.bind_eq_some_iff.mp H
                        obtain ⟨t132, A330, H⟩ := H
                        replace H : ((distaffref01_shift.f a1 (wrap64 (Int.tmod (IntKind.u64.wrap (a2)) 64)) false t132).bind fun t133 => (some (t133, true))) = some (r1, r2) := H
                        have A33 := Aside0.mk A330
                        clear A330
                        replace H := Option.bind_eq_some_iff.mp H
                        obtain ⟨t133, A340, H⟩ := H
                        replace H : (some (t133, true)) = some (r1, r2) := H
                        have A34 := Aside0.mk A340
                        clear A340
                        simp only [Option.some.injEq, Prod.mk.injEq] at H
                        obtain ⟨rfl, rfl⟩ := H
                        go_wp2_with (first | ((with_reducible refine gate_callee (f := 35) rfl ?_); refine goesL_ (some 65) rfl rfl Try.func35 (by kernel_rfl) rfl #[.int .i64 a1, .int .i64 63] rfl (by (try simp only [List.map_toArray, List.map_cons, List.map_nil]); first | done | rfl | (simp only [List.length_drop, List.length_take]; rfl)) ?_; (with_reducible refine (distaffref01_bit.calls a1 63 t132 _ A33.out).mono ?_); rintro e w' ⟨rfl, ⟨nd, rfl⟩⟩; refine ⟨_, rfl, ?_⟩) | ((with_reducible refine gate_callee (f := 34) rfl ?_); refine goesL_ (some 66) rfl rfl Try.func34 (by kernel_rfl) rfl #[.int .i64 a1, .int .i64 (wrap64 (Int.tmod (IntKind.u64.wrap (a2)) 64)), .bool false, .int .i64 t132] rfl (by (try simp only [List.map_toArray, List.map_cons, List.map_nil]); first | done | rfl | (simp only [List.length_drop, List.length_take]; rfl)) ?_; (with_reducible refine (distaffref01_shift.calls a1 (wrap64 (Int.tmod (IntKind.u64.wrap (a2)) 64)) false t132 t133 _ A34.out).mono ?_); rintro e w35 ⟨rfl, hb⟩; refine ⟨_, rfl, ?_⟩; have n0_ := Aside0.mk (below_step (by repeat (first | (with_reducible first | exact HB.out | apply below_alloc | apply pw_below_drewN | apply below_drew1) | exact HB.out)) hb); clear HB; have HB := n0_; clear n0_; (try clear hb); (try clear hb2); (try clear hk); (try clear hi)))
                        go_ret2
                        exact ⟨by first | rfl | (simp [errW_none, errW_some] <;> rfl) | (simp [*, errW_none, errW_some] <;> rfl), by repeat (first | (with_reducible first | exact HB.out | apply below_alloc | apply pw_below_drewN | apply below_drew1) | exact HB.out)⟩
                      · rw [if_neg c32] at H
                        have c32b0 : (a0 == 13) = false := beq_eq_false_iff_ne.mpr c32
                        have c32b1 : (a0 != 13) = true := bne_iff_ne.mpr c32
                        by_cases c36 : a0 = 14
                        · rw [if_pos c36] at H
                          have c36b0 : (a0 == 14) = true := beq_iff_eq.mpr c36
                          have c36b1 : (a0 != 14) = false := bne_eq_false_iff_eq.mpr c36
                          clear c36
                          replace H := Option.bind_eq_some_iff.mp H
                          obtain ⟨t134, A370, H⟩ := H
                          replace H : (some (t134, true)) = some (r1, r2) := H
                          have A37 := Aside0.mk A370
                          clear A370
                          simp only [Option.some.injEq, Prod.mk.injEq] at H
                          obtain ⟨rfl, rfl⟩ := H
                          go_wp2_with (first | ((with_reducible refine gate_callee (f := 34) rfl ?_); refine goesL_ (some 71) rfl rfl Try.func34 (by kernel_rfl) rfl #[.int .i64 a1, .int .i64 (wrap64 (Int.tmod (IntKind.u64.wrap (a2)) 64)), .bool false, .int .i64 0] rfl (by (try simp only [List.map_toArray, List.map_cons, List.map_nil]); first | done | rfl | (simp only [List.length_drop, List.length_take]; rfl)) ?_; (with_reducible refine (distaffref01_shift.calls a1 (wrap64 (Int.tmod (IntKind.u64.wrap (a2)) 64)) false 0 t134 _ A37.out).mono ?_); rintro e w38 ⟨rfl, hb⟩; refine ⟨_, rfl, ?_⟩; have n0_ := Aside0.mk (below_step (by repeat (first | (with_reducible first | exact HB.out | apply below_alloc | apply pw_below_drewN | apply below_drew1) | exact HB.out)) hb); clear HB; have HB := n0_; clear n0_; (try clear hb); (try clear hb2); (try clear hk); (try clear hi)))
                          go_ret2
                          exact ⟨by first | rfl | (simp [errW_none, errW_some] <;> rfl) | (simp [*, errW_none, errW_some] <;> rfl), by repeat (first | (with_reducible first | exact HB.out | apply below_alloc | apply pw_below_drewN | apply below_drew1) | exact HB.out)⟩
                        · rw [if_neg c36] at H
                          have c36b0 : (a0 == 14) = false := beq_eq_false_iff_ne.mpr c36
                          have c36b1 : (a0 != 14) = true := bne_iff_ne.mpr c36
                          by_cases c39 : a0 = 17
                          · rw [if_pos c39] at H
                            have c39b0 : (a0 == 17) = true := beq_iff_eq.mpr c39
                            have c39b1 : (a0 != 17) = false := bne_eq_false_iff_eq.mpr c39
                            clear c39
                            replace H := Option.bind_eq_some_iff.mp H
                            obtain ⟨t135, A400, H⟩ := H
                            replace H : (if t135 = true then ((distaffref01_one.f false).bind fun t136 => (some (t136, true))) else ((distaffref01_under.f kj22 a2 a1).bind fun t137 => ((distaffref01_one.f (!t137)).bind fun t138 => (some (t138, true))))) = some (r1, r2) := H
                            have A40 := Aside0.mk A400
                            clear A400
                            by_cases c41 : t135 = true
                            · subst c41
                              have H1 : ((distaffref01_one.f false).bind fun t136 => (some (t136, true))) = some (r1, r2) := by rw [if_pos rfl] at H; exact H
                              clear H
                              have H := H1
                              clear H1
                              replace H := Option.bind_eq_some_iff.mp H
                              obtain ⟨t136, A420, H⟩ := H
                              replace H : (some (t136, true)) = some (r1, r2) := H
                              have A42 := Aside0.mk A420
                              clear A420
                              simp only [Option.some.injEq, Prod.mk.injEq] at H
                              obtain ⟨rfl, rfl⟩ := H
                              go_wp2_with (first | ((with_reducible refine gate_callee (f := 37) rfl ?_); refine goesL_ (some 76) rfl rfl Try.func37 (by kernel_rfl) rfl #[.int .i64 a1, .int .i64 a2] rfl (by (try simp only [List.map_toArray, List.map_cons, List.map_nil]); first | done | rfl | (simp only [List.length_drop, List.length_take]; rfl)) ?_; (with_reducible refine (distaffref01_under.calls kj22 a1 a2 true _ A40.out).mono ?_); rintro e w' ⟨rfl, ⟨nd, rfl⟩⟩; refine ⟨_, rfl, ?_⟩) | ((with_reducible refine gate_callee (f := 36) rfl ?_); refine goesL_ (some 84) rfl rfl Try.func36 (by kernel_rfl) rfl #[.bool false] rfl (by (try simp only [List.map_toArray, List.map_cons, List.map_nil]); first | done | rfl | (simp only [List.length_drop, List.length_take]; rfl)) ?_; (with_reducible refine (distaffref01_one.calls false t136 _ A42.out).mono ?_); rintro e w' ⟨rfl, ⟨nd, rfl⟩⟩; refine ⟨_, rfl, ?_⟩))
                              go_ret2
                              exact ⟨by first | rfl | (simp [errW_none, errW_some] <;> rfl) | (simp [*, errW_none, errW_some] <;> rfl), by repeat (first | (with_reducible first | exact HB.out | apply below_alloc | apply pw_below_drewN | apply below_drew1) | exact HB.out)⟩
                            · replace c41 := Bool.eq_false_iff.mpr c41
                              subst c41
                              have H1 : ((distaffref01_under.f kj22 a2 a1).bind fun t137 => ((distaffref01_one.f (!t137)).bind fun t138 => (some (t138, true)))) = some (r1, r2) := by rw [if_neg (show ¬ (false = true) by decide)] at H; exact H
                              clear H
                              have H := H1
                              clear H1
                              replace H := Option.bind_eq_some_iff.mp H
                              obtain ⟨t137, A430, H⟩ := H
                              replace H : ((distaffref01_one.f (!t137)).bind fun t138 => (some (t138, true))) = some (r1, r2) := H
                              have A43 := Aside0.mk A430
                              clear A430
                              replace H := Option.bind_eq_some_iff.mp H
                              obtain ⟨t138, A440, H⟩ := H
                              replace H : (some (t138, true)) = some (r1, r2) := H
                              have A44 := Aside0.mk A440
                              clear A440
                              simp only [Option.some.injEq, Prod.mk.injEq] at H
                              obtain ⟨rfl, rfl⟩ := H
                              go_wp2_with (first | ((with_reducible refine gate_callee (f := 37) rfl ?_); refine goesL_ (some 76) rfl rfl Try.func37 (by kernel_rfl) rfl #[.int .i64 a1, .int .i64 a2] rfl (by (try simp only [List.map_toArray, List.map_cons, List.map_nil]); first | done | rfl | (simp only [List.length_drop, List.length_take]; rfl)) ?_; (with_reducible refine (distaffref01_under.calls kj22 a1 a2 false _ A40.out).mono ?_); rintro e w' ⟨rfl, ⟨nd, rfl⟩⟩; refine ⟨_, rfl, ?_⟩) | (go_at_call 37; (with_reducible refine (distaffref01_under.calls kj22 a2 a1 t137 _ A43.out).mono ?_); rintro e w' ⟨rfl, ⟨nd, rfl⟩⟩) | ((with_reducible refine gate_callee (f := 36) rfl ?_); refine goesL_ (some 84) rfl rfl Try.func36 (by kernel_rfl) rfl #[.bool (!t137)] rfl (by (try simp only [List.map_toArray, List.map_cons, List.map_nil]); first | done | rfl | (simp only [List.length_drop, List.length_take]; rfl)) ?_; (with_reducible refine (distaffref01_one.calls (!t137) t138 _ A44.out).mono ?_); rintro e w' ⟨rfl, ⟨nd, rfl⟩⟩; refine ⟨_, rfl, ?_⟩))
                              go_ret2
                              exact ⟨by first | rfl | (simp [errW_none, errW_some] <;> rfl) | (simp [*, errW_none, errW_some] <;> rfl), by repeat (first | (with_reducible first | exact HB.out | apply below_alloc | apply pw_below_drewN | apply below_drew1) | exact HB.out)⟩
                          · rw [if_neg c39] at H
                            have c39b0 : (a0 == 17) = false := beq_eq_false_iff_ne.mpr c39
                            have c39b1 : (a0 != 17) = true := bne_iff_ne.mpr c39
                            by_cases c45 : a0 = 18
                            · rw [if_pos c45] at H
                              have c45b0 : (a0 == 18) = true := beq_iff_eq.mpr c45
                              have c45b1 : (a0 != 18) = false := bne_eq_false_iff_eq.mpr c45
                              clear c45
                              replace H := Option.bind_eq_some_iff.mp H
                              obtain ⟨t139, A460, H⟩ := H
                              replace H : (if t139 = true then ((distaffref01_one.f true).bind fun t140 => (some (t140, true))) else ((distaffref01_under.f kj22 a2 a1).bind fun t141 => ((distaffref01_one.f t141).bind fun t142 => (some (t142, true))))) = some (r1, r2) := H
                              have A46 := Aside0.mk A460
                              clear A460
                              by_cases c47 : t139 = true
                              · subst c47
                                have H1 : ((distaffref01_one.f true).bind fun t140 => (some (t140, true))) = some (r1, r2) := by rw [if_pos rfl] at H; exact H
                                clear H
                                have H := H1
                                clear H1
                                replace H := Option.bind_eq_some_iff.mp H
                                obtain ⟨t140, A480, H⟩ := H
                                replace H : (some (t140, true)) = some (r1, r2) := H
                                have A48 := Aside0.mk A480
                                clear A480
                                simp only [Option.some.injEq, Prod.mk.injEq] at H
                                obtain ⟨rfl, rfl⟩ := H
                                go_wp2_with (first | ((with_reducible refine gate_callee (f := 37) rfl ?_); refine goesL_ (some 89) rfl rfl Try.func37 (by kernel_rfl) rfl #[.int .i64 a1, .int .i64 a2] rfl (by (try simp only [List.map_toArray, List.map_cons, List.map_nil]); first | done | rfl | (simp only [List.length_drop, List.length_take]; rfl)) ?_; (with_reducible refine (distaffref01_under.calls kj22 a1 a2 true _ A46.out).mono ?_); rintro e w' ⟨rfl, ⟨nd, rfl⟩⟩; refine ⟨_, rfl, ?_⟩) | ((with_reducible refine gate_callee (f := 36) rfl ?_); refine goesL_ (some 95) rfl rfl Try.func36 (by kernel_rfl) rfl #[.bool true] rfl (by (try simp only [List.map_toArray, List.map_cons, List.map_nil]); first | done | rfl | (simp only [List.length_drop, List.length_take]; rfl)) ?_; (with_reducible refine (distaffref01_one.calls true t140 _ A48.out).mono ?_); rintro e w' ⟨rfl, ⟨nd, rfl⟩⟩; refine ⟨_, rfl, ?_⟩))
                                go_ret2
                                exact ⟨by first | rfl | (simp [errW_none, errW_some] <;> rfl) | (simp [*, errW_none, errW_some] <;> rfl), by repeat (first | (with_reducible first | exact HB.out | apply below_alloc | apply pw_below_drewN | apply below_drew1) | exact HB.out)⟩
                              · replace c47 := Bool.eq_false_iff.mpr c47
                                subst c47
                                have H1 : ((distaffref01_under.f kj22 a2 a1).bind fun t141 => ((distaffref01_one.f t141).bind fun t142 => (some (t142, true)))) = some (r1, r2) := by rw [if_neg (show ¬ (false = true) by decide)] at H; exact H
                                clear H
                                have H := H1
                                clear H1
                                replace H := Option.bind_eq_some_iff.mp H
                                obtain ⟨t141, A490, H⟩ := H
                                replace H : ((distaffref01_one.f t141).bind fun t142 => (some (t142, true))) = some (r1, r2) := H
                                have A49 := Aside0.mk A490
                                clear A490
                                replace H := Option.bind_eq_some_iff.mp H
                                obtain ⟨t142, A500, H⟩ := H
                                replace H : (some (t142, true)) = some (r1, r2) := H
                                have A50 := Aside0.mk A500
                                clear A500
                                simp only [Option.some.injEq, Prod.mk.injEq] at H
                                obtain ⟨rfl, rfl⟩ := H
                                go_wp2_with (first | ((with_reducible refine gate_callee (f := 37) rfl ?_); refine goesL_ (some 89) rfl rfl Try.func37 (by kernel_rfl) rfl #[.int .i64 a1, .int .i64 a2] rfl (by (try simp only [List.map_toArray, List.map_cons, List.map_nil]); first | done | rfl | (simp only [List.length_drop, List.length_take]; rfl)) ?_; (with_reducible refine (distaffref01_under.calls kj22 a1 a2 false _ A46.out).mono ?_); rintro e w' ⟨rfl, ⟨nd, rfl⟩⟩; refine ⟨_, rfl, ?_⟩) | (go_at_call 37; (with_reducible refine (distaffref01_under.calls kj22 a2 a1 t141 _ A49.out).mono ?_); rintro e w' ⟨rfl, ⟨nd, rfl⟩⟩) | ((with_reducible refine gate_callee (f := 36) rfl ?_); refine goesL_ (some 95) rfl rfl Try.func36 (by kernel_rfl) rfl #[.bool t141] rfl (by (try simp only [List.map_toArray, List.map_cons, List.map_nil]); first | done | rfl | (simp only [List.length_drop, List.length_take]; rfl)) ?_; (with_reducible refine (distaffref01_one.calls t141 t142 _ A50.out).mono ?_); rintro e w' ⟨rfl, ⟨nd, rfl⟩⟩; refine ⟨_, rfl, ?_⟩))
                                go_ret2
                                exact ⟨by first | rfl | (simp [errW_none, errW_some] <;> rfl) | (simp [*, errW_none, errW_some] <;> rfl), by repeat (first | (with_reducible first | exact HB.out | apply below_alloc | apply pw_below_drewN | apply below_drew1) | exact HB.out)⟩
                            · rw [if_neg c45] at H
                              have c45b0 : (a0 == 18) = false := beq_eq_false_iff_ne.mpr c45
                              have c45b1 : (a0 != 18) = true := bne_iff_ne.mpr c45
                              by_cases c51 : a0 = 19
                              · rw [if_pos c51] at H
                                have c51b0 : (a0 == 19) = true := beq_iff_eq.mpr c51
                                have c51b1 : (a0 != 19) = false := bne_eq_false_iff_eq.mpr c51
                                clear c51
                                replace H := Option.bind_eq_some_iff.mp H
                                obtain ⟨t143, A520, H⟩ := H
                                replace H : ((distaffref01_one.f t143).bind fun t144 => (some (t144, true))) = some (r1, r2) := H
                                have A52 := Aside0.mk A520
                                clear A520
                                replace H := Option.bind_eq_some_iff.mp H
                                obtain ⟨t144, A530, H⟩ := H
                                replace H : (some (t144, true)) = some (r1, r2) := H
                                have A53 := Aside0.mk A530
                                clear A530
                                simp only [Option.some.injEq, Prod.mk.injEq] at H
                                obtain ⟨rfl, rfl⟩ := H
                                go_wp2_with (first | ((with_reducible refine gate_callee (f := 38) rfl ?_); refine goesL_ (some 100) rfl rfl Try.func38 (by kernel_rfl) rfl #[.int .i64 a1, .int .i64 a2] rfl (by (try simp only [List.map_toArray, List.map_cons, List.map_nil]); first | done | rfl | (simp only [List.length_drop, List.length_take]; rfl)) ?_; (with_reducible refine (distaffref01_below.calls kj22 a1 a2 t143 _ A52.out).mono ?_); rintro e w' ⟨rfl, ⟨nd, rfl⟩⟩; refine ⟨_, rfl, ?_⟩) | ((with_reducible refine gate_callee (f := 36) rfl ?_); refine goesL_ (some 101) rfl rfl Try.func36 (by kernel_rfl) rfl #[.bool t143] rfl (by (try simp only [List.map_toArray, List.map_cons, List.map_nil]); first | done | rfl | (simp only [List.length_drop, List.length_take]; rfl)) ?_; (with_reducible refine (distaffref01_one.calls t143 t144 _ A53.out).mono ?_); rintro e w' ⟨rfl, ⟨nd, rfl⟩⟩; refine ⟨_, rfl, ?_⟩))
                                go_ret2
                                exact ⟨by first | rfl | (simp [errW_none, errW_some] <;> rfl) | (simp [*, errW_none, errW_some] <;> rfl), by repeat (first | (with_reducible first | exact HB.out | apply below_alloc | apply pw_below_drewN | apply below_drew1) | exact HB.out)⟩
                              · rw [if_neg c51] at H
                                have c51b0 : (a0 == 19) = false := beq_eq_false_iff_ne.mpr c51
                                have c51b1 : (a0 != 19) = true := bne_iff_ne.mpr c51
                                by_cases c54 : a0 = 20
                                · rw [if_pos c54] at H
                                  have c54b0 : (a0 == 20) = true := beq_iff_eq.mpr c54
                                  have c54b1 : (a0 != 20) = false := bne_eq_false_iff_eq.mpr c54
                                  clear c54
                                  replace H := Option.bind_eq_some_iff.mp H
                                  obtain ⟨t145, A550, H⟩ := H
                                  replace H : ((distaffref01_one.f (!t145)).bind fun t146 => (some (t146, true))) = some (r1, r2) := H
                                  have A55 := Aside0.mk A550
                                  clear A550
                                  replace H := Option.bind_eq_some_iff.mp H
                                  obtain ⟨t146, A560, H⟩ := H
                                  replace H : (some (t146, true)) = some (r1, r2) := H
                                  have A56 := Aside0.mk A560
                                  clear A560
                                  simp only [Option.some.injEq, Prod.mk.injEq] at H
                                  obtain ⟨rfl, rfl⟩ := H
                                  go_wp2_with (first | ((with_reducible refine gate_callee (f := 38) rfl ?_); refine goesL_ (some 106) rfl rfl Try.func38 (by kernel_rfl) rfl #[.int .i64 a2, .int .i64 a1] rfl (by (try simp only [List.map_toArray, List.map_cons, List.map_nil]); first | done | rfl | (simp only [List.length_drop, List.length_take]; rfl)) ?_; (with_reducible refine (distaffref01_below.calls kj22 a2 a1 t145 _ A55.out).mono ?_); rintro e w' ⟨rfl, ⟨nd, rfl⟩⟩; refine ⟨_, rfl, ?_⟩) | ((with_reducible refine gate_callee (f := 36) rfl ?_); refine goesL_ (some 108) rfl rfl Try.func36 (by kernel_rfl) rfl #[.bool (!t145)] rfl (by (try simp only [List.map_toArray, List.map_cons, List.map_nil]); first | done | rfl | (simp only [List.length_drop, List.length_take]; rfl)) ?_; (with_reducible refine (distaffref01_one.calls (!t145) t146 _ A56.out).mono ?_); rintro e w' ⟨rfl, ⟨nd, rfl⟩⟩; refine ⟨_, rfl, ?_⟩))
                                  go_ret2
                                  exact ⟨by first | rfl | (simp [errW_none, errW_some] <;> rfl) | (simp [*, errW_none, errW_some] <;> rfl), by repeat (first | (with_reducible first | exact HB.out | apply below_alloc | apply pw_below_drewN | apply below_drew1) | exact HB.out)⟩
                                · rw [if_neg c54] at H
                                  have c54b0 : (a0 == 20) = false := beq_eq_false_iff_ne.mpr c54
                                  have c54b1 : (a0 != 20) = true := bne_iff_ne.mpr c54
                                  by_cases c57 : a0 = 21
                                  · rw [if_pos c57] at H
                                    have c57b0 : (a0 == 21) = true := beq_iff_eq.mpr c57
                                    have c57b1 : (a0 != 21) = false := bne_eq_false_iff_eq.mpr c57
                                    clear c57
                                    replace H := Option.bind_eq_some_iff.mp H
                                    obtain ⟨t147, A580, H⟩ := H
                                    replace H : ((distaffref01_one.f t147).bind fun t148 => (some (t148, true))) = some (r1, r2) := H
                                    have A58 := Aside0.mk A580
                                    clear A580
                                    replace H := Option.bind_eq_some_iff.mp H
                                    obtain ⟨t148, A590, H⟩ := H
                                    replace H : (some (t148, true)) = some (r1, r2) := H
                                    have A59 := Aside0.mk A590
                                    clear A590
                                    simp only [Option.some.injEq, Prod.mk.injEq] at H
                                    obtain ⟨rfl, rfl⟩ := H
                                    go_wp2_with (first | ((with_reducible refine gate_callee (f := 38) rfl ?_); refine goesL_ (some 113) rfl rfl Try.func38 (by kernel_rfl) rfl #[.int .i64 a2, .int .i64 a1] rfl (by (try simp only [List.map_toArray, List.map_cons, List.map_nil]); first | done | rfl | (simp only [List.length_drop, List.length_take]; rfl)) ?_; (with_reducible refine (distaffref01_below.calls kj22 a2 a1 t147 _ A58.out).mono ?_); rintro e w' ⟨rfl, ⟨nd, rfl⟩⟩; refine ⟨_, rfl, ?_⟩) | ((with_reducible refine gate_callee (f := 36) rfl ?_); refine goesL_ (some 114) rfl rfl Try.func36 (by kernel_rfl) rfl #[.bool t147] rfl (by (try simp only [List.map_toArray, List.map_cons, List.map_nil]); first | done | rfl | (simp only [List.length_drop, List.length_take]; rfl)) ?_; (with_reducible refine (distaffref01_one.calls t147 t148 _ A59.out).mono ?_); rintro e w' ⟨rfl, ⟨nd, rfl⟩⟩; refine ⟨_, rfl, ?_⟩))
                                    go_ret2
                                    exact ⟨by first | rfl | (simp [errW_none, errW_some] <;> rfl) | (simp [*, errW_none, errW_some] <;> rfl), by repeat (first | (with_reducible first | exact HB.out | apply below_alloc | apply pw_below_drewN | apply below_drew1) | exact HB.out)⟩
                                  · rw [if_neg c57] at H
                                    have c57b0 : (a0 == 21) = false := beq_eq_false_iff_ne.mpr c57
                                    have c57b1 : (a0 != 21) = true := bne_iff_ne.mpr c57
                                    by_cases c60 : a0 = 22
                                    · rw [if_pos c60] at H
                                      have c60b0 : (a0 == 22) = true := beq_iff_eq.mpr c60
                                      have c60b1 : (a0 != 22) = false := bne_eq_false_iff_eq.mpr c60
                                      clear c60
                                      replace H := Option.bind_eq_some_iff.mp H
                                      obtain ⟨t149, A610, H⟩ := H
                                      replace H : ((distaffref01_one.f (!t149)).bind fun t150 => (some (t150, true))) = some (r1, r2) := H
                                      have A61 := Aside0.mk A610
                                      clear A610
                                      replace H := Option.bind_eq_some_iff.mp H
                                      obtain ⟨t150, A620, H⟩ := H
                                      replace H : (some (t150, true)) = some (r1, r2) := H
                                      have A62 := Aside0.mk A620
                                      clear A620
                                      simp only [Option.some.injEq, Prod.mk.injEq] at H
                                      obtain ⟨rfl, rfl⟩ := H
                                      go_wp2_with (first | ((with_reducible refine gate_callee (f := 38) rfl ?_); refine goesL_ (some 119) rfl rfl Try.func38 (by kernel_rfl) rfl #[.int .i64 a1, .int .i64 a2] rfl (by (try simp only [List.map_toArray, List.map_cons, List.map_nil]); first | done | rfl | (simp only [List.length_drop, List.length_take]; rfl)) ?_; (with_reducible refine (distaffref01_below.calls kj22 a1 a2 t149 _ A61.out).mono ?_); rintro e w' ⟨rfl, ⟨nd, rfl⟩⟩; refine ⟨_, rfl, ?_⟩) | ((with_reducible refine gate_callee (f := 36) rfl ?_); refine goesL_ (some 121) rfl rfl Try.func36 (by kernel_rfl) rfl #[.bool (!t149)] rfl (by (try simp only [List.map_toArray, List.map_cons, List.map_nil]); first | done | rfl | (simp only [List.length_drop, List.length_take]; rfl)) ?_; (with_reducible refine (distaffref01_one.calls (!t149) t150 _ A62.out).mono ?_); rintro e w' ⟨rfl, ⟨nd, rfl⟩⟩; refine ⟨_, rfl, ?_⟩))
                                      go_ret2
                                      exact ⟨by first | rfl | (simp [errW_none, errW_some] <;> rfl) | (simp [*, errW_none, errW_some] <;> rfl), by repeat (first | (with_reducible first | exact HB.out | apply below_alloc | apply pw_below_drewN | apply below_drew1) | exact HB.out)⟩
                                    · rw [if_neg c60] at H
                                      have c60b0 : (a0 == 22) = false := beq_eq_false_iff_ne.mpr c60
                                      have c60b1 : (a0 != 22) = true := bne_iff_ne.mpr c60
                                      by_cases c63 : a0 = 23
                                      · rw [if_pos c63] at H
                                        have c63b0 : (a0 == 23) = true := beq_iff_eq.mpr c63
                                        have c63b1 : (a0 != 23) = false := bne_eq_false_iff_eq.mpr c63
                                        clear c63
                                        replace H := Option.bind_eq_some_iff.mp H
                                        obtain ⟨t151, A640, H⟩ := H
                                        replace H : ((distaffref01_one.f t151).bind fun t152 => (some (t152, true))) = some (r1, r2) := H
                                        have A64 := Aside0.mk A640
                                        clear A640
                                        replace H := Option.bind_eq_some_iff.mp H
                                        obtain ⟨t152, A650, H⟩ := H
                                        replace H : (some (t152, true)) = some (r1, r2) := H
                                        have A65 := Aside0.mk A650
                                        clear A650
                                        simp only [Option.some.injEq, Prod.mk.injEq] at H
                                        obtain ⟨rfl, rfl⟩ := H
                                        go_wp2_with (first | ((with_reducible refine gate_callee (f := 37) rfl ?_); refine goesL_ (some 126) rfl rfl Try.func37 (by kernel_rfl) rfl #[.int .i64 a1, .int .i64 a2] rfl (by (try simp only [List.map_toArray, List.map_cons, List.map_nil]); first | done | rfl | (simp only [List.length_drop, List.length_take]; rfl)) ?_; (with_reducible refine (distaffref01_under.calls kj22 a1 a2 t151 _ A64.out).mono ?_); rintro e w' ⟨rfl, ⟨nd, rfl⟩⟩; refine ⟨_, rfl, ?_⟩) | ((with_reducible refine gate_callee (f := 36) rfl ?_); refine goesL_ (some 127) rfl rfl Try.func36 (by kernel_rfl) rfl #[.bool t151] rfl (by (try simp only [List.map_toArray, List.map_cons, List.map_nil]); first | done | rfl | (simp only [List.length_drop, List.length_take]; rfl)) ?_; (with_reducible refine (distaffref01_one.calls t151 t152 _ A65.out).mono ?_); rintro e w' ⟨rfl, ⟨nd, rfl⟩⟩; refine ⟨_, rfl, ?_⟩))
                                        go_ret2
                                        exact ⟨by first | rfl | (simp [errW_none, errW_some] <;> rfl) | (simp [*, errW_none, errW_some] <;> rfl), by repeat (first | (with_reducible first | exact HB.out | apply below_alloc | apply pw_below_drewN | apply below_drew1) | exact HB.out)⟩
                                      · rw [if_neg c63] at H
                                        have c63b0 : (a0 == 23) = false := beq_eq_false_iff_ne.mpr c63
                                        have c63b1 : (a0 != 23) = true := bne_iff_ne.mpr c63
                                        simp only [Option.some.injEq, Prod.mk.injEq] at H
                                        obtain ⟨rfl, rfl⟩ := H
                                        go_wp2
                                        go_ret2
                                        exact ⟨by first | rfl | (simp [errW_none, errW_some] <;> rfl) | (simp [*, errW_none, errW_some] <;> rfl), by repeat (first | (with_reducible first | exact HB.out | apply below_alloc | apply pw_below_drewN | apply below_drew1) | exact HB.out)⟩

/-! ### arith_Binary: function 17 -/
def arith_Binary.f (a0 : Int) : Option (Bool) := if a0 ≥ 4 then (if a0 ≤ 14 then (some true) else (if a0 ≥ 17 then (some (decide (a0 ≤ 23))) else (some false))) else (if a0 ≥ 17 then (some (decide (a0 ≤ 23))) else (some false))
set_option maxHeartbeats 8000000 in
set_option maxRecDepth 100000 in
theorem arith_Binary.calls (a0 : Int) (r : Bool) (w : World) (h : arith_Binary.f a0 = some r) :
    Calls Try.prog 17 #[.int .i64 a0] w fun e w' => e = .returned (.bool r) ∧ Drawn0 w w' := by
  have H : (if a0 ≥ 4 then (if a0 ≤ 14 then (some true) else (if a0 ≥ 17 then (some (decide (a0 ≤ 23))) else (some false))) else (if a0 ≥ 17 then (some (decide (a0 ≤ 23))) else (some false))) = some r := h
  clear h
  by_cases c2 : a0 ≥ 4
  · rw [if_pos c2] at H
    have c2b0 : decide (4 ≤ a0) = true := decide_eq_true c2
    clear c2
    by_cases c3 : a0 ≤ 14
    · rw [if_pos c3] at H
      have c3b0 : decide (a0 ≤ 14) = true := decide_eq_true c3
      clear c3
      obtain rfl := Option.some.inj H
      go_enter Try.func17, Try.ntmps17
      go_wp2
      go_ret
      exact ⟨by first | rfl | (simp; done) | (simp [*]; done), by repeat (first | exact Drawn0.refl _ | apply Drawn0.step)⟩
    · rw [if_neg c3] at H
      have c3b0 : decide (a0 ≤ 14) = false := decide_eq_false c3
      clear c3
      by_cases c4 : a0 ≥ 17
      · rw [if_pos c4] at H
        have c4b0 : decide (17 ≤ a0) = true := decide_eq_true c4
        clear c4
        obtain rfl := Option.some.inj H
        go_enter Try.func17, Try.ntmps17
        go_wp2
        go_ret
        exact ⟨by first | rfl | (simp; done) | (simp [*]; done), by repeat (first | exact Drawn0.refl _ | apply Drawn0.step)⟩
      · rw [if_neg c4] at H
        have c4b0 : decide (17 ≤ a0) = false := decide_eq_false c4
        clear c4
        obtain rfl := Option.some.inj H
        go_enter Try.func17, Try.ntmps17
        go_wp2
        go_ret
        exact ⟨by first | rfl | (simp; done) | (simp [*]; done), by repeat (first | exact Drawn0.refl _ | apply Drawn0.step)⟩
  · rw [if_neg c2] at H
    have c2b0 : decide (4 ≤ a0) = false := decide_eq_false c2
    clear c2
    by_cases c5 : a0 ≥ 17
    · rw [if_pos c5] at H
      have c5b0 : decide (17 ≤ a0) = true := decide_eq_true c5
      clear c5
      obtain rfl := Option.some.inj H
      go_enter Try.func17, Try.ntmps17
      go_wp2
      go_ret
      exact ⟨by first | rfl | (simp; done) | (simp [*]; done), by repeat (first | exact Drawn0.refl _ | apply Drawn0.step)⟩
    · rw [if_neg c5] at H
      have c5b0 : decide (17 ≤ a0) = false := decide_eq_false c5
      clear c5
      obtain rfl := Option.some.inj H
      go_enter Try.func17, Try.ntmps17
      go_wp2
      go_ret
      exact ⟨by first | rfl | (simp; done) | (simp [*]; done), by repeat (first | exact Drawn0.refl _ | apply Drawn0.step)⟩

end Go.Proofs.Ytoojmpcpbnlkaaa.PArithTurns
