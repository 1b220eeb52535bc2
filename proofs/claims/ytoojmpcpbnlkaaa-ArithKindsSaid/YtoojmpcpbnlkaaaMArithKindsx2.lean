/- Contracts of the Go functions that the statement ArithKinds reaches, and its row: what each answers, as a Lean function, and that the Go code answers just so. No further condition. -/
import Derived.Test.YtoojmpcpbnlkaaaMArithKindsx0
import Derived.Test.YtoojmpcpbnlkaaaMArithKindsx1
namespace Go.Proofs.Ytoojmpcpbnlkaaa.PArithKinds
open Go.RowKit Go.Proofs.YtoojmpcpbnlkaaaW.PrintWords Go.Proofs.YtoojmpcpbnlkaaaW.PrintLast Go.Proofs.YtoojmpcpbnlkaaaW.PrintMore
attribute [local go_sem] max2_int min2_int max_two min_two max_three min_three max_four min_four   -- for this text's walks alone
set_option linter.unusedVariables false
set_option linter.unusedSimpArgs false

/-! ### divide: function 43 (by hand) -/
def distaffref01_divide.f (a0 : Int) (a1 : Int) : Option (Int × Int) := if a1 % 18446744073709551616 = 0 then none else some (wrap64 (a0 % 18446744073709551616 / (a1 % 18446744073709551616)), wrap64 (a0 % 18446744073709551616 % (a1 % 18446744073709551616)))
open Go.Proofs.Ytoojmpcpbnlkaaa.Arr in
theorem distaffref01_divide.bit (a : Int) (i : Nat) (h : i < 64) : distaffref01_bit.f a (i : Int) = some (bitOf a i) := by
  unfold distaffref01_bit.f
  rw [bit_expr a i h, if_pos (by rw [u64]; omega)]
open Go.Proofs.Ytoojmpcpbnlkaaa.Arr in
theorem distaffref01_divide.under_l (a b : Int) (j : Nat) : ∀ k, j < k → j ≤ 64 → distaffref01_under.l0 k a b ((j : Int) - 1) = some (decide (a % 2 ^ j < b % 2 ^ j)) := by
  induction j with
  | zero =>
    intro k hk _
    obtain ⟨k, rfl⟩ : ∃ m, k = m + 1 := ⟨k - 1, by omega⟩
    simp only [distaffref01_under.l0]
    rw [if_neg (by omega), mod_zero, mod_zero]; rfl
  | succ j ih =>
    intro k hk hj
    obtain ⟨k, rfl⟩ : ∃ m, k = m + 1 := ⟨k - 1, by omega⟩
    simp only [distaffref01_under.l0]
    rw [show ((j + 1 : Nat) : Int) - 1 = (j : Int) by omega, if_pos (by omega), distaffref01_divide.bit a j (by omega), distaffref01_divide.bit b j (by omega)]
    simp only [Option.bind_some]
    have hc := cmp_step a b j
    by_cases c : bitOf a j = bitOf b j
    · rw [if_pos c, show wrap64 ((j : Int) - 1) = (j : Int) - 1 by unfold wrap64; omega, ih k (by omega) (by omega)]
      rw [if_pos c] at hc
      exact congrArg some (by rw [Bool.eq_iff_iff, decide_eq_true_iff, decide_eq_true_iff, hc])
    · rw [if_neg c]
      rw [if_neg c] at hc
      exact congrArg some (by rw [Bool.eq_iff_iff, decide_eq_true_iff, hc, beq_iff_eq])
theorem distaffref01_divide.under (a b : Int) (k : Nat) (hk : 64 < k) : distaffref01_under.f k a b = some (decide (a % 18446744073709551616 < b % 18446744073709551616)) := by
  have := distaffref01_divide.under_l a b 64 k hk (by omega)
  exact this
theorem distaffref01_divide.neg (a : Int) : distaffref01_Neg.f a = some (wrap64 (-a)) := by
  unfold distaffref01_Neg.f distaffref01_Not.f distaffref01_Add.f
  simp only [Option.bind_some]
  refine congrArg some ?_
  unfold wrap64; omega
theorem distaffref01_divide.mod_wrap (a : Int) : wrap64 a % 18446744073709551616 = a % 18446744073709551616 := by
  unfold wrap64; omega
open Go.Proofs.Ytoojmpcpbnlkaaa.Arr in
set_option maxRecDepth 100000 in
set_option maxHeartbeats 2000000 in
theorem distaffref01_divide.calls (a0 : Int) (a1 : Int) (r1 : Int) (r2 : Int) (w : World) (h : distaffref01_divide.f a0 a1 = some (r1, r2)) :
    Calls Try.prog 43 #[.int .i64 a0, .int .i64 a1] w fun e w' => e = .returned (.tuple #[.int .i64 r1, .int .i64 r2]) ∧ Below w.heap.size w w' := by
  unfold distaffref01_divide.f at h
  by_cases hz : a1 % 18446744073709551616 = 0
  · rw [if_pos hz] at h; cases h
  · rw [if_neg hz] at h
    have h' := Option.some.inj h
    clear h
    obtain ⟨A, hA⟩ : ∃ A, A = a0 % 18446744073709551616 := ⟨_, rfl⟩
    obtain ⟨B, hB⟩ : ∃ B, B = a1 % 18446744073709551616 := ⟨_, rfl⟩
    rw [← hA, ← hB] at h'
    have hB0 : 0 < B := by omega
    have hB1 : B < 18446744073709551616 := by omega
    obtain ⟨f, hf⟩ : ∃ f : Nat → Int, f = fun i => bitOf (A / B) i := ⟨_, rfl⟩
    have hq : wrap64 (hi (mkd f 0)) = r1 := by
      rw [mkd_all, hf, num_eq _ (A / B) (fun j _ => rfl)]
      exact (Prod.mk.inj h').1
    have hr : wrap64 (A / 2 ^ 0 % B) = r2 := by
      rw [Int.pow_zero, Int.ediv_one]; exact (Prod.mk.inj h').2
    clear h'
    have hA64 : A / 2 ^ 64 % B = 0 := by
      rw [show (2 : Int) ^ 64 = 18446744073709551616 from rfl, Int.ediv_eq_zero_of_lt (by omega) (by omega), Int.zero_emod]
    have HQ := Lib.hid hq
    have HRR := Lib.hid hr
    have HF := Lib.hid hf
    have HA := Lib.hid hA
    have HBB := Lib.hid hB
    have HB0 := Lib.hid hB0
    have HB1 := Lib.hid hB1
    have H64 := Lib.hid hA64
    clear hf hq hr hA hB hB0 hB1 hz hA64
    go_enter Try.func43, Try.ntmps43
    go_wp2_with (first | (refine wpList_buildTo rfl 49 #[] rfl (some 10) rfl zeros (by kernel_rfl) ?_) | (refine wpList_store_rowTo rfl 49 (.tmp 6) (.tmp 10) rfl rfl w.heap.size zeros rfl rfl 49 _ (blk_new w _) (by kernel_rfl) rfl (by kernel_rfl) ?_))
    rw [World.setRow_alloc_new]
    go_loopw [7, 8] (fun rr i wr => ∃ j : Nat, j ≤ 64 ∧ i = .int .i64 ((j : Int) - 1) ∧ rr = .int .i64 (wrap64 (A / 2 ^ j % B)) ∧ wr.heap[w.heap.size]? = some (.cells (cellsOf (mkd f j)) 49 (0, 0)) ∧ Below w.heap.size w wr) (fun _ i _ => (intOf i + 1).toNat)
    case atStart => exact ⟨64, by omega, rfl, by rw [H64.out, show wrap64 0 = 0 by unfold wrap64; rfl], by rw [← zeros_eqd]; exact blk_new w _, (Below.refl _ _).alloc (Nat.le_refl _) _⟩
    case round =>
      obtain ⟨j, hj, rfl, rfl, hblk, hbel⟩ := hrel
      have HB := Lib.hid hblk
      clear hblk
      rcases j with _ | m
      · have hnum := distaffref01_number.calls (mkd f 0) (mkd_len _ _)
        have HN := Lib.hid hnum
        clear hnum
        obtain ⟨rr, hrr⟩ : ∃ rr, rr = wrap64 (A / 2 ^ 0 % B) := ⟨_, rfl⟩
        rw [← hrr]
        have HRQ := Lib.hid hrr
        clear hrr
        go_wp2_with (first | (with_reducible refine wpList_load_row rfl 49 _ rfl w.heap.size rfl 49 _ (0, 0) _ HB.out Try.underlying49 rfl ?hi ?_) | ((go_at_call 45); refine (HN.out _).mono ?_; rintro e w2 ⟨rfl, hb2⟩))
        case hi => rw [cells_size, mkd_len]; kernel_rfl
        go_ret2
        exact ⟨by rw [HQ.out, HRQ.out, HRR.out]; first | done | rfl, below_then hbel hbel.size hb2⟩
      · have e1 : ((m + 1 : Nat) : Int) - 1 = (m : Int) := by omega
        rw [e1]
        clear e1
        have hm : m < 64 := by omega
        obtain ⟨R, hR⟩ : ∃ R, R = A / 2 ^ (m + 1) % B := ⟨_, rfl⟩
        obtain ⟨t, ht⟩ : ∃ t, t = bitOf A m := ⟨_, rfl⟩
        obtain ⟨d1, d2⟩ := div_step A B m HB0.out
        have t01 := bit_01 A m
        have hb0 := HB0.out
        have hb1 := HB1.out
        have R0 : 0 ≤ R := by rw [hR]; exact Int.emod_nonneg _ (by omega)
        have R1 : R < B := by rw [hR]; exact Int.emod_lt_of_pos _ hb0
        rw [← hR, ← ht] at d1 d2
        rw [← ht] at t01
        obtain ⟨r, hr⟩ : ∃ r, r = wrap64 R := ⟨_, rfl⟩
        have hbt : distaffref01_bit.f a0 (m : Int) = some t := by
          rw [distaffref01_divide.bit a0 m hm, ht, HA.out, bit_mod a0 m hm]
        have hhigh : distaffref01_bit.f r 63 = some (if 9223372036854775808 ≤ R then 1 else 0) := by
          rw [show (63 : Int) = ((63 : Nat) : Int) from rfl, distaffref01_divide.bit r 63 (by decide), hr, high_bit R R0 (by omega)]
        obtain ⟨r2, hr2⟩ : ∃ r2, distaffref01_Add.f r r = some r2 ∧ r2 = wrap64 (2 * R) := ⟨wrap64 (r + r), rfl, by rw [hr]; unfold wrap64; omega⟩
        obtain ⟨r3, hr3⟩ : ∃ r3, distaffref01_Add.f r2 t = some r3 ∧ r3 = wrap64 (2 * R + t) := ⟨wrap64 (r2 + t), rfl, by rw [hr2.2]; unfold wrap64; omega⟩
        obtain ⟨nb, hnb⟩ : ∃ nb, distaffref01_Neg.f a1 = some nb ∧ nb = wrap64 (-a1) := ⟨_, distaffref01_divide.neg a1, rfl⟩
        obtain ⟨r4, hr4⟩ : ∃ r4, distaffref01_Add.f r3 nb = some r4 ∧ r4 = wrap64 (2 * R + t - B) := ⟨wrap64 (r3 + nb), rfl, by rw [hr3.2, hnb.2, HBB.out]; unfold wrap64; omega⟩
        have hun : distaffref01_under.f 100 r3 a1 = some (decide ((2 * R + t) % 18446744073709551616 < B)) := by
          rw [distaffref01_divide.under _ _ _ (by decide), hr3.2, distaffref01_divide.mod_wrap, ← HBB.out]
        rw [← hR, ← hr]
        have F1 := Lib.hid hhigh
        have F2 := Lib.hid hr2.1
        have F3 := Lib.hid hbt
        have F4 := Lib.hid hr3.1
        have F5 := Lib.hid hun
        have F6 := Lib.hid hnb.1
        have F7 := Lib.hid hr4.1
        have E3 := Lib.hid hr3.2
        have E4 := Lib.hid hr4.2
        have D1 := Lib.hid d1
        have D2 := Lib.hid d2
        have T := Lib.hid t01
        have Rb := Lib.hid (And.intro R0 (And.intro R1 hb1))
        clear hhigh hr2 hbt hr3 hun hnb hr4 d1 d2 t01 R0 R1 hb0 hb1 hR ht hr
        have bt : m ≤ 63 := by omega
        by_cases c : B ≤ 2 * R + t
        · -- it goes in once more
          have HV := Lib.hid (show f m = 1 by rw [HF.out]; exact D2.out.trans (if_pos c))
          have HW := Lib.hid (show wrap64 (A / 2 ^ m % B) = r4 by rw [D1.out, if_pos c, E4.out])
          by_cases c2 : 9223372036854775808 ≤ R
          · have G1 := Lib.hid (F1.out.trans (by rw [if_pos c2]))
            clear F1 c c2
            go_wp2_with fail
            refine (distaffref01_bit.calls r 63 1 _ G1.out).mono ?_; rintro e w2 ⟨rfl, ⟨nd, rfl⟩⟩
            go_wp2_with fail
            refine (distaffref01_Add.calls r r r2 _ F2.out).mono ?_; rintro e w3 ⟨rfl, h3⟩
            go_wp2_with fail
            refine (distaffref01_bit.calls a0 m t _ F3.out).mono ?_; rintro e w4 ⟨rfl, ⟨nd4, rfl⟩⟩
            go_wp2_with fail
            refine (distaffref01_Add.calls r2 t r3 _ F4.out).mono ?_; rintro e w5 ⟨rfl, h5⟩
            go_wp2_with fail
            refine (distaffref01_Neg.calls a1 nb _ F6.out).mono ?_; rintro e w6 ⟨rfl, h6⟩
            go_wp2_with fail
            refine (distaffref01_Add.calls r3 nb r4 _ F7.out).mono ?_; rintro e w7 ⟨rfl, h7⟩
            have K3 := blk_below (blk_drewN HB.out nd) h3
            have K5 := blk_below (blk_drewN K3 nd4) h5
            have K6 := blk_below K5 h6
            have K7 := blk_below K6 h7
            have HBel := Lib.hid (below_step (below_step (below_step (pw_below_drewN (below_step (pw_below_drewN hbel nd) h3) nd4) h5) h6) h7)
            obtain ⟨v, hcell⟩ : ∃ v, w7.cell? ⟨w.heap.size, m, none⟩ = some v := ⟨_, (blk_cell K7 m).trans (cells_at _ m (by rw [mkd_len]; omega))⟩
            have hfz := blk_frozen K7 m
            have HK := Lib.hid K7
            clear K3 K5 K6 K7 h3 h5 h6 h7
            go_wp2
            go_roundw
            case rel => exact ⟨m, by omega, rfl, by rw [HW.out], blk_put HK.out m _ (by rw [cells_set, ← HV.out, mkd_set]), below_set HBel.out (Nat.le_refl _)⟩
            case measure => simp [intOf]
          · have G1 := Lib.hid (F1.out.trans (by rw [if_neg c2]))
            have G5 : Hid (distaffref01_under.f 100 r3 a1 = some false) := Lib.hid (F5.out.trans (by
              have := Rb.out; have := T.out
              exact congrArg some (decide_eq_false (by omega))))
            clear F1 c c2
            go_wp2_with fail
            refine (distaffref01_bit.calls r 63 0 _ G1.out).mono ?_; rintro e w2 ⟨rfl, ⟨nd, rfl⟩⟩
            go_wp2_with fail
            refine (distaffref01_Add.calls r r r2 _ F2.out).mono ?_; rintro e w3 ⟨rfl, h3⟩
            go_wp2_with fail
            refine (distaffref01_bit.calls a0 m t _ F3.out).mono ?_; rintro e w4 ⟨rfl, ⟨nd4, rfl⟩⟩
            go_wp2_with fail
            refine (distaffref01_Add.calls r2 t r3 _ F4.out).mono ?_; rintro e w5 ⟨rfl, h5⟩
            go_wp2_with fail
            refine (distaffref01_under.calls 100 r3 a1 false _ G5.out).mono ?_; rintro e w5b ⟨rfl, ⟨nd5, rfl⟩⟩
            go_wp2_with fail
            refine (distaffref01_Neg.calls a1 nb _ F6.out).mono ?_; rintro e w6 ⟨rfl, h6⟩
            go_wp2_with fail
            refine (distaffref01_Add.calls r3 nb r4 _ F7.out).mono ?_; rintro e w7 ⟨rfl, h7⟩
            have K3 := blk_below (blk_drewN HB.out nd) h3
            have K5 := blk_below (blk_drewN K3 nd4) h5
            have K6 := blk_below (blk_drewN K5 nd5) h6
            have K7 := blk_below K6 h7
            have HBel := Lib.hid (below_step (below_step (pw_below_drewN (below_step (pw_below_drewN (below_step (pw_below_drewN hbel nd) h3) nd4) h5) nd5) h6) h7)
            obtain ⟨v, hcell⟩ : ∃ v, w7.cell? ⟨w.heap.size, m, none⟩ = some v := ⟨_, (blk_cell K7 m).trans (cells_at _ m (by rw [mkd_len]; omega))⟩
            have hfz := blk_frozen K7 m
            have HK := Lib.hid K7
            clear K3 K5 K6 K7 h3 h5 h6 h7
            go_wp2
            go_roundw
            case rel => exact ⟨m, by omega, rfl, by rw [HW.out], blk_put HK.out m _ (by rw [cells_set, ← HV.out, mkd_set]), below_set HBel.out (Nat.le_refl _)⟩
            case measure => simp [intOf]
        · have HV := Lib.hid (show f m = 0 by rw [HF.out]; exact D2.out.trans (if_neg c))
          have HW := Lib.hid (show wrap64 (A / 2 ^ m % B) = r3 by rw [D1.out, if_neg c, E3.out])
          have c2 : ¬ 9223372036854775808 ≤ R := by have := Rb.out; have := T.out; omega
          have G1 := Lib.hid (F1.out.trans (by rw [if_neg c2]))
          have G5 : Hid (distaffref01_under.f 100 r3 a1 = some true) := Lib.hid (F5.out.trans (by
            have := Rb.out; have := T.out
            exact congrArg some (decide_eq_true (by omega))))
          clear F1 c c2
          go_wp2_with fail
          refine (distaffref01_bit.calls r 63 0 _ G1.out).mono ?_; rintro e w2 ⟨rfl, ⟨nd, rfl⟩⟩
          go_wp2_with fail
          refine (distaffref01_Add.calls r r r2 _ F2.out).mono ?_; rintro e w3 ⟨rfl, h3⟩
          go_wp2_with fail
          refine (distaffref01_bit.calls a0 m t _ F3.out).mono ?_; rintro e w4 ⟨rfl, ⟨nd4, rfl⟩⟩
          go_wp2_with fail
          refine (distaffref01_Add.calls r2 t r3 _ F4.out).mono ?_; rintro e w5 ⟨rfl, h5⟩
          go_wp2_with fail
          refine (distaffref01_under.calls 100 r3 a1 true _ G5.out).mono ?_; rintro e w5b ⟨rfl, ⟨nd5, rfl⟩⟩
          have K3 := blk_below (blk_drewN HB.out nd) h3
          have K5 := blk_below (blk_drewN K3 nd4) h5
          have HK := Lib.hid (blk_drewN K5 nd5)
          have HBel := Lib.hid (pw_below_drewN (below_step (pw_below_drewN (below_step (pw_below_drewN hbel nd) h3) nd4) h5) nd5)
          clear K3 K5 h3 h5
          go_wp2
          go_roundw
          case rel => exact ⟨m, by omega, rfl, by rw [HW.out], by rw [← mkd_zero f m HV.out]; exact HK.out, HBel.out⟩
          case measure => simp [intOf]

/-! ### distaffref01_size: function 44 -/
def distaffref01_size.f (a0 : Int) : Option (Int) := (distaffref01_bit.f a0 63).bind fun t117 => (if t117 = 1 then ((distaffref01_Neg.f a0).bind fun t118 => (some t118)) else (some a0))
set_option maxHeartbeats 8000000 in
set_option maxRecDepth 100000 in
theorem distaffref01_size.calls (a0 : Int) (r : Int) (w : World) (h : distaffref01_size.f a0 = some r) :
    Calls Try.prog 44 #[.int .i64 a0] w fun e w' => e = .returned (.int .i64 r) ∧ Below w.heap.size w w' := by
  have HB := Aside0.mk (Below.refl w.heap.size w)
  have H : ((distaffref01_bit.f a0 63).bind fun t117 => (if t117 = 1 then ((distaffref01_Neg.f a0).bind fun t118 => (some t118)) else (some a0))) = some r := h
  clear h
  replace H := Option.bind_eq_some_iff.mp H
  obtain ⟨t117, A20, H⟩ := H
  replace H : (if t117 = 1 then ((distaffref01_Neg.f a0).bind fun t118 => (some t118)) else (some a0)) = some r := H
  have A2 := Aside0.mk A20
  clear A20
  by_cases c3 : t117 = 1
  · rw [if_pos c3] at H
    have c3b0 : (t117 == 1) = true := beq_iff_eq.mpr c3
    have c3b1 : (t117 != 1) = false := bne_eq_false_iff_eq.mpr c3
    clear c3
    replace H := Option.bind_eq_some_iff.mp H
    obtain ⟨t118, A40, H⟩ := H
    replace H : (some t118) = some r := H
    have A4 := Aside0.mk A40
    clear A40
    obtain rfl := Option.some.inj H
    go_enter Try.func44, Try.ntmps44
    go_wp2_with (first | ((with_reducible refine gate_callee (f := 35) rfl ?_); refine goesL_ (some 4) rfl rfl Try.func35 (by kernel_rfl) rfl #[.int .i64 a0, .int .i64 63] rfl (by (try simp only [List.map_toArray, List.map_cons, List.map_nil]); first | done | rfl | (simp only [List.length_drop, List.length_take]; rfl)) ?_; (with_reducible refine (distaffref01_bit.calls a0 63 t117 _ A2.out).mono ?_); rintro e w' ⟨rfl, ⟨nd, rfl⟩⟩; refine ⟨_, rfl, ?_⟩) | ((with_reducible refine gate_callee (f := 31) rfl ?_); refine goesL_ (some 7) rfl rfl Try.func31 (by kernel_rfl) rfl #[.int .i64 a0] rfl (by (try simp only [List.map_toArray, List.map_cons, List.map_nil]); first | done | rfl | (simp only [List.length_drop, List.length_take]; rfl)) ?_; (with_reducible refine (distaffref01_Neg.calls a0 t118 _ A4.out).mono ?_); rintro e w5 ⟨rfl, hb⟩; refine ⟨_, rfl, ?_⟩; have n0_ := Aside0.mk (below_step (by repeat (first | (with_reducible first | exact HB.out | apply below_alloc | apply pw_below_drewN | apply below_drew1) | exact HB.out)) hb); clear HB; have HB := n0_; clear n0_; (try clear hb); (try clear hb2); (try clear hk); (try clear hi)))
    go_ret
    exact ⟨by first | rfl | (simp [errW_none, errW_some] <;> rfl) | (simp [*, errW_none, errW_some] <;> rfl), by repeat (first | (with_reducible first | exact HB.out | apply below_alloc | apply pw_below_drewN | apply below_drew1) | exact HB.out)⟩
  · rw [if_neg c3] at H
    have c3b0 : (t117 == 1) = false := beq_eq_false_iff_ne.mpr c3
    have c3b1 : (t117 != 1) = true := bne_iff_ne.mpr c3
    obtain rfl := Option.some.inj H
    go_enter Try.func44, Try.ntmps44
    go_wp2_with (first | ((with_reducible refine gate_callee (f := 35) rfl ?_); refine goesL_ (some 4) rfl rfl Try.func35 (by kernel_rfl) rfl #[.int .i64 a0, .int .i64 63] rfl (by (try simp only [List.map_toArray, List.map_cons, List.map_nil]); first | done | rfl | (simp only [List.length_drop, List.length_take]; rfl)) ?_; (with_reducible refine (distaffref01_bit.calls a0 63 t117 _ A2.out).mono ?_); rintro e w' ⟨rfl, ⟨nd, rfl⟩⟩; refine ⟨_, rfl, ?_⟩))
    go_ret
    exact ⟨by first | rfl | (simp [errW_none, errW_some] <;> rfl) | (simp [*, errW_none, errW_some] <;> rfl), by repeat (first | (with_reducible first | exact HB.out | apply below_alloc | apply pw_below_drewN | apply below_drew1) | exact HB.out)⟩

/-! ### distaffref01_Div: function 24 -/
def distaffref01_Div.j0 : Nat → Int → Int → Int → Option (Int × Int)
  | 0, _, _, _ => none
  | k + 1, x0, x6, x7 => (distaffref01_bit.f x0 63).bind fun t126 => (if t126 = 1 then ((distaffref01_Neg.f x7).bind fun t127 => (some (x6, t127))) else (some (x6, x7)))
def distaffref01_Div.f (k : Nat) (a0 : Int) (a1 : Int) : Option (Int × Int) := (distaffref01_size.f a0).bind fun t119 => ((distaffref01_size.f a1).bind fun t120 => ((distaffref01_divide.f t119 t120).bind fun bt121 => ((distaffref01_bit.f a0 63).bind fun t123 => ((distaffref01_bit.f a1 63).bind fun t124 => (if t123 = t124 then (distaffref01_Div.j0 k a0 bt121.1 bt121.2) else ((distaffref01_Neg.f bt121.1).bind fun t125 => (distaffref01_Div.j0 k a0 t125 bt121.2)))))))
theorem distaffref01_Div.mono_l : ∀ k, (∀ y0 y1 y2, LeO (distaffref01_Div.j0 k y0 y1 y2) (distaffref01_Div.j0 (k + 1) y0 y1 y2))
  | 0 => fun _ _ _ r h => by simp [distaffref01_Div.j0] at h
  | k + 1 => by
    have ih0 := distaffref01_Div.mono_l k
    · intro y0 y1 y2
      unfold distaffref01_Div.j0
      repeat' first
      | (with_reducible exact ih0 _ _ _)
      | (with_reducible exact LeO.refl _)
      | (with_reducible exact LeO.none _)
      | (with_reducible refine LeO.ite ?_ ?_)
      | (with_reducible refine LeO.bind ?_ (fun _ => ?_))
      | exact ih0 _ _ _
      | exact LeO.none _
      | refine LeO.ite ?_ ?_
      | refine LeO.bind ?_ (fun _ => ?_)
theorem distaffref01_Div.mono : ∀ a0 a1 k, LeO (distaffref01_Div.f k a0 a1) (distaffref01_Div.f (k + 1) a0 a1) := by
  intro a0 a1 k
  have ih0 := distaffref01_Div.mono_l k
  unfold distaffref01_Div.f
  repeat' first
      | (with_reducible exact ih0 _ _ _)
      | (with_reducible exact LeO.refl _)
      | (with_reducible exact LeO.none _)
      | (with_reducible refine LeO.ite ?_ ?_)
      | (with_reducible refine LeO.bind ?_ (fun _ => ?_))
      | exact ih0 _ _ _
      | exact LeO.none _
      | refine LeO.ite ?_ ?_
      | refine LeO.bind ?_ (fun _ => ?_)
set_option maxHeartbeats 8000000 in
set_option maxRecDepth 100000 in
theorem distaffref01_Div.calls (k : Nat) (a0 : Int) (a1 : Int) (r1 : Int) (r2 : Int) (w : World) (h : distaffref01_Div.f k a0 a1 = some (r1, r2)) :
    Calls Try.prog 24 #[.int .i64 a0, .int .i64 a1] w fun e w' => e = .returned (.tuple #[.int .i64 r1, .int .i64 r2]) ∧ Below w.heap.size w w' := by
  have HB := Aside0.mk (Below.refl w.heap.size w)
  have H : ((distaffref01_size.f a0).bind fun t119 => ((distaffref01_size.f a1).bind fun t120 => ((distaffref01_divide.f t119 t120).bind fun bt121 => ((distaffref01_bit.f a0 63).bind fun t123 => ((distaffref01_bit.f a1 63).bind fun t124 => (if t123 = t124 then (distaffref01_Div.j0 k a0 bt121.1 bt121.2) else ((distaffref01_Neg.f bt121.1).bind fun t125 => (distaffref01_Div.j0 k a0 t125 bt121.2)))))))) = some (r1, r2) := h
  clear h
  replace H := Option.bind_eq_some_iff.mp H
  obtain ⟨t119, A30, H⟩ := H
  replace H : ((distaffref01_size.f a1).bind fun t120 => ((distaffref01_divide.f t119 t120).bind fun bt121 => ((distaffref01_bit.f a0 63).bind fun t123 => ((distaffref01_bit.f a1 63).bind fun t124 => (if t123 = t124 then (distaffref01_Div.j0 k a0 bt121.1 bt121.2) else ((distaffref01_Neg.f bt121.1).bind fun t125 => (distaffref01_Div.j0 k a0 t125 bt121.2))))))) = some (r1, r2) := H
  have A3 := Aside0.mk A30
  clear A30
  replace H := Option.bind_eq_some_iff.mp H
  obtain ⟨t120, A40, H⟩ := H
  replace H : ((distaffref01_divide.f t119 t120).bind fun bt121 => ((distaffref01_bit.f a0 63).bind fun t123 => ((distaffref01_bit.f a1 63).bind fun t124 => (if t123 = t124 then (distaffref01_Div.j0 k a0 bt121.1 bt121.2) else ((distaffref01_Neg.f bt121.1).bind fun t125 => (distaffref01_Div.j0 k a0 t125 bt121.2)))))) = some (r1, r2) := H
  have A4 := Aside0.mk A40
  clear A40
  replace H := Option.bind_eq_some_iff.mp H
  obtain ⟨⟨t121, t122⟩, A50, H⟩ := H
  replace H : ((distaffref01_bit.f a0 63).bind fun t123 => ((distaffref01_bit.f a1 63).bind fun t124 => (if t123 = t124 then (distaffref01_Div.j0 k a0 t121 t122) else ((distaffref01_Neg.f t121).bind fun t125 => (distaffref01_Div.j0 k a0 t125 t122))))) = some (r1, r2) := H
  have A5 := Aside0.mk A50
  clear A50
  replace H := Option.bind_eq_some_iff.mp H
  obtain ⟨t123, A60, H⟩ := H
  replace H : ((distaffref01_bit.f a1 63).bind fun t124 => (if t123 = t124 then (distaffref01_Div.j0 k a0 t121 t122) else ((distaffref01_Neg.f t121).bind fun t125 => (distaffref01_Div.j0 k a0 t125 t122)))) = some (r1, r2) := H
  have A6 := Aside0.mk A60
  clear A60
  replace H := Option.bind_eq_some_iff.mp H
  obtain ⟨t124, A70, H⟩ := H
  replace H : (if t123 = t124 then (distaffref01_Div.j0 k a0 t121 t122) else ((distaffref01_Neg.f t121).bind fun t125 => (distaffref01_Div.j0 k a0 t125 t122))) = some (r1, r2) := H
  have A7 := Aside0.mk A70
  clear A70
  have HC8 := Aside0.mk H
  clear H
  go_enter Try.func24, Try.ntmps24
  go_upto_if 20 with (first | ((with_reducible refine gate_callee (f := 44) rfl ?_); refine goesL_ (some 10) rfl rfl Try.func44 (by kernel_rfl) rfl #[.int .i64 a0] rfl (by (try simp only [List.map_toArray, List.map_cons, List.map_nil]); first | done | rfl | (simp only [List.length_drop, List.length_take]; rfl)) ?_; (with_reducible refine (distaffref01_size.calls a0 t119 _ A3.out).mono ?_); rintro e w9 ⟨rfl, hb⟩; refine ⟨_, rfl, ?_⟩; have n0_ := Aside0.mk (below_step (by repeat (first | (with_reducible first | exact HB.out | apply below_alloc | apply pw_below_drewN | apply below_drew1) | exact HB.out)) hb); clear HB; have HB := n0_; clear n0_; (try clear hb); (try clear hb2); (try clear hk); (try clear hi)) | ((with_reducible refine gate_callee (f := 44) rfl ?_); refine goesL_ (some 12) rfl rfl Try.func44 (by kernel_rfl) rfl #[.int .i64 a1] rfl (by (try simp only [List.map_toArray, List.map_cons, List.map_nil]); first | done | rfl | (simp only [List.length_drop, List.length_take]; rfl)) ?_; (with_reducible refine (distaffref01_size.calls a1 t120 _ A4.out).mono ?_); rintro e w10 ⟨rfl, hb⟩; refine ⟨_, rfl, ?_⟩; have n0_ := Aside0.mk (below_step (by repeat (first | (with_reducible first | exact HB.out | apply below_alloc | apply pw_below_drewN | apply below_drew1) | exact HB.out)) hb); clear HB; have HB := n0_; clear n0_; (try clear hb); (try clear hb2); (try clear hk); (try clear hi)) | ((with_reducible refine gate_callee (f := 43) rfl ?_); refine goesL_ (some 13) rfl rfl Try.func43 (by kernel_rfl) rfl #[.int .i64 t119, .int .i64 t120] rfl (by (try simp only [List.map_toArray, List.map_cons, List.map_nil]); first | done | rfl | (simp only [List.length_drop, List.length_take]; rfl)) ?_; (with_reducible refine (distaffref01_divide.calls t119 t120 t121 t122 _ A5.out).mono ?_); rintro e w11 ⟨rfl, hb⟩; refine ⟨_, rfl, ?_⟩; have n0_ := Aside0.mk (below_step (by repeat (first | (with_reducible first | exact HB.out | apply below_alloc | apply pw_below_drewN | apply below_drew1) | exact HB.out)) hb); clear HB; have HB := n0_; clear n0_; (try clear hb); (try clear hb2); (try clear hk); (try clear hi)) | ((with_reducible refine gate_callee (f := 35) rfl ?_); refine goesL_ (some 17) rfl rfl Try.func35 (by kernel_rfl) rfl #[.int .i64 a0, .int .i64 63] rfl (by (try simp only [List.map_toArray, List.map_cons, List.map_nil]); first | done | rfl | (simp only [List.length_drop, List.length_take]; rfl)) ?_; (with_reducible refine (distaffref01_bit.calls a0 63 t123 _ A6.out).mono ?_); rintro e w' ⟨rfl, ⟨nd, rfl⟩⟩; refine ⟨_, rfl, ?_⟩) | ((with_reducible refine gate_callee (f := 35) rfl ?_); refine goesL_ (some 19) rfl rfl Try.func35 (by kernel_rfl) rfl #[.int .i64 a1, .int .i64 63] rfl (by (try simp only [List.map_toArray, List.map_cons, List.map_nil]); first | done | rfl | (simp only [List.length_drop, List.length_take]; rfl)) ?_; (with_reducible refine (distaffref01_bit.calls a1 63 t124 _ A7.out).mono ?_); rintro e w' ⟨rfl, ⟨nd, rfl⟩⟩; refine ⟨_, rfl, ?_⟩))
  (try simp only [Act.put, List.setIfInBounds_toArray, List.set_cons_zero, List.set_cons_succ])
  go_cut [6] (fun v6 wc => ∃ (kq : Nat) (x6_7 : Int), v6 = .int .i64 x6_7 ∧ Aside0 (distaffref01_Div.j0 kq a0 x6_7 t122 = some (r1, r2)) ∧ Aside0 (kq ≤ k) ∧ Aside0 (Below w.heap.size w wc))
  case first =>
    have H := HC8.out
    clear HC8
    by_cases c12 : t123 = t124
    · rw [if_pos c12] at H
      have c12b0 : (t123 == t124) = true := beq_iff_eq.mpr c12
      have c12b1 : (t123 != t124) = false := bne_eq_false_iff_eq.mpr c12
      clear c12
      (first | rw [c12b0] | (simp only [i64_w, i32_w]; rw [c12b0]) | skip)
      have H' := Aside0.mk H
      clear H
      go_wp2
      go_meet
      case rel => exact ⟨_, (t121), (by first | rfl | (simp; done) | (simp [*]; done)), H', ⟨by first | omega | exact Nat.le_refl _⟩, ⟨by repeat (first | (with_reducible first | exact HB.out | apply below_alloc | apply pw_below_drewN | apply below_drew1) | exact HB.out)⟩⟩
    · rw [if_neg c12] at H
      have c12b0 : (t123 == t124) = false := beq_eq_false_iff_ne.mpr c12
      have c12b1 : (t123 != t124) = true := bne_iff_ne.mpr c12
      (first | rw [c12b0] | (simp only [i64_w, i32_w]; rw [c12b0]) | skip)
      replace H := Option.bind_eq_some_iff.mp H
      obtain ⟨t125, A130, H⟩ := H
      replace H : (distaffref01_Div.j0 k a0 t125 t122) = some (r1, r2) := H
      have A13 := Aside0.mk A130
      clear A130
      have H' := Aside0.mk H
      clear H
      go_wp2_with (first | ((with_reducible refine gate_callee (f := 31) rfl ?_); refine goesL_ (some 22) rfl rfl Try.func31 (by kernel_rfl) rfl #[.int .i64 t121] rfl (by (try simp only [List.map_toArray, List.map_cons, List.map_nil]); first | done | rfl | (simp only [List.length_drop, List.length_take]; rfl)) ?_; (with_reducible refine (distaffref01_Neg.calls t121 t125 _ A13.out).mono ?_); rintro e w14 ⟨rfl, hb⟩; refine ⟨_, rfl, ?_⟩; have n0_ := Aside0.mk (below_step (by repeat (first | (with_reducible first | exact HB.out | apply below_alloc | apply pw_below_drewN | apply below_drew1) | exact HB.out)) hb); clear HB; have HB := n0_; clear n0_; (try clear hb); (try clear hb2); (try clear hk); (try clear hi)))
      go_meet
      case rel => exact ⟨_, (t125), (by first | rfl | (simp; done) | (simp [*]; done)), H', ⟨by first | omega | exact Nat.le_refl _⟩, ⟨by repeat (first | (with_reducible first | exact HB.out | apply below_alloc | apply pw_below_drewN | apply below_drew1) | exact HB.out)⟩⟩
  case rest =>
    clear HC8
    try clear c1
    try clear c2
    try clear p2
    try clear c3
    try clear c4
    try clear c12
    try clear c12b0
    try clear c12b1
    obtain ⟨kq, x6_7, rfl, HA, HJ7, HB⟩ := hcut
    cases kq with
    | zero => exact absurd HA.out (by simp [distaffref01_Div.j0])
    | succ kj7 =>
      have H := HA.out
      clear HA
      simp only [distaffref01_Div.j0] at H
      replace H := Option.bind_eq_some_iff.mp H
      obtain ⟨t126, A150, H⟩ := H
      replace H : (if t126 = 1 then ((distaffref01_Neg.f t122).bind fun t127 => (some (x6_7, t127))) else (some (x6_7, t122))) = some (r1, r2) := H
      have A15 := Aside0.mk A150
      clear A150
      by_cases c16 : t126 = 1
      · rw [if_pos c16] at H
        have c16b0 : (t126 == 1) = true := beq_iff_eq.mpr c16
        have c16b1 : (t126 != 1) = false := bne_eq_false_iff_eq.mpr c16
        clear c16
        replace H := Option.bind_eq_some_iff.mp H
        obtain ⟨t127, A170, H⟩ := H
        replace H : (some (x6_7, t127)) = some (r1, r2) := H
        have A17 := Aside0.mk A170
        clear A170
        simp only [Option.some.injEq, Prod.mk.injEq] at H
        obtain ⟨rfl, rfl⟩ := H
        go_wp2_with (first | ((with_reducible refine gate_callee (f := 35) rfl ?_); refine goesL_ (some 24) rfl rfl Try.func35 (by kernel_rfl) rfl #[.int .i64 a0, .int .i64 63] rfl (by (try simp only [List.map_toArray, List.map_cons, List.map_nil]); first | done | rfl | (simp only [List.length_drop, List.length_take]; rfl)) ?_; (with_reducible refine (distaffref01_bit.calls a0 63 t126 _ A15.out).mono ?_); rintro e w' ⟨rfl, ⟨nd, rfl⟩⟩; refine ⟨_, rfl, ?_⟩) | ((with_reducible refine gate_callee (f := 31) rfl ?_); refine goesL_ (some 27) rfl rfl Try.func31 (by kernel_rfl) rfl #[.int .i64 t122] rfl (by (try simp only [List.map_toArray, List.map_cons, List.map_nil]); first | done | rfl | (simp only [List.length_drop, List.length_take]; rfl)) ?_; (with_reducible refine (distaffref01_Neg.calls t122 t127 _ A17.out).mono ?_); rintro e w18 ⟨rfl, hb⟩; refine ⟨_, rfl, ?_⟩; have n0_ := Aside0.mk (below_step (by repeat (first | (with_reducible first | exact HB.out | apply below_alloc | apply pw_below_drewN | apply below_drew1) | exact HB.out)) hb); clear HB; have HB := n0_; clear n0_; (try clear hb); (try clear hb2); (try clear hk); (try clear hi)))
        go_ret2
        exact ⟨by first | rfl | (simp [errW_none, errW_some] <;> rfl) | (simp [*, errW_none, errW_some] <;> rfl), by repeat (first | (with_reducible first | exact HB.out | apply below_alloc | apply pw_below_drewN | apply below_drew1) | exact HB.out)⟩
      · rw [if_neg c16] at H
        have c16b0 : (t126 == 1) = false := beq_eq_false_iff_ne.mpr c16
        have c16b1 : (t126 != 1) = true := bne_iff_ne.mpr c16
        simp only [Option.some.injEq, Prod.mk.injEq] at H
        obtain ⟨rfl, rfl⟩ := H
        go_wp2_with (first | ((with_reducible refine gate_callee (f := 35) rfl ?_); refine goesL_ (some 24) rfl rfl Try.func35 (by kernel_rfl) rfl #[.int .i64 a0, .int .i64 63] rfl (by (try simp only [List.map_toArray, List.map_cons, List.map_nil]); first | done | rfl | (simp only [List.length_drop, List.length_take]; rfl)) ?_; (with_reducible refine (distaffref01_bit.calls a0 63 t126 _ A15.out).mono ?_); rintro e w' ⟨rfl, ⟨nd, rfl⟩⟩; refine ⟨_, rfl, ?_⟩))
        go_ret2
        exact ⟨by first | rfl | (simp [errW_none, errW_some] <;> rfl) | (simp [*, errW_none, errW_some] <;> rfl), by repeat (first | (with_reducible first | exact HB.out | apply below_alloc | apply pw_below_drewN | apply below_drew1) | exact HB.out)⟩

/-! ### distaffref01_mul: function 32 -/
def distaffref01_mul.l0 : Nat → Int → Int → Int → Int → Option (Int)
  | 0, _, _, _, _ => none
  | k + 1, x0, x1, x5, x6 => if x6 ≥ 0 then ((distaffref01_Add.f x5 x5).bind fun t128 => ((distaffref01_bit.f x1 x6).bind fun t129 => (if t129 = 1 then ((distaffref01_Add.f t128 x0).bind fun t130 => (distaffref01_mul.l0 k x0 x1 t130 (wrap64 (x6 - 1)))) else (distaffref01_mul.l0 k x0 x1 t128 (wrap64 (x6 - 1)))))) else (some x5)
def distaffref01_mul.f (k : Nat) (a0 : Int) (a1 : Int) : Option (Int) := distaffref01_mul.l0 k a0 a1 0 63
theorem distaffref01_mul.mono_l : ∀ k, (∀ y0 y1 y2 y3, LeO (distaffref01_mul.l0 k y0 y1 y2 y3) (distaffref01_mul.l0 (k + 1) y0 y1 y2 y3))
  | 0 => fun _ _ _ _ r h => by simp [distaffref01_mul.l0] at h
  | k + 1 => by
    have ih0 := distaffref01_mul.mono_l k
    · intro y0 y1 y2 y3
      unfold distaffref01_mul.l0
      repeat' first
      | (with_reducible exact ih0 _ _ _ _)
      | (with_reducible exact LeO.refl _)
      | (with_reducible exact LeO.none _)
      | (with_reducible refine LeO.ite ?_ ?_)
      | (with_reducible refine LeO.bind ?_ (fun _ => ?_))
      | exact ih0 _ _ _ _
      | exact LeO.none _
      | refine LeO.ite ?_ ?_
      | refine LeO.bind ?_ (fun _ => ?_)
theorem distaffref01_mul.mono : ∀ a0 a1 k, LeO (distaffref01_mul.f k a0 a1) (distaffref01_mul.f (k + 1) a0 a1) := by
  intro a0 a1 k
  have ih0 := distaffref01_mul.mono_l k
  unfold distaffref01_mul.f
  repeat' first
      | (with_reducible exact ih0 _ _ _ _)
      | (with_reducible exact LeO.refl _)
      | (with_reducible exact LeO.none _)
      | (with_reducible refine LeO.ite ?_ ?_)
      | (with_reducible refine LeO.bind ?_ (fun _ => ?_))
      | exact ih0 _ _ _ _
      | exact LeO.none _
      | refine LeO.ite ?_ ?_
      | refine LeO.bind ?_ (fun _ => ?_)
set_option maxHeartbeats 8000000 in
set_option maxRecDepth 100000 in
theorem distaffref01_mul.calls (k : Nat) (a0 : Int) (a1 : Int) (r : Int) (w : World) (h : distaffref01_mul.f k a0 a1 = some r) :
    Calls Try.prog 32 #[.int .i64 a0, .int .i64 a1] w fun e w' => e = .returned (.int .i64 r) ∧ Below w.heap.size w w' := by
  have HB := Aside0.mk (Below.refl w.heap.size w)
  have H : (distaffref01_mul.l0 k a0 a1 0 63) = some r := h
  clear h
  have H' := Aside0.mk H
  clear H
  go_enter Try.func32, Try.ntmps32
  go_wp2
  go_loopg [5, 6] k (fun kq v5 v6 w' => ∃ (x5_1 : Int) (x6_1 : Int), v5 = .int .i64 x5_1 ∧ v6 = .int .i64 x6_1 ∧ Aside0 (distaffref01_mul.l0 kq a0 a1 x5_1 x6_1 = some r) ∧ Aside0 (kq ≤ k) ∧ Aside0 (Below w.heap.size w w'))
  case atStart => exact ⟨(0), (63), (by first | rfl | (simp; done) | (simp [*]; done)), (by first | rfl | (simp; done) | (simp [*]; done)), H', ⟨Nat.le_refl _⟩, ⟨by repeat (first | (with_reducible first | exact HB.out | apply below_alloc | apply pw_below_drewN | apply below_drew1) | exact HB.out)⟩⟩
  case round =>
    clear H'
    try clear p2
    obtain ⟨x5_1, x6_1, rfl, rfl, HA, HK1, HB⟩ := hrel
    cases gk with
    | zero => exact absurd HA.out (by simp [distaffref01_mul.l0])
    | succ k1 =>
      have H := HA.out
      clear HA
      simp only [distaffref01_mul.l0] at H
      by_cases c3 : x6_1 ≥ 0
      · rw [if_pos c3] at H
        have c3b0 : decide (0 ≤ x6_1) = true := decide_eq_true c3
        clear c3
        replace H := Option.bind_eq_some_iff.mp H
        obtain ⟨t128, A40, H⟩ := H
        replace H : ((distaffref01_bit.f a1 x6_1).bind fun t129 => (if t129 = 1 then ((distaffref01_Add.f t128 a0).bind fun t130 => (distaffref01_mul.l0 k1 a0 a1 t130 (wrap64 (x6_1 - 1)))) else (distaffref01_mul.l0 k1 a0 a1 t128 (wrap64 (x6_1 - 1))))) = some r := H
        have A4 := Aside0.mk A40
        clear A40
        replace H := Option.bind_eq_some_iff.mp H
        obtain ⟨t129, A50, H⟩ := H
        replace H : (if t129 = 1 then ((distaffref01_Add.f t128 a0).bind fun t130 => (distaffref01_mul.l0 k1 a0 a1 t130 (wrap64 (x6_1 - 1)))) else (distaffref01_mul.l0 k1 a0 a1 t128 (wrap64 (x6_1 - 1)))) = some r := H
        have A5 := Aside0.mk A50
        clear A50
        by_cases c6 : t129 = 1
        · rw [if_pos c6] at H
          have c6b0 : (t129 == 1) = true := beq_iff_eq.mpr c6
          have c6b1 : (t129 != 1) = false := bne_eq_false_iff_eq.mpr c6
          clear c6
          replace H := Option.bind_eq_some_iff.mp H
          obtain ⟨t130, A70, H⟩ := H
          replace H : (distaffref01_mul.l0 k1 a0 a1 t130 (wrap64 (x6_1 - 1))) = some r := H
          have A7 := Aside0.mk A70
          clear A70
          have H' := Aside0.mk H
          clear H
          go_wp2_with (first | ((with_reducible refine gate_callee (f := 25) rfl ?_); refine goesL_ (some 13) rfl rfl Try.func25 (by kernel_rfl) rfl #[.int .i64 x5_1, .int .i64 x5_1] rfl (by (try simp only [List.map_toArray, List.map_cons, List.map_nil]); first | done | rfl | (simp only [List.length_drop, List.length_take]; rfl)) ?_; (with_reducible refine (distaffref01_Add.calls x5_1 x5_1 t128 _ A4.out).mono ?_); rintro e w8 ⟨rfl, hb⟩; refine ⟨_, rfl, ?_⟩; have n0_ := Aside0.mk (below_step (by repeat (first | (with_reducible first | exact HB.out | apply below_alloc | apply pw_below_drewN | apply below_drew1) | exact HB.out)) hb); clear HB; have HB := n0_; clear n0_; (try clear hb); (try clear hb2); (try clear hk); (try clear hi)) | ((with_reducible refine gate_callee (f := 35) rfl ?_); refine goesL_ (some 16) rfl rfl Try.func35 (by kernel_rfl) rfl #[.int .i64 a1, .int .i64 x6_1] rfl (by (try simp only [List.map_toArray, List.map_cons, List.map_nil]); first | done | rfl | (simp only [List.length_drop, List.length_take]; rfl)) ?_; (with_reducible refine (distaffref01_bit.calls a1 x6_1 t129 _ A5.out).mono ?_); rintro e w' ⟨rfl, ⟨nd, rfl⟩⟩; refine ⟨_, rfl, ?_⟩) | ((with_reducible refine gate_callee (f := 25) rfl ?_); refine goesL_ (some 20) rfl rfl Try.func25 (by kernel_rfl) rfl #[.int .i64 t128, .int .i64 a0] rfl (by (try simp only [List.map_toArray, List.map_cons, List.map_nil]); first | done | rfl | (simp only [List.length_drop, List.length_take]; rfl)) ?_; (with_reducible refine (distaffref01_Add.calls t128 a0 t130 _ A7.out).mono ?_); rintro e w9 ⟨rfl, hb⟩; refine ⟨_, rfl, ?_⟩; have n0_ := Aside0.mk (below_step (by repeat (first | (with_reducible first | exact HB.out | apply below_alloc | apply pw_below_drewN | apply below_drew1) | exact HB.out)) hb); clear HB; have HB := n0_; clear n0_; (try clear hb); (try clear hb2); (try clear hk); (try clear hi)))
          go_roundg k1
          case measure => have := HK1.out; omega
          case rel => exact ⟨(t130), (wrap64 (x6_1 - 1)), (by first | rfl | (simp; done) | (simp [*]; done)), (by first | rfl | (simp; done) | (simp [*]; done)), H', ⟨by have := HK1.out; omega⟩, ⟨by repeat (first | (with_reducible first | exact HB.out | apply below_alloc | apply pw_below_drewN | apply below_drew1) | exact HB.out)⟩⟩
        · rw [if_neg c6] at H
          have c6b0 : (t129 == 1) = false := beq_eq_false_iff_ne.mpr c6
          have c6b1 : (t129 != 1) = true := bne_iff_ne.mpr c6
          have H' := Aside0.mk H
          clear H
          go_wp2_with (first | ((with_reducible refine gate_callee (f := 25) rfl ?_); refine goesL_ (some 13) rfl rfl Try.func25 (by kernel_rfl) rfl #[.int .i64 x5_1, .int .i64 x5_1] rfl (by (try simp only [List.map_toArray, List.map_cons, List.map_nil]); first | done | rfl | (simp only [List.length_drop, List.length_take]; rfl)) ?_; (with_reducible refine (distaffref01_Add.calls x5_1 x5_1 t128 _ A4.out).mono ?_); rintro e w10 ⟨rfl, hb⟩; refine ⟨_, rfl, ?_⟩; have n0_ := Aside0.mk (below_step (by repeat (first | (with_reducible first | exact HB.out | apply below_alloc | apply pw_below_drewN | apply below_drew1) | exact HB.out)) hb); clear HB; have HB := n0_; clear n0_; (try clear hb); (try clear hb2); (try clear hk); (try clear hi)) | ((with_reducible refine gate_callee (f := 35) rfl ?_); refine goesL_ (some 16) rfl rfl Try.func35 (by kernel_rfl) rfl #[.int .i64 a1, .int .i64 x6_1] rfl (by (try simp only [List.map_toArray, List.map_cons, List.map_nil]); first | done | rfl | (simp only [List.length_drop, List.length_take]; rfl)) ?_; (with_reducible refine (distaffref01_bit.calls a1 x6_1 t129 _ A5.out).mono ?_); rintro e w' ⟨rfl, ⟨nd, rfl⟩⟩; refine ⟨_, rfl, ?_⟩))
          go_roundg k1
          case measure => have := HK1.out; omega
          case rel => exact ⟨(t128), (wrap64 (x6_1 - 1)), (by first | rfl | (simp; done) | (simp [*]; done)), (by first | rfl | (simp; done) | (simp [*]; done)), H', ⟨by have := HK1.out; omega⟩, ⟨by repeat (first | (with_reducible first | exact HB.out | apply below_alloc | apply pw_below_drewN | apply below_drew1) | exact HB.out)⟩⟩
      · rw [if_neg c3] at H
        have c3b0 : decide (0 ≤ x6_1) = false := decide_eq_false c3
        clear c3
        obtain rfl := Option.some.inj H
        go_wp2
        go_ret
        exact ⟨by first | rfl | (simp [errW_none, errW_some] <;> rfl) | (simp [*, errW_none, errW_some] <;> rfl), by repeat (first | (with_reducible first | exact HB.out | apply below_alloc | apply pw_below_drewN | apply below_drew1) | exact HB.out)⟩

/-! ### logic: function 33 (by hand) -/
def distaffref01_logic.f (a0 : Int) (a1 : Int) (a2 : Int) : Option (Int) := some (if a0 = 9 then Go.bits .and .i64 a1 a2 else if a0 = 10 then Go.bits .or .i64 a1 a2 else Go.bits .xor .i64 a1 a2)
open Go.Proofs.Ytoojmpcpbnlkaaa.Arr in
theorem distaffref01_logic.bit (a : Int) (i : Nat) (h : i < 64) : distaffref01_bit.f a (i : Int) = some (bitOf a i) := by
  unfold distaffref01_bit.f
  rw [bit_expr a i h, if_pos (by rw [u64]; omega)]
open Go.Proofs.Ytoojmpcpbnlkaaa.Arr in
set_option maxRecDepth 100000 in
set_option maxHeartbeats 2000000 in
theorem distaffref01_logic.calls (a0 : Int) (a1 : Int) (a2 : Int) (r : Int) (w : World) (h : distaffref01_logic.f a0 a1 a2 = some r) :
    Calls Try.prog 33 #[.int .i64 a0, .int .i64 a1, .int .i64 a2] w fun e w' => e = .returned (.int .i64 r) ∧ Below w.heap.size w w' := by
  have hr := Option.some.inj h
  clear h
  obtain ⟨f, hf⟩ : ∃ f : Nat → Int, f = fun i => if a0 = 9 then bitOf a1 i * bitOf a2 i else if a0 = 10 then bitOf a1 i + bitOf a2 i - bitOf a1 i * bitOf a2 i else (bitOf a1 i + bitOf a2 i) % 2 := ⟨_, rfl⟩
  have hnum : wrap64 (hi (mk f 64)) = r := by
    rw [← hr, hf]
    by_cases c1 : a0 = 9
    · simp only [c1, if_true]
      rw [num_eq _ (Go.bits .and .i64 a1 a2) (fun j hj => (bit_and a1 a2 j hj).symm), wrap_and]
    · by_cases c2 : a0 = 10
      · simp only [c2, if_true, show ¬ ((10 : Int) = 9) by decide, if_false]
        rw [num_eq _ (Go.bits .or .i64 a1 a2) (fun j hj => (bit_or a1 a2 j hj).symm), wrap_or]
      · simp only [c1, c2, if_false]
        rw [num_eq _ (Go.bits .xor .i64 a1 a2) (fun j hj => (bit_xor a1 a2 j hj).symm), wrap_xor]
  clear hr
  have HR := Lib.hid hnum
  have HF := Lib.hid hf
  clear hf hnum
  go_enter Try.func33, Try.ntmps33
  go_wp2_with (first | (refine wpList_buildTo rfl 49 #[] rfl (some 11) rfl zeros (by kernel_rfl) ?_) | (refine wpList_store_rowTo rfl 49 (.tmp 7) (.tmp 11) rfl rfl w.heap.size zeros rfl rfl 49 _ (blk_new w _) (by kernel_rfl) rfl (by kernel_rfl) ?_))
  rw [World.setRow_alloc_new]
  go_loopw [8] (fun i wr => ∃ k : Nat, k ≤ 64 ∧ i = .int .i64 k ∧ wr.heap[w.heap.size]? = some (.cells (cellsOf (mk f k)) 49 (0, 0)) ∧ Below w.heap.size w wr) (fun i _ => (64 - intOf i).toNat)
  case atStart => exact ⟨0, by omega, rfl, by rw [← zeros_eq]; exact blk_new w _, (Below.refl _ _).alloc (Nat.le_refl _) _⟩
  case round =>
    obtain ⟨k, hk, rfl, hblk, hbel⟩ := hrel
    have HB := Lib.hid hblk
    clear hblk
    by_cases hlt : k < 64
    · obtain ⟨v, hcell⟩ : ∃ v, wr.cell? ⟨w.heap.size, k, none⟩ = some v := ⟨_, (blk_cell HB.out k).trans (cells_at _ k (by rw [mk_len]; omega))⟩
      have hfz := blk_frozen HB.out k
      have hbA := Lib.hid (distaffref01_logic.bit a1 k hlt)
      have hbB := Lib.hid (distaffref01_logic.bit a2 k hlt)
      obtain ⟨x, hx⟩ : ∃ x, x = bitOf a1 k := ⟨_, rfl⟩
      obtain ⟨y, hy⟩ : ∃ y, y = bitOf a2 k := ⟨_, rfl⟩
      have x1 := bit_01 a1 k
      have y1 := bit_01 a2 k
      rw [← hx] at x1 hbA
      rw [← hy] at y1 hbB
      have xa : 0 ≤ x := by omega
      have xb : x ≤ 1 := by omega
      have ya : 0 ≤ y := by omega
      have yb : y ≤ 1 := by omega
      have ma : 0 ≤ x * y := Int.mul_nonneg xa ya
      have mb : x * y ≤ 1 := by
        have := Int.mul_le_mul xb yb ya (show (0 : Int) ≤ 1 by decide)
        omega
      have HX := Lib.hid hx
      have HY := Lib.hid hy
      clear hx hy x1 y1
      by_cases c1 : a0 = 9
      · have hv : f k = x * y := by rw [HF.out]; simp only [c1, if_true]; rw [HX.out, HY.out]
        have HV := Lib.hid hv
        clear hv
        have d1 : (a0 == 9) = true := beq_iff_eq.mpr c1
        clear c1
        go_wp2_with (first | ((go_at_call 35); (with_reducible refine (distaffref01_bit.calls a1 k _ _ hbA.out).mono ?_); rintro e w2 ⟨rfl, ⟨nd, rfl⟩⟩) | ((go_at_call 35); (with_reducible refine (distaffref01_bit.calls a2 k _ _ hbB.out).mono ?_); rintro e w2 ⟨rfl, ⟨nd2, rfl⟩⟩))
        go_roundw
        case rel => exact ⟨k + 1, by omega, by go_num, blk_put (w := World.drewN wr _) HB.out k _ (by rw [cells_set, ← HV.out, mk_set]), below_set (pw_below_drewN hbel _) (Nat.le_refl _)⟩
        case measure => simp [intOf]; omega
      · have d1 : (a0 == 9) = false := beq_eq_false_iff_ne.mpr c1
        by_cases c2 : a0 = 10
        · have hv : f k = x + y - x * y := by rw [HF.out]; simp only [c2, if_true, show ¬ ((10 : Int) = 9) by decide, if_false]; rw [HX.out, HY.out]
          have HV := Lib.hid hv
          clear hv
          have d2 : (a0 == 10) = true := beq_iff_eq.mpr c2
          clear c1 c2
          go_wp2_with (first | ((go_at_call 35); (with_reducible refine (distaffref01_bit.calls a1 k _ _ hbA.out).mono ?_); rintro e w2 ⟨rfl, ⟨nd, rfl⟩⟩) | ((go_at_call 35); (with_reducible refine (distaffref01_bit.calls a2 k _ _ hbB.out).mono ?_); rintro e w2 ⟨rfl, ⟨nd2, rfl⟩⟩))
          go_roundw
          case rel => exact ⟨k + 1, by omega, by go_num, blk_put (w := World.drewN wr _) HB.out k _ (by rw [cells_set, ← HV.out, mk_set]), below_set (pw_below_drewN hbel _) (Nat.le_refl _)⟩
          case measure => simp [intOf]; omega
        · have hv : f k = (x + y) % 2 := by rw [HF.out]; simp only [c1, c2, if_false]; rw [HX.out, HY.out]
          have HV := Lib.hid hv
          clear hv
          have d2 : (a0 == 10) = false := beq_eq_false_iff_ne.mpr c2
          clear c1 c2
          go_wp2_with (first | ((go_at_call 35); (with_reducible refine (distaffref01_bit.calls a1 k _ _ hbA.out).mono ?_); rintro e w2 ⟨rfl, ⟨nd, rfl⟩⟩) | ((go_at_call 35); (with_reducible refine (distaffref01_bit.calls a2 k _ _ hbB.out).mono ?_); rintro e w2 ⟨rfl, ⟨nd2, rfl⟩⟩))
          go_roundw
          case rel => exact ⟨k + 1, by omega, by go_num, blk_put (w := World.drewN wr _) HB.out k _ (by rw [cells_set, ← HV.out, mk_set]), below_set (pw_below_drewN hbel _) (Nat.le_refl _)⟩
          case measure => simp [intOf]; omega
    · have hnum := distaffref01_number.calls (mk f 64) (mk_len _ _)
      obtain rfl : k = 64 := by omega
      have HN := Lib.hid hnum
      clear hnum
      go_wp2_with (first | (with_reducible refine wpList_load_row rfl 49 _ rfl w.heap.size rfl 49 _ (0, 0) _ HB.out Try.underlying49 rfl ?hi ?_) | ((go_at_call 45); refine (HN.out _).mono ?_; rintro e w2 ⟨rfl, hb2⟩))
      case hi => rw [cells_size, mk_len]; kernel_rfl
      go_ret
      exact ⟨by rw [HR.out]; first | done | rfl, below_then hbel hbel.size hb2⟩

/-! ### shift: function 34 (by hand) -/
def distaffref01_shift.f (a0 : Int) (a1 : Int) (a2 : Bool) (a3 : Int) : Option (Int) := if (0 ≤ a1 ∧ a1 < 64) ∧ (a3 = 0 ∨ a3 = 1) then some (if a2 = true then wrap64 (a0 * 2 ^ a1.toNat) else wrap64 (Go.Proofs.Ytoojmpcpbnlkaaa.Arr.rightOf a0 a1.toNat a3)) else none
open Go.Proofs.Ytoojmpcpbnlkaaa.Arr in
theorem distaffref01_shift.bit (a : Int) (i : Nat) (h : i < 64) : distaffref01_bit.f a (i : Int) = some (bitOf a i) := by
  unfold distaffref01_bit.f
  rw [bit_expr a i h, if_pos (by rw [u64]; omega)]
open Go.Proofs.Ytoojmpcpbnlkaaa.Arr in
set_option maxRecDepth 100000 in
set_option maxHeartbeats 2000000 in
theorem distaffref01_shift.calls (a0 : Int) (a1 : Int) (a2 : Bool) (a3 : Int) (r : Int) (w : World) (h : distaffref01_shift.f a0 a1 a2 a3 = some r) :
    Calls Try.prog 34 #[.int .i64 a0, .int .i64 a1, .bool a2, .int .i64 a3] w fun e w' => e = .returned (.int .i64 r) ∧ Below w.heap.size w w' := by
  unfold distaffref01_shift.f at h
  by_cases hc : (0 ≤ a1 ∧ a1 < 64) ∧ (a3 = 0 ∨ a3 = 1)
  · rw [if_pos hc] at h
    obtain ⟨⟨hn0, hn1⟩, hab⟩ := hc
    obtain ⟨n, rfl⟩ := Int.eq_ofNat_of_zero_le hn0
    rw [Int.toNat_natCast] at h
    have hn : n < 64 := by omega
    have hr := Option.some.inj h
    clear h
    obtain ⟨f, hf⟩ : ∃ f : Nat → Int, f = fun i => if a2 = true then (if n ≤ i then bitOf a0 (i - n) else 0) else (if i + n < 64 then bitOf a0 (i + n) else a3) := ⟨_, rfl⟩
    have hnum : wrap64 (hi (mk f 64)) = r := by
      rw [← hr, hf]
      cases a2 with
      | true =>
        simp only [if_true]
        rw [num_eq _ (a0 * 2 ^ n) (fun j hj => (bit_left a0 n j).symm)]
      | false =>
        simp only [Bool.false_eq_true, if_false]
        rw [num_eq _ (rightOf a0 n a3) (fun j hj => (bit_right a0 n j a3 hn hj hab).symm)]
    clear hr hab
    have HR := Lib.hid hnum
    have HF := Lib.hid hf
    clear hf hnum
    go_enter Try.func34, Try.ntmps34
    go_wp2_with (first | (refine wpList_buildTo rfl 49 #[] rfl (some 12) rfl zeros (by kernel_rfl) ?_) | (refine wpList_store_rowTo rfl 49 (.tmp 9) (.tmp 12) rfl rfl w.heap.size zeros rfl rfl 49 _ (blk_new w _) (by kernel_rfl) rfl (by kernel_rfl) ?_))
    rw [World.setRow_alloc_new]
    go_loopw [10] (fun i wr => ∃ k : Nat, k ≤ 64 ∧ i = .int .i64 k ∧ wr.heap[w.heap.size]? = some (.cells (cellsOf (mk f k)) 49 (0, 0)) ∧ Below w.heap.size w wr) (fun i _ => (64 - intOf i).toNat)
    case atStart => exact ⟨0, by omega, rfl, by rw [← zeros_eq]; exact blk_new w _, (Below.refl _ _).alloc (Nat.le_refl _) _⟩
    case round =>
      obtain ⟨k, hk, rfl, hblk, hbel⟩ := hrel
      have HB := Lib.hid hblk
      clear hblk
      by_cases hlt : k < 64
      · obtain ⟨v, hcell⟩ : ∃ v, wr.cell? ⟨w.heap.size, k, none⟩ = some v := ⟨_, (blk_cell HB.out k).trans (cells_at _ k (by rw [mk_len]; omega))⟩
        have hfz := blk_frozen HB.out k
        cases a2 with
        | true =>
          by_cases c : n ≤ k
          · have e : ((k : Int) - (n : Int)) = ((k - n : Nat) : Int) := by omega
            have hbA : Hid (distaffref01_bit.f a0 ((k : Int) - (n : Int)) = some (bitOf a0 (k - n))) := Lib.hid (by rw [e]; exact distaffref01_shift.bit a0 (k - n) (by omega))
            have HV := Lib.hid (show f k = bitOf a0 (k - n) by rw [HF.out]; simp [c])
            clear e
            have p1 : 0 ≤ (k : Int) - (n : Int) := by omega
            have p2 : (k : Int) - (n : Int) < 64 := by omega
            go_wp2_with (first | ((go_at_call 35); (with_reducible refine (distaffref01_bit.calls a0 _ _ _ hbA.out).mono ?_); rintro e w2 ⟨rfl, ⟨nd, rfl⟩⟩))
            go_roundw
            case rel => exact ⟨k + 1, by omega, by go_num, blk_put (w := World.drewN wr _) HB.out k _ (by rw [cells_set, ← HV.out, mk_set]), below_set (pw_below_drewN hbel _) (Nat.le_refl _)⟩
            case measure => simp [intOf]; omega
          · have HV := Lib.hid (show f k = 0 by rw [HF.out]; simp [c])
            have p1 : (k : Int) - (n : Int) < 0 := by omega
            have p3 : decide (0 ≤ (k : Int) - (n : Int)) = false := by simp; omega
            go_wp2
            go_roundw
            case rel => exact ⟨k + 1, by omega, by go_num, blk_put (w := wr) HB.out k _ (by rw [cells_set, ← HV.out, mk_set]), below_set hbel (Nat.le_refl _)⟩
            case measure => simp [intOf]; omega
        | false =>
          by_cases c : k + n < 64
          · have e : ((k : Int) + (n : Int)) = ((k + n : Nat) : Int) := by omega
            have hbA : Hid (distaffref01_bit.f a0 ((k : Int) + (n : Int)) = some (bitOf a0 (k + n))) := Lib.hid (by rw [e]; exact distaffref01_shift.bit a0 (k + n) c)
            have HV := Lib.hid (show f k = bitOf a0 (k + n) by rw [HF.out]; simp [c])
            clear e
            have p1 : 0 ≤ (k : Int) + (n : Int) := by omega
            have p2 : (k : Int) + (n : Int) < 64 := by omega
            go_wp2_with (first | ((go_at_call 35); (with_reducible refine (distaffref01_bit.calls a0 _ _ _ hbA.out).mono ?_); rintro e w2 ⟨rfl, ⟨nd, rfl⟩⟩))
            go_roundw
            case rel => exact ⟨k + 1, by omega, by go_num, blk_put (w := World.drewN wr _) HB.out k _ (by rw [cells_set, ← HV.out, mk_set]), below_set (pw_below_drewN hbel _) (Nat.le_refl _)⟩
            case measure => simp [intOf]; omega
          · have HV := Lib.hid (show f k = a3 by rw [HF.out]; simp [c])
            have p1 : 64 ≤ (k : Int) + (n : Int) := by omega
            have p3 : decide ((k : Int) + (n : Int) < 64) = false := by simp; omega
            go_wp2
            go_roundw
            case rel => exact ⟨k + 1, by omega, by go_num, blk_put (w := wr) HB.out k _ (by rw [cells_set, ← HV.out, mk_set]), below_set hbel (Nat.le_refl _)⟩
            case measure => simp [intOf]; omega
      · have hnum := distaffref01_number.calls (mk f 64) (mk_len _ _)
        obtain rfl : k = 64 := by omega
        have HN := Lib.hid hnum
        clear hnum
        go_wp2_with (first | (with_reducible refine wpList_load_row rfl 49 _ rfl w.heap.size rfl 49 _ (0, 0) _ HB.out Try.underlying49 rfl ?hi ?_) | ((go_at_call 45); refine (HN.out _).mono ?_; rintro e w2 ⟨rfl, hb2⟩))
        case hi => rw [cells_size, mk_len]; kernel_rfl
        go_ret
        exact ⟨by rw [HR.out]; first | done | rfl, below_then hbel hbel.size hb2⟩
  · rw [if_neg hc] at h
    cases h

/-! ### distaffref01_one: function 36 -/
def distaffref01_one.f (a0 : Bool) : Option (Int) := if a0 = true then (some 1) else (some 0)
set_option maxHeartbeats 8000000 in
set_option maxRecDepth 100000 in
theorem distaffref01_one.calls (a0 : Bool) (r : Int) (w : World) (h : distaffref01_one.f a0 = some r) :
    Calls Try.prog 36 #[.bool a0] w fun e w' => e = .returned (.int .i64 r) ∧ Drawn0 w w' := by
  have H : (if a0 = true then (some 1) else (some 0)) = some r := h
  clear h
  by_cases c2 : a0 = true
  · subst c2
    have H1 : (some 1) = some r := by rw [if_pos rfl] at H; exact H
    clear H
    have H := H1
    clear H1
    obtain rfl := Option.some.inj H
    go_enter Try.func36, Try.ntmps36
    go_wp2
    go_ret
    exact ⟨by first | rfl | (simp; done) | (simp [*]; done), by repeat (first | exact Drawn0.refl _ | apply Drawn0.step)⟩
  · replace c2 := Bool.eq_false_iff.mpr c2
    subst c2
    have H1 : (some 0) = some r := by rw [if_neg (show ¬ (false = true) by decide)] at H; exact H
    clear H
    have H := H1
    clear H1
    obtain rfl := Option.some.inj H
    go_enter Try.func36, Try.ntmps36
    go_wp2
    go_ret
    exact ⟨by first | rfl | (simp; done) | (simp [*]; done), by repeat (first | exact Drawn0.refl _ | apply Drawn0.step)⟩

/-! ### distaffref01_below: function 38 -/
def distaffref01_below.f (k : Nat) (a0 : Int) (a1 : Int) : Option (Bool) := (distaffref01_bit.f a0 63).bind fun t131 => ((distaffref01_bit.f a1 63).bind fun t132 => (if t131 = t132 then ((distaffref01_under.f k a0 a1).bind fun t133 => (some t133)) else ((distaffref01_bit.f a0 63).bind fun t134 => (some (t134 == 1)))))
theorem distaffref01_below.mono : ∀ a0 a1 k, LeO (distaffref01_below.f k a0 a1) (distaffref01_below.f (k + 1) a0 a1) := by
  intro a0 a1 k
  unfold distaffref01_below.f
  repeat' first
      | (with_reducible exact distaffref01_under.mono _ _ _)
      | (with_reducible exact LeO.refl _)
      | (with_reducible exact LeO.none _)
      | (with_reducible refine LeO.ite ?_ ?_)
      | (with_reducible refine LeO.bind ?_ (fun _ => ?_))
      | exact distaffref01_under.mono _ _ _
      | exact LeO.none _
      | refine LeO.ite ?_ ?_
      | refine LeO.bind ?_ (fun _ => ?_)
set_option maxHeartbeats 8000000 in
set_option maxRecDepth 100000 in
theorem distaffref01_below.calls (k : Nat) (a0 : Int) (a1 : Int) (r : Bool) (w : World) (h : distaffref01_below.f k a0 a1 = some r) :
    Calls Try.prog 38 #[.int .i64 a0, .int .i64 a1] w fun e w' => e = .returned (.bool r) ∧ Drawn0 w w' := by
  have H : ((distaffref01_bit.f a0 63).bind fun t131 => ((distaffref01_bit.f a1 63).bind fun t132 => (if t131 = t132 then ((distaffref01_under.f k a0 a1).bind fun t133 => (some t133)) else ((distaffref01_bit.f a0 63).bind fun t134 => (some (t134 == 1)))))) = some r := h
  clear h
  replace H := Option.bind_eq_some_iff.mp H
  obtain ⟨t131, A30, H⟩ := H
  replace H : ((distaffref01_bit.f a1 63).bind fun t132 => (if t131 = t132 then ((distaffref01_under.f k a0 a1).bind fun t133 => (some t133)) else ((distaffref01_bit.f a0 63).bind fun t134 => (some (t134 == 1))))) = some r := H
  have A3 := Aside0.mk A30
  clear A30
  replace H := Option.bind_eq_some_iff.mp H
  obtain ⟨t132, A40, H⟩ := H
  replace H : (if t131 = t132 then ((distaffref01_under.f k a0 a1).bind fun t133 => (some t133)) else ((distaffref01_bit.f a0 63).bind fun t134 => (some (t134 == 1)))) = some r := H
  have A4 := Aside0.mk A40
  clear A40
  by_cases c5 : t131 = t132
  · rw [if_pos c5] at H
    have c5b0 : (t131 == t132) = true := beq_iff_eq.mpr c5
    have c5b1 : (t131 != t132) = false := bne_eq_false_iff_eq.mpr c5
    clear c5
    replace H := Option.bind_eq_some_iff.mp H
    obtain ⟨t133, A60, H⟩ := H
    replace H : (some t133) = some r := H
    have A6 := Aside0.mk A60
    clear A60
    obtain rfl := Option.some.inj H
    go_enter Try.func38, Try.ntmps38
    go_wp2_with (first | ((with_reducible refine gate_callee (f := 35) rfl ?_); refine goesL_ (some 6) rfl rfl Try.func35 (by kernel_rfl) rfl #[.int .i64 a0, .int .i64 63] rfl (by (try simp only [List.map_toArray, List.map_cons, List.map_nil]); first | done | rfl | (simp only [List.length_drop, List.length_take]; rfl)) ?_; (with_reducible refine (distaffref01_bit.calls a0 63 t131 _ A3.out).mono ?_); rintro e w' ⟨rfl, ⟨nd, rfl⟩⟩; refine ⟨_, rfl, ?_⟩) | ((with_reducible refine gate_callee (f := 35) rfl ?_); refine goesL_ (some 8) rfl rfl Try.func35 (by kernel_rfl) rfl #[.int .i64 a1, .int .i64 63] rfl (by (try simp only [List.map_toArray, List.map_cons, List.map_nil]); first | done | rfl | (simp only [List.length_drop, List.length_take]; rfl)) ?_; (with_reducible refine (distaffref01_bit.calls a1 63 t132 _ A4.out).mono ?_); rintro e w' ⟨rfl, ⟨nd, rfl⟩⟩; refine ⟨_, rfl, ?_⟩) | ((with_reducible refine gate_callee (f := 37) rfl ?_); refine goesL_ (some 15) rfl rfl Try.func37 (by kernel_rfl) rfl #[.int .i64 a0, .int .i64 a1] rfl (by (try simp only [List.map_toArray, List.map_cons, List.map_nil]); first | done | rfl | (simp only [List.length_drop, List.length_take]; rfl)) ?_; (with_reducible refine (distaffref01_under.calls k a0 a1 t133 _ A6.out).mono ?_); rintro e w' ⟨rfl, ⟨nd, rfl⟩⟩; refine ⟨_, rfl, ?_⟩))
    go_ret
    exact ⟨by first | rfl | (simp; done) | (simp [*]; done), by repeat (first | exact Drawn0.refl _ | apply Drawn0.step)⟩
  · rw [if_neg c5] at H
    have c5b0 : (t131 == t132) = false := beq_eq_false_iff_ne.mpr c5
    have c5b1 : (t131 != t132) = true := bne_iff_ne.mpr c5
    replace H := Option.bind_eq_some_iff.mp H
    obtain ⟨t134, A70, H⟩ := H
    replace H : (some (t134 == 1)) = some r := H
    have A7 := Aside0.mk A70
    clear A70
    obtain rfl := Option.some.inj H
    go_enter Try.func38, Try.ntmps38
    go_wp2_with (first | ((with_reducible refine gate_callee (f := 35) rfl ?_); refine goesL_ (some 6) rfl rfl Try.func35 (by kernel_rfl) rfl #[.int .i64 a0, .int .i64 63] rfl (by (try simp only [List.map_toArray, List.map_cons, List.map_nil]); first | done | rfl | (simp only [List.length_drop, List.length_take]; rfl)) ?_; (with_reducible refine (distaffref01_bit.calls a0 63 t131 _ A3.out).mono ?_); rintro e w' ⟨rfl, ⟨nd, rfl⟩⟩; refine ⟨_, rfl, ?_⟩) | ((with_reducible refine gate_callee (f := 35) rfl ?_); refine goesL_ (some 8) rfl rfl Try.func35 (by kernel_rfl) rfl #[.int .i64 a1, .int .i64 63] rfl (by (try simp only [List.map_toArray, List.map_cons, List.map_nil]); first | done | rfl | (simp only [List.length_drop, List.length_take]; rfl)) ?_; (with_reducible refine (distaffref01_bit.calls a1 63 t132 _ A4.out).mono ?_); rintro e w' ⟨rfl, ⟨nd, rfl⟩⟩; refine ⟨_, rfl, ?_⟩) | ((with_reducible refine gate_callee (f := 35) rfl ?_); refine goesL_ (some 11) rfl rfl Try.func35 (by kernel_rfl) rfl #[.int .i64 a0, .int .i64 63] rfl (by (try simp only [List.map_toArray, List.map_cons, List.map_nil]); first | done | rfl | (simp only [List.length_drop, List.length_take]; rfl)) ?_; (with_reducible refine (distaffref01_bit.calls a0 63 t134 _ A7.out).mono ?_); rintro e w' ⟨rfl, ⟨nd, rfl⟩⟩; refine ⟨_, rfl, ?_⟩))
    go_ret
    exact ⟨by first | rfl | (simp; done) | (simp [*]; done), by repeat (first | exact Drawn0.refl _ | apply Drawn0.step)⟩

end Go.Proofs.Ytoojmpcpbnlkaaa.PArithKinds
