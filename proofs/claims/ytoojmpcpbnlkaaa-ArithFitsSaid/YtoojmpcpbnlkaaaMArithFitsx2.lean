/- Contracts of the Go functions that the statement ArithFits reaches, part 2: what each answers, as a Lean function, and that the Go code answers just so. No further condition. -/
import Derived.Test.YtoojmpcpbnlkaaaMArithFitsx0
import Derived.Test.YtoojmpcpbnlkaaaMArithFitsx1
namespace Go.Proofs.Ytoojmpcpbnlkaaa.PArithFits
open Go.RowKit Go.Proofs.YtoojmpcpbnlkaaaW.PrintWords Go.Proofs.YtoojmpcpbnlkaaaW.PrintLast Go.Proofs.YtoojmpcpbnlkaaaW.PrintMore
attribute [local go_sem] max2_int min2_int max_two min_two max_three min_three max_four min_four   -- for this text's walks alone
set_option linter.unusedVariables false
set_option linter.unusedSimpArgs false

/-! ### distafflaw01_ArithFits: function 7 -/
def distafflaw01_ArithFits.f (k : Nat) (a0 : Int) (a1 : Int) : Option (Bool) := (arith_Extend.f a0 a1).bind fun t117 => (if a1 < 1 then ((distafflaw01_awake.f k).bind fun t118 => (if t118 = true then ((arith_Fits.f a0 a1).bind fun t119 => (if t119 = true then (some false) else (some (t117 == 0)))) else (some false))) else (if a1 ≥ 64 then ((distafflaw01_awake.f k).bind fun t120 => (if t120 = true then ((arith_Fits.f a0 a1).bind fun t121 => (if t121 = true then (some (t117 == a0)) else (some false))) else (some false))) else (if 0 ≤ (IntKind.u64.wrap (wrap64 (a1 - 1))) then (if (Go.bits .and .i64 a0 (shl .i64 1 (IntKind.u64.wrap (wrap64 (a1 - 1))))) = 0 then ((distafflaw01_awake.f k).bind fun t122 => (if t122 = true then (if t117 = (Go.bits .and .i64 a0 (wrap64 ((shl .i64 1 (IntKind.u64.wrap (wrap64 (a1 - 1)))) - 1))) then ((arith_Fits.f a0 a1).bind fun t123 => (some (t123 == ((Go.bits .and .i64 a0 (wrap64 ((shl .i64 1 (IntKind.u64.wrap (wrap64 (a1 - 1)))) - 1))) == a0)))) else (some false)) else (some false))) else ((distafflaw01_awake.f k).bind fun t124 => (if t124 = true then (if t117 = (wrap64 ((Go.bits .and .i64 a0 (wrap64 ((shl .i64 1 (IntKind.u64.wrap (wrap64 (a1 - 1)))) - 1))) - (shl .i64 1 (IntKind.u64.wrap (wrap64 (a1 - 1)))))) then ((arith_Fits.f a0 a1).bind fun t125 => (some (t125 == ((wrap64 ((Go.bits .and .i64 a0 (wrap64 ((shl .i64 1 (IntKind.u64.wrap (wrap64 (a1 - 1)))) - 1))) - (shl .i64 1 (IntKind.u64.wrap (wrap64 (a1 - 1)))))) == a0)))) else (some false)) else (some false)))) else (none))))
theorem distafflaw01_ArithFits.mono : ∀ a0 a1 k, LeO (distafflaw01_ArithFits.f k a0 a1) (distafflaw01_ArithFits.f (k + 1) a0 a1) := by
  intro a0 a1 k
  unfold distafflaw01_ArithFits.f
  repeat' first
      | (with_reducible exact distafflaw01_awake.mono _)
      | (with_reducible exact LeO.refl _)
      | (with_reducible exact LeO.none _)
      | (with_reducible refine LeO.ite ?_ ?_)
      | (with_reducible refine LeO.bind ?_ (fun _ => ?_))
      | exact distafflaw01_awake.mono _
      | exact LeO.none _
      | refine LeO.ite ?_ ?_
      | refine LeO.bind ?_ (fun _ => ?_)
set_option maxHeartbeats 8000000 in
set_option maxRecDepth 100000 in
theorem distafflaw01_ArithFits.calls (k : Nat) (a0 : Int) (a1 : Int) (r : Bool) (w : World) (h : distafflaw01_ArithFits.f k a0 a1 = some r) :
    Calls Try.prog 7 #[.int .i64 a0, .int .i64 a1] w fun e w' => e = .returned (.bool r) ∧ Drawn0 w w' := by
  have H : ((arith_Extend.f a0 a1).bind fun t117 => (if a1 < 1 then ((distafflaw01_awake.f k).bind fun t118 => (if t118 = true then ((arith_Fits.f a0 a1).bind fun t119 => (if t119 = true then (some false) else (some (t117 == 0)))) else (some false))) else (if a1 ≥ 64 then ((distafflaw01_awake.f k).bind fun t120 => (if t120 = true then ((arith_Fits.f a0 a1).bind fun t121 => (if t121 = true then (some (t117 == a0)) else (some false))) else (some false))) else (if 0 ≤ (IntKind.u64.wrap (wrap64 (a1 - 1))) then (if (Go.bits .and .i64 a0 (shl .i64 1 (IntKind.u64.wrap (wrap64 (a1 - 1))))) = 0 then ((distafflaw01_awake.f k).bind fun t122 => (if t122 = true then (if t117 = (Go.bits .and .i64 a0 (wrap64 ((shl .i64 1 (IntKind.u64.wrap (wrap64 (a1 - 1)))) - 1))) then ((arith_Fits.f a0 a1).bind fun t123 => (some (t123 == ((Go.bits .and .i64 a0 (wrap64 ((shl .i64 1 (IntKind.u64.wrap (wrap64 (a1 - 1)))) - 1))) == a0)))) else (some false)) else (some false))) else ((distafflaw01_awake.f k).bind fun t124 => (if t124 = true then (if t117 = (wrap64 ((Go.bits .and .i64 a0 (wrap64 ((shl .i64 1 (IntKind.u64.wrap (wrap64 (a1 - 1)))) - 1))) - (shl .i64 1 (IntKind.u64.wrap (wrap64 (a1 - 1)))))) then ((arith_Fits.f a0 a1).bind fun t125 => (some (t125 == ((wrap64 ((Go.bits .and .i64 a0 (wrap64 ((shl .i64 1 (IntKind.u64.wrap (wrap64 (a1 - 1)))) - 1))) - (shl .i64 1 (IntKind.u64.wrap (wrap64 (a1 - 1)))))) == a0)))) else (some false)) else (some false)))) else (none))))) = some r := h
  clear h
  replace H := Option.bind_eq_some_iff.mp H
  obtain ⟨t117, A30, H⟩ := H
  replace H : (if a1 < 1 then ((distafflaw01_awake.f k).bind fun t118 => (if t118 = true then ((arith_Fits.f a0 a1).bind fun t119 => (if t119 = true then (some false) else (some (t117 == 0)))) else (some false))) else (if a1 ≥ 64 then ((distafflaw01_awake.f k).bind fun t120 => (if t120 = true then ((arith_Fits.f a0 a1).bind fun t121 => (if t121 = true then (some (t117 == a0)) else (some false))) else (some false))) else (if 0 ≤ (IntKind.u64.wrap (wrap64 (a1 - 1))) then (if (Go.bits .and .i64 a0 (shl .i64 1 (IntKind.u64.wrap (wrap64 (a1 - 1))))) = 0 then ((distafflaw01_awake.f k).bind fun t122 => (if t122 = true then (if t117 = (Go.bits .and .i64 a0 (wrap64 ((shl .i64 1 (IntKind.u64.wrap (wrap64 (a1 - 1)))) - 1))) then ((arith_Fits.f a0 a1).bind fun t123 => (some (t123 == ((Go.bits .and .i64 a0 (wrap64 ((shl .i64 1 (IntKind.u64.wrap (wrap64 (a1 - 1)))) - 1))) == a0)))) else (some false)) else (some false))) else ((distafflaw01_awake.f k).bind fun t124 => (if t124 = true then (if t117 = (wrap64 ((Go.bits .and .i64 a0 (wrap64 ((shl .i64 1 (IntKind.u64.wrap (wrap64 (a1 - 1)))) - 1))) - (shl .i64 1 (IntKind.u64.wrap (wrap64 (a1 - 1)))))) then ((arith_Fits.f a0 a1).bind fun t125 => (some (t125 == ((wrap64 ((Go.bits .and .i64 a0 (wrap64 ((shl .i64 1 (IntKind.u64.wrap (wrap64 (a1 - 1)))) - 1))) - (shl .i64 1 (IntKind.u64.wrap (wrap64 (a1 - 1)))))) == a0)))) else (some false)) else (some false)))) else (none)))) = some r := H
  have A3 := Aside0.mk A30
  clear A30
  by_cases c4 : a1 < 1
  · rw [if_pos c4] at H
    have c4b0 : decide (a1 < 1) = true := decide_eq_true c4
    clear c4
    replace H := Option.bind_eq_some_iff.mp H
    obtain ⟨t118, A50, H⟩ := H
    replace H : (if t118 = true then ((arith_Fits.f a0 a1).bind fun t119 => (if t119 = true then (some false) else (some (t117 == 0)))) else (some false)) = some r := H
    have A5 := Aside0.mk A50
    clear A50
    by_cases c6 : t118 = true
    · subst c6
      have H1 : ((arith_Fits.f a0 a1).bind fun t119 => (if t119 = true then (some false) else (some (t117 == 0)))) = some r := by rw [if_pos rfl] at H; exact H
      clear H
      have H := H1
      clear H1
      replace H := Option.bind_eq_some_iff.mp H
      obtain ⟨t119, A70, H⟩ := H
      replace H : (if t119 = true then (some false) else (some (t117 == 0))) = some r := H
      have A7 := Aside0.mk A70
      clear A70
      by_cases c8 : t119 = true
      · subst c8
        have H1 : (some false) = some r := by rw [if_pos rfl] at H; exact H
        clear H
        have H := H1
        clear H1
        obtain rfl := Option.some.inj H
        go_enter Try.func7, Try.ntmps7
        go_wp2_with (first | ((with_reducible refine gate_callee (f := 20) rfl ?_); refine goesL_ (some 10) rfl rfl Try.func20 (by kernel_rfl) rfl #[.int .i64 a0, .int .i64 a1] rfl (by (try simp only [List.map_toArray, List.map_cons, List.map_nil]); first | done | rfl | (simp only [List.length_drop, List.length_take]; rfl)) ?_; (with_reducible refine (arith_Extend.calls a0 a1 t117 _ A3.out).mono ?_); rintro e w' ⟨rfl, ⟨nd, rfl⟩⟩; refine ⟨_, rfl, ?_⟩) | ((with_reducible refine gate_callee (f := 13) rfl ?_); refine goesL_ (some 13) rfl rfl Try.func13 (by kernel_rfl) rfl #[] rfl (by (try simp only [List.map_toArray, List.map_cons, List.map_nil]); first | done | rfl | (simp only [List.length_drop, List.length_take]; rfl)) ?_; (with_reducible refine (distafflaw01_awake.calls k  true _ A5.out).mono ?_); rintro e w' ⟨rfl, ⟨nd, rfl⟩⟩; refine ⟨_, rfl, ?_⟩) | (go_at_call 21; (with_reducible refine (arith_Fits.calls a0 a1 true _ A7.out).mono ?_); rintro e w' ⟨rfl, ⟨nd, rfl⟩⟩))
        go_ret
        exact ⟨by first | rfl | (simp; done) | (simp [*]; done), by repeat (first | exact Drawn0.refl _ | apply Drawn0.step)⟩
      · replace c8 := Bool.eq_false_iff.mpr c8
        subst c8
        have H1 : (some (t117 == 0)) = some r := by rw [if_neg (show ¬ (false = true) by decide)] at H; exact H
        clear H
        have H := H1
        clear H1
        obtain rfl := Option.some.inj H
        go_enter Try.func7, Try.ntmps7
        go_wp2_with (first | ((with_reducible refine gate_callee (f := 20) rfl ?_); refine goesL_ (some 10) rfl rfl Try.func20 (by kernel_rfl) rfl #[.int .i64 a0, .int .i64 a1] rfl (by (try simp only [List.map_toArray, List.map_cons, List.map_nil]); first | done | rfl | (simp only [List.length_drop, List.length_take]; rfl)) ?_; (with_reducible refine (arith_Extend.calls a0 a1 t117 _ A3.out).mono ?_); rintro e w' ⟨rfl, ⟨nd, rfl⟩⟩; refine ⟨_, rfl, ?_⟩) | ((with_reducible refine gate_callee (f := 13) rfl ?_); refine goesL_ (some 13) rfl rfl Try.func13 (by kernel_rfl) rfl #[] rfl (by (try simp only [List.map_toArray, List.map_cons, List.map_nil]); first | done | rfl | (simp only [List.length_drop, List.length_take]; rfl)) ?_; (with_reducible refine (distafflaw01_awake.calls k  true _ A5.out).mono ?_); rintro e w' ⟨rfl, ⟨nd, rfl⟩⟩; refine ⟨_, rfl, ?_⟩) | (go_at_call 21; (with_reducible refine (arith_Fits.calls a0 a1 false _ A7.out).mono ?_); rintro e w' ⟨rfl, ⟨nd, rfl⟩⟩))
        go_ret
        exact ⟨by first | rfl | (simp; done) | (simp [*]; done), by repeat (first | exact Drawn0.refl _ | apply Drawn0.step)⟩
    · replace c6 := Bool.eq_false_iff.mpr c6
      subst c6
      have H1 : (some false) = some r := by rw [if_neg (show ¬ (false = true) by decide)] at H; exact H
      clear H
      have H := H1
      clear H1
      obtain rfl := Option.some.inj H
      go_enter Try.func7, Try.ntmps7
      go_wp2_with (first | ((with_reducible refine gate_callee (f := 20) rfl ?_); refine goesL_ (some 10) rfl rfl Try.func20 (by kernel_rfl) rfl #[.int .i64 a0, .int .i64 a1] rfl (by (try simp only [List.map_toArray, List.map_cons, List.map_nil]); first | done | rfl | (simp only [List.length_drop, List.length_take]; rfl)) ?_; (with_reducible refine (arith_Extend.calls a0 a1 t117 _ A3.out).mono ?_); rintro e w' ⟨rfl, ⟨nd, rfl⟩⟩; refine ⟨_, rfl, ?_⟩) | ((with_reducible refine gate_callee (f := 13) rfl ?_); refine goesL_ (some 13) rfl rfl Try.func13 (by kernel_rfl) rfl #[] rfl (by (try simp only [List.map_toArray, List.map_cons, List.map_nil]); first | done | rfl | (simp only [List.length_drop, List.length_take]; rfl)) ?_; (with_reducible refine (distafflaw01_awake.calls k  false _ A5.out).mono ?_); rintro e w' ⟨rfl, ⟨nd, rfl⟩⟩; refine ⟨_, rfl, ?_⟩))
      go_ret
      exact ⟨by first | rfl | (simp; done) | (simp [*]; done), by repeat (first | exact Drawn0.refl _ | apply Drawn0.step)⟩
  · rw [if_neg c4] at H
    have c4b0 : decide (a1 < 1) = false := decide_eq_false c4
    clear c4
    by_cases c9 : a1 ≥ 64
    · rw [if_pos c9] at H
      have c9b0 : decide (64 ≤ a1) = true := decide_eq_true c9
      clear c9
      replace H := Option.bind_eq_some_iff.mp H
      obtain ⟨t120, A100, H⟩ := H
      replace H : (if t120 = true then ((arith_Fits.f a0 a1).bind fun t121 => (if t121 = true then (some (t117 == a0)) else (some false))) else (some false)) = some r := H
      have A10 := Aside0.mk A100
      clear A100
      by_cases c11 : t120 = true
      · subst c11
        have H1 : ((arith_Fits.f a0 a1).bind fun t121 => (if t121 = true then (some (t117 == a0)) else (some false))) = some r := by rw [if_pos rfl] at H; exact H
        clear H
        have H := H1
        clear H1
        replace H := Option.bind_eq_some_iff.mp H
        obtain ⟨t121, A120, H⟩ := H
        replace H : (if t121 = true then (some (t117 == a0)) else (some false)) = some r := H
        have A12 := Aside0.mk A120
        clear A120
        by_cases c13 : t121 = true
        · subst c13
          have H1 : (some (t117 == a0)) = some r := by rw [if_pos rfl] at H; exact H
          clear H
          have H := H1
          clear H1
          obtain rfl := Option.some.inj H
          go_enter Try.func7, Try.ntmps7
          go_wp2_with (first | ((with_reducible refine gate_callee (f := 20) rfl ?_); refine goesL_ (some 10) rfl rfl Try.func20 (by kernel_rfl) rfl #[.int .i64 a0, .int .i64 a1] rfl (by (try simp only [List.map_toArray, List.map_cons, List.map_nil]); first | done | rfl | (simp only [List.length_drop, List.length_take]; rfl)) ?_; (with_reducible refine (arith_Extend.calls a0 a1 t117 _ A3.out).mono ?_); rintro e w' ⟨rfl, ⟨nd, rfl⟩⟩; refine ⟨_, rfl, ?_⟩) | ((with_reducible refine gate_callee (f := 13) rfl ?_); refine goesL_ (some 26) rfl rfl Try.func13 (by kernel_rfl) rfl #[] rfl (by (try simp only [List.map_toArray, List.map_cons, List.map_nil]); first | done | rfl | (simp only [List.length_drop, List.length_take]; rfl)) ?_; (with_reducible refine (distafflaw01_awake.calls k  true _ A10.out).mono ?_); rintro e w' ⟨rfl, ⟨nd, rfl⟩⟩; refine ⟨_, rfl, ?_⟩) | (go_at_call 21; (with_reducible refine (arith_Fits.calls a0 a1 true _ A12.out).mono ?_); rintro e w' ⟨rfl, ⟨nd, rfl⟩⟩))
          go_ret
          exact ⟨by first | rfl | (simp; done) | (simp [*]; done), by repeat (first | exact Drawn0.refl _ | apply Drawn0.step)⟩
        · replace c13 := Bool.eq_false_iff.mpr c13
          subst c13
          have H1 : (some false) = some r := by rw [if_neg (show ¬ (false = true) by decide)] at H; exact H
          clear H
          have H := H1
          clear H1
          obtain rfl := Option.some.inj H
          go_enter Try.func7, Try.ntmps7
          go_wp2_with (first | ((with_reducible refine gate_callee (f := 20) rfl ?_); refine goesL_ (some 10) rfl rfl Try.func20 (by kernel_rfl) rfl #[.int .i64 a0, .int .i64 a1] rfl (by (try simp only [List.map_toArray, List.map_cons, List.map_nil]); first | done | rfl | (simp only [List.length_drop, List.length_take]; rfl)) ?_; (with_reducible refine (arith_Extend.calls a0 a1 t117 _ A3.out).mono ?_); rintro e w' ⟨rfl, ⟨nd, rfl⟩⟩; refine ⟨_, rfl, ?_⟩) | ((with_reducible refine gate_callee (f := 13) rfl ?_); refine goesL_ (some 26) rfl rfl Try.func13 (by kernel_rfl) rfl #[] rfl (by (try simp only [List.map_toArray, List.map_cons, List.map_nil]); first | done | rfl | (simp only [List.length_drop, List.length_take]; rfl)) ?_; (with_reducible refine (distafflaw01_awake.calls k  true _ A10.out).mono ?_); rintro e w' ⟨rfl, ⟨nd, rfl⟩⟩; refine ⟨_, rfl, ?_⟩) | (go_at_call 21; (with_reducible refine (arith_Fits.calls a0 a1 false _ A12.out).mono ?_); rintro e w' ⟨rfl, ⟨nd, rfl⟩⟩))
          go_ret
          exact ⟨by first | rfl | (simp; done) | (simp [*]; done), by repeat (first | exact Drawn0.refl _ | apply Drawn0.step)⟩
      · replace c11 := Bool.eq_false_iff.mpr c11
        subst c11
        have H1 : (some false) = some r := by rw [if_neg (show ¬ (false = true) by decide)] at H; exact H
        clear H
        have H := H1
        clear H1
        obtain rfl := Option.some.inj H
        go_enter Try.func7, Try.ntmps7
        go_wp2_with (first | ((with_reducible refine gate_callee (f := 20) rfl ?_); refine goesL_ (some 10) rfl rfl Try.func20 (by kernel_rfl) rfl #[.int .i64 a0, .int .i64 a1] rfl (by (try simp only [List.map_toArray, List.map_cons, List.map_nil]); first | done | rfl | (simp only [List.length_drop, List.length_take]; rfl)) ?_; (with_reducible refine (arith_Extend.calls a0 a1 t117 _ A3.out).mono ?_); rintro e w' ⟨rfl, ⟨nd, rfl⟩⟩; refine ⟨_, rfl, ?_⟩) | ((with_reducible refine gate_callee (f := 13) rfl ?_); refine goesL_ (some 26) rfl rfl Try.func13 (by kernel_rfl) rfl #[] rfl (by (try simp only [List.map_toArray, List.map_cons, List.map_nil]); first | done | rfl | (simp only [List.length_drop, List.length_take]; rfl)) ?_; (with_reducible refine (distafflaw01_awake.calls k  false _ A10.out).mono ?_); rintro e w' ⟨rfl, ⟨nd, rfl⟩⟩; refine ⟨_, rfl, ?_⟩))
        go_ret
        exact ⟨by first | rfl | (simp; done) | (simp [*]; done), by repeat (first | exact Drawn0.refl _ | apply Drawn0.step)⟩
    · rw [if_neg c9] at H
      have c9b0 : decide (64 ≤ a1) = false := decide_eq_false c9
      clear c9
      obtain ⟨ji14, hji14⟩ : ∃ j_ : Int, (IntKind.u64.wrap (wrap64 (a1 - 1))) = j_ := ⟨_, rfl⟩
      replace H : (if 0 ≤ (ji14) then (if (Go.bits .and .i64 a0 (shl .i64 1 (ji14))) = 0 then ((distafflaw01_awake.f k).bind fun t122 => (if t122 = true then (if t117 = (Go.bits .and .i64 a0 (wrap64 ((shl .i64 1 (ji14)) - 1))) then ((arith_Fits.f a0 a1).bind fun t123 => (some (t123 == ((Go.bits .and .i64 a0 (wrap64 ((shl .i64 1 (ji14)) - 1))) == a0)))) else (some false)) else (some false))) else ((distafflaw01_awake.f k).bind fun t124 => (if t124 = true then (if t117 = (wrap64 ((Go.bits .and .i64 a0 (wrap64 ((shl .i64 1 (ji14)) - 1))) - (shl .i64 1 (ji14)))) then ((arith_Fits.f a0 a1).bind fun t125 => (some (t125 == ((wrap64 ((Go.bits .and .i64 a0 (wrap64 ((shl .i64 1 (ji14)) - 1))) - (shl .i64 1 (ji14)))) == a0)))) else (some false)) else (some false)))) else (none)) = some r := by first | (rw [hji14] at H; exact H) | (simp only [hji14] at H ⊢; exact H)
      (try rw [hji14] at A3)
      by_cases c15 : 0 ≤ (ji14)
      · rw [if_pos c15] at H
        have c15b0 := eq_true c15
        have c15b1 : decide (0 ≤ (ji14)) = true := decide_eq_true c15
        clear c15
        obtain ⟨ji16, hji16⟩ : ∃ j_ : Int, (shl .i64 1 (ji14)) = j_ := ⟨_, rfl⟩
        replace H : (if (Go.bits .and .i64 a0 (ji16)) = 0 then ((distafflaw01_awake.f k).bind fun t122 => (if t122 = true then (if t117 = (Go.bits .and .i64 a0 (wrap64 ((ji16) - 1))) then ((arith_Fits.f a0 a1).bind fun t123 => (some (t123 == ((Go.bits .and .i64 a0 (wrap64 ((ji16) - 1))) == a0)))) else (some false)) else (some false))) else ((distafflaw01_awake.f k).bind fun t124 => (if t124 = true then (if t117 = (wrap64 ((Go.bits .and .i64 a0 (wrap64 ((ji16) - 1))) - (ji16))) then ((arith_Fits.f a0 a1).bind fun t125 => (some (t125 == ((wrap64 ((Go.bits .and .i64 a0 (wrap64 ((ji16) - 1))) - (ji16))) == a0)))) else (some false)) else (some false)))) = some r := by first | (rw [hji16] at H; exact H) | (simp only [hji16] at H ⊢; exact H)
        (try rw [hji16] at A3)
        have hji16_ : (IntKind.i64.wrap (1 * 2 ^ min (ji14).toNat 64)) = ji16 := hji16
        have hji16z : (ji14) ≤ 64 → (IntKind.i64.wrap (1 * 2 ^ (ji14).toNat)) = ji16 := shl_small hji16
        have hji16u : (IntKind.i64.wrap (2 ^ min (ji14).toNat 64)) = ji16 := by have h_ := hji16_; rw [Int.one_mul] at h_; exact h_
        have hji16v : (ji14) ≤ 64 → (IntKind.i64.wrap (2 ^ (ji14).toNat)) = ji16 := fun hle_ => by have h_ := hji16z hle_; rw [Int.one_mul] at h_; exact h_
        have hji16y : (wrap64 (1 * 2 ^ min (ji14).toNat 64)) = ji16 := (i64_w _).symm.trans hji16_
        have hji16x : (ji14) ≤ 64 → (wrap64 (1 * 2 ^ (ji14).toNat)) = ji16 := fun h_ => (i64_w _).symm.trans (hji16z h_)
        by_cases c17 : (Go.bits .and .i64 a0 (ji16)) = 0
        · rw [if_pos c17] at H
          have c17b0 : ((Go.bits .and .i64 a0 (ji16)) == 0) = true := beq_iff_eq.mpr c17
          have c17b1 : ((Go.bits .and .i64 a0 (ji16)) != 0) = false := bne_eq_false_iff_eq.mpr c17
          clear c17
          replace H := Option.bind_eq_some_iff.mp H
          obtain ⟨t122, A180, H⟩ := H
          replace H : (if t122 = true then (if t117 = (Go.bits .and .i64 a0 (wrap64 ((ji16) - 1))) then ((arith_Fits.f a0 a1).bind fun t123 => (some (t123 == ((Go.bits .and .i64 a0 (wrap64 ((ji16) - 1))) == a0)))) else (some false)) else (some false)) = some r := H
          have A18 := Aside0.mk A180
          clear A180
          by_cases c19 : t122 = true
          · subst c19
            have H1 : (if t117 = (Go.bits .and .i64 a0 (wrap64 ((ji16) - 1))) then ((arith_Fits.f a0 a1).bind fun t123 => (some (t123 == ((Go.bits .and .i64 a0 (wrap64 ((ji16) - 1))) == a0)))) else (some false)) = some r := by rw [if_pos rfl] at H; exact H
            clear H
            have H := H1
            clear H1
            by_cases c20 : t117 = (Go.bits .and .i64 a0 (wrap64 ((ji16) - 1)))
            · rw [if_pos c20] at H
              have c20b0 : (t117 == (Go.bits .and .i64 a0 (wrap64 ((ji16) - 1)))) = true := beq_iff_eq.mpr c20
              have c20b1 : (t117 != (Go.bits .and .i64 a0 (wrap64 ((ji16) - 1)))) = false := bne_eq_false_iff_eq.mpr c20
              clear c20
              replace H := Option.bind_eq_some_iff.mp H
              obtain ⟨t123, A210, H⟩ := H
              replace H : (some (t123 == ((Go.bits .and .i64 a0 (wrap64 ((ji16) - 1))) == a0))) = some r := H
              have A21 := Aside0.mk A210
              clear A210
              obtain rfl := Option.some.inj H
              go_enter Try.func7, Try.ntmps7
              go_wp2_with (first | ((with_reducible refine gate_callee (f := 20) rfl ?_); refine goesL_ (some 10) rfl rfl Try.func20 (by kernel_rfl) rfl #[.int .i64 a0, .int .i64 a1] rfl (by (try simp only [List.map_toArray, List.map_cons, List.map_nil]); first | done | rfl | (simp only [List.length_drop, List.length_take]; rfl)) ?_; (with_reducible refine (arith_Extend.calls a0 a1 t117 _ A3.out).mono ?_); rintro e w' ⟨rfl, ⟨nd, rfl⟩⟩; refine ⟨_, rfl, ?_⟩) | ((with_reducible refine gate_callee (f := 13) rfl ?_); refine goesL_ (some 52) rfl rfl Try.func13 (by kernel_rfl) rfl #[] rfl (by (try simp only [List.map_toArray, List.map_cons, List.map_nil]); first | done | rfl | (simp only [List.length_drop, List.length_take]; rfl)) ?_; (with_reducible refine (distafflaw01_awake.calls k  true _ A18.out).mono ?_); rintro e w' ⟨rfl, ⟨nd, rfl⟩⟩; refine ⟨_, rfl, ?_⟩) | (go_at_call 21; (with_reducible refine (arith_Fits.calls a0 a1 t123 _ A21.out).mono ?_); rintro e w' ⟨rfl, ⟨nd, rfl⟩⟩))
              go_ret
              exact ⟨by first | rfl | (simp; done) | (simp only [← hji14, ← hji16] <;> (first | rfl | simp)) | (simp [*]; done), by repeat (first | exact Drawn0.refl _ | apply Drawn0.step)⟩
            · rw [if_neg c20] at H
              have c20b0 : (t117 == (Go.bits .and .i64 a0 (wrap64 ((ji16) - 1)))) = false := beq_eq_false_iff_ne.mpr c20
              have c20b1 : (t117 != (Go.bits .and .i64 a0 (wrap64 ((ji16) - 1)))) = true := bne_iff_ne.mpr c20
              obtain rfl := Option.some.inj H
              go_enter Try.func7, Try.ntmps7
              go_wp2_with (first | ((with_reducible refine gate_callee (f := 20) rfl ?_); refine goesL_ (some 10) rfl rfl Try.func20 (by kernel_rfl) rfl #[.int .i64 a0, .int .i64 a1] rfl (by (try simp only [List.map_toArray, List.map_cons, List.map_nil]); first | done | rfl | (simp only [List.length_drop, List.length_take]; rfl)) ?_; (with_reducible refine (arith_Extend.calls a0 a1 t117 _ A3.out).mono ?_); rintro e w' ⟨rfl, ⟨nd, rfl⟩⟩; refine ⟨_, rfl, ?_⟩) | ((with_reducible refine gate_callee (f := 13) rfl ?_); refine goesL_ (some 52) rfl rfl Try.func13 (by kernel_rfl) rfl #[] rfl (by (try simp only [List.map_toArray, List.map_cons, List.map_nil]); first | done | rfl | (simp only [List.length_drop, List.length_take]; rfl)) ?_; (with_reducible refine (distafflaw01_awake.calls k  true _ A18.out).mono ?_); rintro e w' ⟨rfl, ⟨nd, rfl⟩⟩; refine ⟨_, rfl, ?_⟩))
              go_ret
              exact ⟨by first | rfl | (simp; done) | (simp only [← hji14, ← hji16] <;> (first | rfl | simp)) | (simp [*]; done), by repeat (first | exact Drawn0.refl _ | apply Drawn0.step)⟩
          · replace c19 := Bool.eq_false_iff.mpr c19
            subst c19
            have H1 : (some false) = some r := by rw [if_neg (show ¬ (false = true) by decide)] at H; exact H
            clear H
            have H := H1
            clear H1
            obtain rfl := Option.some.inj H
            go_enter Try.func7, Try.ntmps7
            go_wp2_with (first | ((with_reducible refine gate_callee (f := 20) rfl ?_); refine goesL_ (some 10) rfl rfl Try.func20 (by kernel_rfl) rfl #[.int .i64 a0, .int .i64 a1] rfl (by (try simp only [List.map_toArray, List.map_cons, List.map_nil]); first | done | rfl | (simp only [List.length_drop, List.length_take]; rfl)) ?_; (with_reducible refine (arith_Extend.calls a0 a1 t117 _ A3.out).mono ?_); rintro e w' ⟨rfl, ⟨nd, rfl⟩⟩; refine ⟨_, rfl, ?_⟩) | ((with_reducible refine gate_callee (f := 13) rfl ?_); refine goesL_ (some 52) rfl rfl Try.func13 (by kernel_rfl) rfl #[] rfl (by (try simp only [List.map_toArray, List.map_cons, List.map_nil]); first | done | rfl | (simp only [List.length_drop, List.length_take]; rfl)) ?_; (with_reducible refine (distafflaw01_awake.calls k  false _ A18.out).mono ?_); rintro e w' ⟨rfl, ⟨nd, rfl⟩⟩; refine ⟨_, rfl, ?_⟩))
            go_ret
            exact ⟨by first | rfl | (simp; done) | (simp only [← hji14, ← hji16] <;> (first | rfl | simp)) | (simp [*]; done), by repeat (first | exact Drawn0.refl _ | apply Drawn0.step)⟩
        · rw [if_neg c17] at H
          have c17b0 : ((Go.bits .and .i64 a0 (ji16)) == 0) = false := beq_eq_false_iff_ne.mpr c17
          have c17b1 : ((Go.bits .and .i64 a0 (ji16)) != 0) = true := bne_iff_ne.mpr c17
          replace H := Option.bind_eq_some_iff.mp H
          obtain ⟨t124, A220, H⟩ := H
          replace H : (if t124 = true then (if t117 = (wrap64 ((Go.bits .and .i64 a0 (wrap64 ((ji16) - 1))) - (ji16))) then ((arith_Fits.f a0 a1).bind fun t125 => (some (t125 == ((wrap64 ((Go.bits .and .i64 a0 (wrap64 ((ji16) - 1))) - (ji16))) == a0)))) else (some false)) else (some false)) = some r := H
          have A22 := Aside0.mk A220
          clear A220
          by_cases c23 : t124 = true
          · subst c23
            have H1 : (if t117 = (wrap64 ((Go.bits .and .i64 a0 (wrap64 ((ji16) - 1))) - (ji16))) then ((arith_Fits.f a0 a1).bind fun t125 => (some (t125 == ((wrap64 ((Go.bits .and .i64 a0 (wrap64 ((ji16) - 1))) - (ji16))) == a0)))) else (some false)) = some r := by rw [if_pos rfl] at H; exact H
            clear H
            have H := H1
            clear H1
            by_cases c24 : t117 = (wrap64 ((Go.bits .and .i64 a0 (wrap64 ((ji16) - 1))) - (ji16)))
            · rw [if_pos c24] at H
              have c24b0 : (t117 == (wrap64 ((Go.bits .and .i64 a0 (wrap64 ((ji16) - 1))) - (ji16)))) = true := beq_iff_eq.mpr c24
              have c24b1 : (t117 != (wrap64 ((Go.bits .and .i64 a0 (wrap64 ((ji16) - 1))) - (ji16)))) = false := bne_eq_false_iff_eq.mpr c24
              clear c24
              replace H := Option.bind_eq_some_iff.mp H
              obtain ⟨t125, A250, H⟩ := H
              replace H : (some (t125 == ((wrap64 ((Go.bits .and .i64 a0 (wrap64 ((ji16) - 1))) - (ji16))) == a0))) = some r := H
              have A25 := Aside0.mk A250
              clear A250
              obtain rfl := Option.some.inj H
              go_enter Try.func7, Try.ntmps7
              go_wp2_with (first | ((with_reducible refine gate_callee (f := 20) rfl ?_); refine goesL_ (some 10) rfl rfl Try.func20 (by kernel_rfl) rfl #[.int .i64 a0, .int .i64 a1] rfl (by (try simp only [List.map_toArray, List.map_cons, List.map_nil]); first | done | rfl | (simp only [List.length_drop, List.length_take]; rfl)) ?_; (with_reducible refine (arith_Extend.calls a0 a1 t117 _ A3.out).mono ?_); rintro e w' ⟨rfl, ⟨nd, rfl⟩⟩; refine ⟨_, rfl, ?_⟩) | ((with_reducible refine gate_callee (f := 13) rfl ?_); refine goesL_ (some 52) rfl rfl Try.func13 (by kernel_rfl) rfl #[] rfl (by (try simp only [List.map_toArray, List.map_cons, List.map_nil]); first | done | rfl | (simp only [List.length_drop, List.length_take]; rfl)) ?_; (with_reducible refine (distafflaw01_awake.calls k  true _ A22.out).mono ?_); rintro e w' ⟨rfl, ⟨nd, rfl⟩⟩; refine ⟨_, rfl, ?_⟩) | (go_at_call 21; (with_reducible refine (arith_Fits.calls a0 a1 t125 _ A25.out).mono ?_); rintro e w' ⟨rfl, ⟨nd, rfl⟩⟩))
              go_ret
              exact ⟨by first | rfl | (simp; done) | (simp only [← hji14, ← hji16] <;> (first | rfl | simp)) | (simp [*]; done), by repeat (first | exact Drawn0.refl _ | apply Drawn0.step)⟩
            · rw [if_neg c24] at H
              have c24b0 : (t117 == (wrap64 ((Go.bits .and .i64 a0 (wrap64 ((ji16) - 1))) - (ji16)))) = false := beq_eq_false_iff_ne.mpr c24
              have c24b1 : (t117 != (wrap64 ((Go.bits .and .i64 a0 (wrap64 ((ji16) - 1))) - (ji16)))) = true := bne_iff_ne.mpr c24
              obtain rfl := Option.some.inj H
              go_enter Try.func7, Try.ntmps7
              go_wp2_with (first | ((with_reducible refine gate_callee (f := 20) rfl ?_); refine goesL_ (some 10) rfl rfl Try.func20 (by kernel_rfl) rfl #[.int .i64 a0, .int .i64 a1] rfl (by (try simp only [List.map_toArray, List.map_cons, List.map_nil]); first | done | rfl | (simp only [List.length_drop, List.length_take]; rfl)) ?_; (with_reducible refine (arith_Extend.calls a0 a1 t117 _ A3.out).mono ?_); rintro e w' ⟨rfl, ⟨nd, rfl⟩⟩; refine ⟨_, rfl, ?_⟩) | ((with_reducible refine gate_callee (f := 13) rfl ?_); refine goesL_ (some 52) rfl rfl Try.func13 (by kernel_rfl) rfl #[] rfl (by (try simp only [List.map_toArray, List.map_cons, List.map_nil]); first | done | rfl | (simp only [List.length_drop, List.length_take]; rfl)) ?_; (with_reducible refine (distafflaw01_awake.calls k  true _ A22.out).mono ?_); rintro e w' ⟨rfl, ⟨nd, rfl⟩⟩; refine ⟨_, rfl, ?_⟩))
              go_ret
              exact ⟨by first | rfl | (simp; done) | (simp only [← hji14, ← hji16] <;> (first | rfl | simp)) | (simp [*]; done), by repeat (first | exact Drawn0.refl _ | apply Drawn0.step)⟩
          · replace c23 := Bool.eq_false_iff.mpr c23
            subst c23
            have H1 : (some false) = some r := by rw [if_neg (show ¬ (false = true) by decide)] at H; exact H
            clear H
            have H := H1
            clear H1
            obtain rfl := Option.some.inj H
            go_enter Try.func7, Try.ntmps7
            go_wp2_with (first | ((with_reducible refine gate_callee (f := 20) rfl ?_); refine goesL_ (some 10) rfl rfl Try.func20 (by kernel_rfl) rfl #[.int .i64 a0, .int .i64 a1] rfl (by (try simp only [List.map_toArray, List.map_cons, List.map_nil]); first | done | rfl | (simp only [List.length_drop, List.length_take]; rfl)) ?_; (with_reducible refine (arith_Extend.calls a0 a1 t117 _ A3.out).mono ?_); rintro e w' ⟨rfl, ⟨nd, rfl⟩⟩; refine ⟨_, rfl, ?_⟩) | ((with_reducible refine gate_callee (f := 13) rfl ?_); refine goesL_ (some 52) rfl rfl Try.func13 (by kernel_rfl) rfl #[] rfl (by (try simp only [List.map_toArray, List.map_cons, List.map_nil]); first | done | rfl | (simp only [List.length_drop, List.length_take]; rfl)) ?_; (with_reducible refine (distafflaw01_awake.calls k  false _ A22.out).mono ?_); rintro e w' ⟨rfl, ⟨nd, rfl⟩⟩; refine ⟨_, rfl, ?_⟩))
            go_ret
            exact ⟨by first | rfl | (simp; done) | (simp only [← hji14, ← hji16] <;> (first | rfl | simp)) | (simp [*]; done), by repeat (first | exact Drawn0.refl _ | apply Drawn0.step)⟩
      · rw [if_neg c15] at H
        exact absurd H (by simp)

/-- THE ONE PURE STATEMENT of distafflaw01_ArithFits: yours. -/
def distafflaw01_ArithFits.Pure : Prop := ∀ (a0 : Int) (a1 : Int), (Lit.int .i64 a0).wf = true → (Lit.int .i64 a1).wf = true → ∃ k, distafflaw01_ArithFits.f k a0 a1 = some true
theorem distafflaw01_ArithFits.walk (P : distafflaw01_ArithFits.Pure) (a0 : Int) (a1 : Int) (w : World) (w0 : (Lit.int .i64 a0).wf = true) (w1 : (Lit.int .i64 a1).wf = true) :
    Calls Try.prog 7 #[.int .i64 a0, .int .i64 a1] w fun e w' => e = .returned (.bool true) ∧ Below w.heap.size w w' := by
  obtain ⟨k, h⟩ := P a0 a1 w0 w1
  refine (distafflaw01_ArithFits.calls k a0 a1 true w h).mono ?_
  rintro e w' ⟨rfl, hd⟩
  exact ⟨rfl, hd.below⟩

end Go.Proofs.Ytoojmpcpbnlkaaa.PArithFits
