/- Contracts of the Go functions that the statement DependGcds reaches, part 3: what each answers, as a Lean function, and that the Go code answers just so. No further condition. -/
import Derived.Test.YtghdjomcojjkmaaMDependGcdsx0
import Derived.Test.YtghdjomcojjkmaaMDependGcdsx2
namespace Go.Proofs.Ytghdjomcojjkmaa.PDependGcds
open Go.RowKit Go.Proofs.YtghdjomcojjkmaaW.PrintWords Go.Proofs.YtghdjomcojjkmaaW.PrintLast Go.Proofs.YtghdjomcojjkmaaW.PrintMore
attribute [local go_sem] max2_int min2_int max_two min_two max_three min_three max_four min_four   -- for this text's walks alone
set_option linter.unusedVariables false
set_option linter.unusedSimpArgs false

/-! ### distafflaw28_DependGcds: function 8 -/
mutual
def distafflaw28_DependGcds.l0 : Nat → Int → Int → Int → Bool → Int → Option (Bool)
  | 0, _, _, _, _, _ => none
  | k + 1, x7, x8, x9, x10, x11 => if x11 ≤ 80 then (distafflaw28_DependGcds.l1 k x7 x8 x9 x10 x11 (-80)) else ((distafflaw28_awake.f k).bind fun t147 => (if t147 = true then ((depend_Gcd.f k (([x7, x8] : List Int)) x9).bind fun t151 => (if (t151 == x10) = true then ((depend_Gcd.f k ([] : List Int) x9).bind fun t152 => (if (t152 == (x9 == 0)) = true then ((depend_Gcd.f k (([x9] : List Int)) (wrap64 (3 * x9))).bind fun t156 => (some t156)) else (some false))) else (some false))) else (some false)))
def distafflaw28_DependGcds.l1 : Nat → Int → Int → Int → Bool → Int → Int → Option (Bool)
  | 0, _, _, _, _, _, _ => none
  | k + 1, x7, x8, x9, x10, x11, x12 => if x12 ≤ 80 then (if x10 = true then (distafflaw28_DependGcds.l1 k x7 x8 x9 true x11 (wrap64 (x12 + 1))) else (distafflaw28_DependGcds.l1 k x7 x8 x9 ((wrap64 ((wrap64 (x7 * x11)) + (wrap64 (x8 * x12)))) == x9) x11 (wrap64 (x12 + 1)))) else (distafflaw28_DependGcds.l0 k x7 x8 x9 x10 (wrap64 (x11 + 1)))
end
def distafflaw28_DependGcds.f (k : Nat) (a0 : Int) (a1 : Int) (a2 : Int) : Option (Bool) := distafflaw28_DependGcds.l0 k (wrap64 ((Go.bits .and .i64 a0 31) - 15)) (wrap64 ((Go.bits .and .i64 a1 31) - 15)) (wrap64 ((Go.bits .and .i64 a2 63) - 31)) false (-80)
theorem distafflaw28_DependGcds.mono_l : ∀ k, (∀ y0 y1 y2 y3 y4, LeO (distafflaw28_DependGcds.l0 k y0 y1 y2 y3 y4) (distafflaw28_DependGcds.l0 (k + 1) y0 y1 y2 y3 y4)) ∧ (∀ y0 y1 y2 y3 y4 y5, LeO (distafflaw28_DependGcds.l1 k y0 y1 y2 y3 y4 y5) (distafflaw28_DependGcds.l1 (k + 1) y0 y1 y2 y3 y4 y5))
  | 0 => ⟨fun _ _ _ _ _ r h => by simp [distafflaw28_DependGcds.l0] at h, fun _ _ _ _ _ _ r h => by simp [distafflaw28_DependGcds.l1] at h⟩
  | k + 1 => by
    obtain ⟨ih0, ih1⟩ := distafflaw28_DependGcds.mono_l k
    refine ⟨?_, ?_⟩
    · intro y0 y1 y2 y3 y4
      unfold distafflaw28_DependGcds.l0
      repeat' first
      | (with_reducible exact ih0 _ _ _ _ _)
      | (with_reducible exact ih1 _ _ _ _ _ _)
      | (with_reducible exact depend_Gcd.mono _ _ _)
      | (with_reducible exact distafflaw28_awake.mono _)
      | (with_reducible exact LeO.refl _)
      | (with_reducible exact LeO.none _)
      | (with_reducible refine LeO.ite ?_ ?_)
      | (with_reducible refine LeO.bind ?_ (fun _ => ?_))
      | exact ih0 _ _ _ _ _
      | exact ih1 _ _ _ _ _ _
      | exact depend_Gcd.mono _ _ _
      | exact distafflaw28_awake.mono _
      | exact LeO.none _
      | refine LeO.ite ?_ ?_
      | refine LeO.bind ?_ (fun _ => ?_)
    · intro y0 y1 y2 y3 y4 y5
      unfold distafflaw28_DependGcds.l1
      repeat' first
      | (with_reducible exact ih0 _ _ _ _ _)
      | (with_reducible exact ih1 _ _ _ _ _ _)
      | (with_reducible exact depend_Gcd.mono _ _ _)
      | (with_reducible exact distafflaw28_awake.mono _)
      | (with_reducible exact LeO.refl _)
      | (with_reducible exact LeO.none _)
      | (with_reducible refine LeO.ite ?_ ?_)
      | (with_reducible refine LeO.bind ?_ (fun _ => ?_))
      | exact ih0 _ _ _ _ _
      | exact ih1 _ _ _ _ _ _
      | exact depend_Gcd.mono _ _ _
      | exact distafflaw28_awake.mono _
      | exact LeO.none _
      | refine LeO.ite ?_ ?_
      | refine LeO.bind ?_ (fun _ => ?_)
theorem distafflaw28_DependGcds.mono : ∀ a0 a1 a2 k, LeO (distafflaw28_DependGcds.f k a0 a1 a2) (distafflaw28_DependGcds.f (k + 1) a0 a1 a2) := by
  intro a0 a1 a2 k
  obtain ⟨ih0, ih1⟩ := distafflaw28_DependGcds.mono_l k
  unfold distafflaw28_DependGcds.f
  repeat' first
      | (with_reducible exact ih0 _ _ _ _ _)
      | (with_reducible exact ih1 _ _ _ _ _ _)
      | (with_reducible exact depend_Gcd.mono _ _ _)
      | (with_reducible exact distafflaw28_awake.mono _)
      | (with_reducible exact LeO.refl _)
      | (with_reducible exact LeO.none _)
      | (with_reducible refine LeO.ite ?_ ?_)
      | (with_reducible refine LeO.bind ?_ (fun _ => ?_))
      | exact ih0 _ _ _ _ _
      | exact ih1 _ _ _ _ _ _
      | exact depend_Gcd.mono _ _ _
      | exact distafflaw28_awake.mono _
      | exact LeO.none _
      | refine LeO.ite ?_ ?_
      | refine LeO.bind ?_ (fun _ => ?_)
set_option maxHeartbeats 8000000 in
set_option maxRecDepth 100000 in
theorem distafflaw28_DependGcds.calls (k : Nat) (a0 : Int) (a1 : Int) (a2 : Int) (r : Bool) (w : World) (h : distafflaw28_DependGcds.f k a0 a1 a2 = some r) :
    Calls Try.prog 8 #[.int .i64 a0, .int .i64 a1, .int .i64 a2] w fun e w' => e = .returned (.bool r) ∧ Below w.heap.size w w' := by
  have HB := Aside0.mk (Below.refl w.heap.size w)
  have H : (distafflaw28_DependGcds.l0 k (wrap64 ((Go.bits .and .i64 a0 31) - 15)) (wrap64 ((Go.bits .and .i64 a1 31) - 15)) (wrap64 ((Go.bits .and .i64 a2 63) - 31)) false (-80)) = some r := h
  clear h
  have H' := Aside0.mk H
  clear H
  go_enter Try.func8, Try.ntmps8
  go_wp2
  go_loopg [10, 11] k (fun kq v10 v11 w' => ∃ (x10_1 : Bool) (x11_1 : Int), v10 = .bool x10_1 ∧ v11 = .int .i64 x11_1 ∧ Aside0 (distafflaw28_DependGcds.l0 kq (wrap64 ((Go.bits .and .i64 a0 31) - 15)) (wrap64 ((Go.bits .and .i64 a1 31) - 15)) (wrap64 ((Go.bits .and .i64 a2 63) - 31)) x10_1 x11_1 = some r) ∧ Aside0 (kq ≤ k) ∧ Aside0 (Below w.heap.size w w'))
  case atStart => exact ⟨(false), ((-80)), (by first | rfl | (simp; done) | (simp [*]; done)), (by first | rfl | (simp; done) | (simp [*]; done)), H', ⟨Nat.le_refl _⟩, ⟨by repeat (first | (with_reducible first | exact HB.out | apply below_alloc | apply pw_below_drewN | apply below_drew1) | exact HB.out)⟩⟩
  case round =>
    clear H'
    try clear p2
    obtain ⟨x10_1, x11_1, rfl, rfl, HA, HK1, HB⟩ := hrel
    cases gk with
    | zero => exact absurd HA.out (by simp [distafflaw28_DependGcds.l0])
    | succ k1 =>
      have H := HA.out
      clear HA
      simp only [distafflaw28_DependGcds.l0] at H
      by_cases c4 : x11_1 ≤ 80
      · rw [if_pos c4] at H
        have c4b0 : decide (x11_1 ≤ 80) = true := decide_eq_true c4
        clear c4
        have H' := Aside0.mk H
        clear H
        go_wp2
        go_loopg [10, 12] k1 (fun kq v10 v12 w' => ∃ (x10_2 : Bool) (x12_2 : Int), v10 = .bool x10_2 ∧ v12 = .int .i64 x12_2 ∧ Aside0 (distafflaw28_DependGcds.l1 kq (wrap64 ((Go.bits .and .i64 a0 31) - 15)) (wrap64 ((Go.bits .and .i64 a1 31) - 15)) (wrap64 ((Go.bits .and .i64 a2 63) - 31)) x10_2 x11_1 x12_2 = some r) ∧ Aside0 (kq ≤ k1) ∧ Aside0 (Below w.heap.size w w'))
        case atStart => exact ⟨(x10_1), ((-80)), (by first | rfl | (simp; done) | (simp [*]; done)), (by first | rfl | (simp; done) | (simp [*]; done)), H', ⟨Nat.le_refl _⟩, ⟨by repeat (first | (with_reducible first | exact HB.out | apply below_alloc | apply pw_below_drewN | apply below_drew1) | exact HB.out)⟩⟩
        case round =>
          clear H'
          try clear p2
          try clear c4
          try clear c4b0
          try clear p2
          obtain ⟨x10_2, x12_2, rfl, rfl, HA, HK2, HB⟩ := hrel
          cases gk with
          | zero => exact absurd HA.out (by simp [distafflaw28_DependGcds.l1])
          | succ k2 =>
            have H := HA.out
            clear HA
            simp only [distafflaw28_DependGcds.l1] at H
            by_cases c5 : x12_2 ≤ 80
            · rw [if_pos c5] at H
              have c5b0 : decide (x12_2 ≤ 80) = true := decide_eq_true c5
              clear c5
              by_cases c6 : x10_2 = true
              · subst c6
                have H1 : (distafflaw28_DependGcds.l1 k2 (wrap64 ((Go.bits .and .i64 a0 31) - 15)) (wrap64 ((Go.bits .and .i64 a1 31) - 15)) (wrap64 ((Go.bits .and .i64 a2 63) - 31)) true x11_1 (wrap64 (x12_2 + 1))) = some r := by rw [if_pos rfl] at H; exact H
                clear H
                have H := H1
                clear H1
                have H' := Aside0.mk H
                clear H
                go_wp2
                go_roundg k2
                case measure => have := HK1.out; have := HK2.out; omega
                case rel => exact ⟨(true), (wrap64 (x12_2 + 1)), (by first | rfl | (simp; done) | (simp [*]; done)), (by first | rfl | (simp; done) | (simp [*]; done)), H', ⟨by have := HK1.out; have := HK2.out; omega⟩, ⟨by repeat (first | (with_reducible first | exact HB.out | apply below_alloc | apply pw_below_drewN | apply below_drew1) | exact HB.out)⟩⟩
              · replace c6 := Bool.eq_false_iff.mpr c6
                subst c6
                have H1 : (distafflaw28_DependGcds.l1 k2 (wrap64 ((Go.bits .and .i64 a0 31) - 15)) (wrap64 ((Go.bits .and .i64 a1 31) - 15)) (wrap64 ((Go.bits .and .i64 a2 63) - 31)) ((wrap64 ((wrap64 ((wrap64 ((Go.bits .and .i64 a0 31) - 15)) * x11_1)) + (wrap64 ((wrap64 ((Go.bits .and .i64 a1 31) - 15)) * x12_2)))) == (wrap64 ((Go.bits .and .i64 a2 63) - 31))) x11_1 (wrap64 (x12_2 + 1))) = some r := by rw [if_neg (show ¬ (false = true) by decide)] at H; exact H
                clear H
                have H := H1
                clear H1
                have H' := Aside0.mk H
                clear H
                go_wp2
                go_roundg k2
                case measure => have := HK1.out; have := HK2.out; omega
                case rel => exact ⟨(((wrap64 ((wrap64 ((wrap64 ((Go.bits .and .i64 a0 31) - 15)) * x11_1)) + (wrap64 ((wrap64 ((Go.bits .and .i64 a1 31) - 15)) * x12_2)))) == (wrap64 ((Go.bits .and .i64 a2 63) - 31)))), (wrap64 (x12_2 + 1)), (by first | rfl | (simp; done) | (simp [*]; done)), (by first | rfl | (simp; done) | (simp [*]; done)), H', ⟨by have := HK1.out; have := HK2.out; omega⟩, ⟨by repeat (first | (with_reducible first | exact HB.out | apply below_alloc | apply pw_below_drewN | apply below_drew1) | exact HB.out)⟩⟩
            · rw [if_neg c5] at H
              have c5b0 : decide (x12_2 ≤ 80) = false := decide_eq_false c5
              clear c5
              have H' := Aside0.mk H
              clear H
              go_wp2
              go_roundg k2
              case measure => have := HK1.out; have := HK2.out; omega
              case rel => exact ⟨(x10_2), (wrap64 (x11_1 + 1)), (by first | rfl | (simp; done) | (simp [*]; done)), (by first | rfl | (simp; done) | (simp [*]; done)), H', ⟨by have := HK1.out; have := HK2.out; omega⟩, ⟨by repeat (first | (with_reducible first | exact HB.out | apply below_alloc | apply pw_below_drewN | apply below_drew1) | exact HB.out)⟩⟩
      · rw [if_neg c4] at H
        have c4b0 : decide (x11_1 ≤ 80) = false := decide_eq_false c4
        clear c4
        replace H := Option.bind_eq_some_iff.mp H
        obtain ⟨t147, A70, H⟩ := H
        replace H : (if t147 = true then ((depend_Gcd.f k1 (([(wrap64 ((Go.bits .and .i64 a0 31) - 15)), (wrap64 ((Go.bits .and .i64 a1 31) - 15))] : List Int)) (wrap64 ((Go.bits .and .i64 a2 63) - 31))).bind fun t151 => (if (t151 == x10_1) = true then ((depend_Gcd.f k1 ([] : List Int) (wrap64 ((Go.bits .and .i64 a2 63) - 31))).bind fun t152 => (if (t152 == ((wrap64 ((Go.bits .and .i64 a2 63) - 31)) == 0)) = true then ((depend_Gcd.f k1 (([(wrap64 ((Go.bits .and .i64 a2 63) - 31))] : List Int)) (wrap64 (3 * (wrap64 ((Go.bits .and .i64 a2 63) - 31))))).bind fun t156 => (some t156)) else (some false))) else (some false))) else (some false)) = some r := H
        have A7 := Aside0.mk A70
        clear A70
        by_cases c8 : t147 = true
        · subst c8
          have H1 : ((depend_Gcd.f k1 (([(wrap64 ((Go.bits .and .i64 a0 31) - 15)), (wrap64 ((Go.bits .and .i64 a1 31) - 15))] : List Int)) (wrap64 ((Go.bits .and .i64 a2 63) - 31))).bind fun t151 => (if (t151 == x10_1) = true then ((depend_Gcd.f k1 ([] : List Int) (wrap64 ((Go.bits .and .i64 a2 63) - 31))).bind fun t152 => (if (t152 == ((wrap64 ((Go.bits .and .i64 a2 63) - 31)) == 0)) = true then ((depend_Gcd.f k1 (([(wrap64 ((Go.bits .and .i64 a2 63) - 31))] : List Int)) (wrap64 (3 * (wrap64 ((Go.bits .and .i64 a2 63) - 31))))).bind fun t156 => (some t156)) else (some false))) else (some false))) = some r := by rw [if_pos rfl] at H; exact H
          clear H
          have H := H1
          clear H1
          obtain ⟨y148, hy148⟩ : ∃ y_ : List Int, y_ = (([(wrap64 ((Go.bits .and .i64 a0 31) - 15)), (wrap64 ((Go.bits .and .i64 a1 31) - 15))] : List Int)) := ⟨_, rfl⟩
          replace H : ((depend_Gcd.f k1 y148 (wrap64 ((Go.bits .and .i64 a2 63) - 31))).bind fun t151 => (if (t151 == x10_1) = true then ((depend_Gcd.f k1 ([] : List Int) (wrap64 ((Go.bits .and .i64 a2 63) - 31))).bind fun t152 => (if (t152 == ((wrap64 ((Go.bits .and .i64 a2 63) - 31)) == 0)) = true then ((depend_Gcd.f k1 (([(wrap64 ((Go.bits .and .i64 a2 63) - 31))] : List Int)) (wrap64 (3 * (wrap64 ((Go.bits .and .i64 a2 63) - 31))))).bind fun t156 => (some t156)) else (some false))) else (some false))) = some r := by first | (rw [hy148]; with_reducible exact H) | (have H2_ := (Option.bind_some _ _).symm.trans H; rw [hy148]; with_reducible exact H2_) | (have H2_ := (Option.bind_some _ _).symm.trans H; with_reducible exact H2_) | with_reducible exact H | (rw [hy148]; exact H) | exact H
          have Ny148 := Aside0.mk hy148
          clear hy148
          replace H := Option.bind_eq_some_iff.mp H
          obtain ⟨t151, A90, H⟩ := H
          replace H : (if (t151 == x10_1) = true then ((depend_Gcd.f k1 ([] : List Int) (wrap64 ((Go.bits .and .i64 a2 63) - 31))).bind fun t152 => (if (t152 == ((wrap64 ((Go.bits .and .i64 a2 63) - 31)) == 0)) = true then ((depend_Gcd.f k1 (([(wrap64 ((Go.bits .and .i64 a2 63) - 31))] : List Int)) (wrap64 (3 * (wrap64 ((Go.bits .and .i64 a2 63) - 31))))).bind fun t156 => (some t156)) else (some false))) else (some false)) = some r := H
          have A9 := Aside0.mk A90
          clear A90
          by_cases c10 : (t151 == x10_1) = true
          · rw [if_pos c10] at H
            have c10b0 : (t151 == x10_1) = true := c10
            (try (have c10b1 : decide (t151 = x10_1) = true := by simpa using c10))
            (try (have c10b2 : (t151 == x10_1) = true := by simpa using c10))
            clear c10
            replace H := Option.bind_eq_some_iff.mp H
            obtain ⟨t152, A110, H⟩ := H
            replace H : (if (t152 == ((wrap64 ((Go.bits .and .i64 a2 63) - 31)) == 0)) = true then ((depend_Gcd.f k1 (([(wrap64 ((Go.bits .and .i64 a2 63) - 31))] : List Int)) (wrap64 (3 * (wrap64 ((Go.bits .and .i64 a2 63) - 31))))).bind fun t156 => (some t156)) else (some false)) = some r := H
            have A11 := Aside0.mk A110
            clear A110
            by_cases c12 : (t152 == ((wrap64 ((Go.bits .and .i64 a2 63) - 31)) == 0)) = true
            · rw [if_pos c12] at H
              have c12b0 : (t152 == ((wrap64 ((Go.bits .and .i64 a2 63) - 31)) == 0)) = true := c12
              (try (have c12b1 : decide (t152 = ((wrap64 ((Go.bits .and .i64 a2 63) - 31)) == 0)) = true := by simpa using c12))
              (try (have c12b2 : (t152 == ((wrap64 ((Go.bits .and .i64 a2 63) - 31)) == 0)) = true := by simpa using c12))
              clear c12
              obtain ⟨y153, hy153⟩ : ∃ y_ : List Int, y_ = (([(wrap64 ((Go.bits .and .i64 a2 63) - 31))] : List Int)) := ⟨_, rfl⟩
              replace H : ((depend_Gcd.f k1 y153 (wrap64 (3 * (wrap64 ((Go.bits .and .i64 a2 63) - 31))))).bind fun t156 => (some t156)) = some r := by first | (rw [hy153]; with_reducible exact H) | (have H2_ := (Option.bind_some _ _).symm.trans H; rw [hy153]; with_reducible exact H2_) | (have H2_ := (Option.bind_some _ _).symm.trans H; with_reducible exact H2_) | with_reducible exact H | (rw [hy153]; exact H) | exact H
              have Ny153 := Aside0.mk hy153
              clear hy153
              replace H := Option.bind_eq_some_iff.mp H
              obtain ⟨t156, A130, H⟩ := H
              replace H : (some t156) = some r := H
              have A13 := Aside0.mk A130
              clear A130
              obtain rfl := Option.some.inj H
              go_wp2_with (first | ((with_reducible refine gate_callee (f := 10) rfl ?_); refine goesL_ (some 42) rfl rfl Try.func10 (by kernel_rfl) rfl #[] rfl (by (try simp only [List.map_toArray, List.map_cons, List.map_nil]); first | done | rfl | (simp only [List.length_drop, List.length_take]; rfl)) ?_; (with_reducible refine (distafflaw28_awake.calls k1  true _ A7.out).mono ?_); rintro e w14 ⟨rfl, hb⟩; refine ⟨_, rfl, ?_⟩; have n0_ := Aside0.mk (below_step (by repeat (first | (with_reducible first | exact HB.out | apply below_alloc | apply pw_below_drewN | apply below_drew1) | exact HB.out)) hb); clear HB; have HB := n0_; clear n0_; (try clear hb); (try clear hb2); (try clear hk); (try clear hi)) | ((with_reducible refine gate_dst (N := 46) rfl ?_); (try (refine gate_guard (by rfl) ?_; dsimp only)); refine Kd.R_lit (Kd.int .i64) _ 2 ?hg (N := 46) ?hd (xs := ([(wrap64 ((Go.bits .and .i64 a0 31) - 15)), (wrap64 ((Go.bits .and .i64 a1 31) - 15))] : List Int)) (inner := [.int .i64 (wrap64 ((Go.bits .and .i64 a0 31) - 15)), .int .i64 (wrap64 ((Go.bits .and .i64 a1 31) - 15))]) (ok := fun _ => True) (okp := fun _ => True) ?hr ?hp (fun _ hk => hk) trivial (Below.refl _ _) (Nat.le_refl _) (by simp) ?_; (case hd => rfl); (case hg => rfl); (case hr => first | (go_simp; done) | (go_simp; rfl)); (case hp => exact (Reps.one (show Kd.M (Kd.int .i64) _ _ _ (wrap64 ((Go.bits .and .i64 a0 31) - 15)) [.int .i64 (wrap64 ((Go.bits .and .i64 a0 31) - 15))] from rfl) (Reps.one (show Kd.M (Kd.int .i64) _ _ _ (wrap64 ((Go.bits .and .i64 a1 31) - 15)) [.int .i64 (wrap64 ((Go.bits .and .i64 a1 31) - 15))] from rfl) (Reps.none _ _)))); intro v149 w15 ho16 hb hg_ hnew_; clear hg_ hnew_; (first | rw [← Ny148.out] at ho16 | (simp only [Int.reduceToNat] at ho16; rw [← Ny148.out] at ho16)); have n0_ := Aside0.mk (Kd.R_lower ho16 (below_size (by repeat (first | (with_reducible first | exact HB.out | apply below_alloc | apply pw_below_drewN | apply below_drew1) | exact HB.out)))); have n1_ := Aside0.mk (below_step (by repeat (first | (with_reducible first | exact HB.out | apply below_alloc | apply pw_below_drewN | apply below_drew1) | exact HB.out)) hb); clear HB; have HO150 := n0_; have HB := n1_; clear n0_ n1_; clear hb ho16; obtain ⟨Ao17, co17, eo17⟩ := Kd.R_slice HO150.out; subst eo17) | (go_at_call 16; (with_reducible refine (depend_Gcd.calls k1 _ _ y148 (wrap64 ((Go.bits .and .i64 a2 63) - 31)) t151 _ ?side1 ?side2 A9.out).mono ?_); (case side1 => repeat (first | exact (Kd.R_reads' HO150.out).2.2 | (with_reducible refine Kd.C_alloc ?_ _) | (with_reducible refine Kd.C_drewN ?_ _) | (with_reducible refine Kd.C_drew ?_))); (case side2 => exact (Kd.R_reads' HO150.out).2.1); rintro e w' ⟨rfl, ⟨nd, rfl⟩⟩) | ((with_reducible refine gate_dst (N := 61) rfl ?_); (try (refine gate_guard (by rfl) ?_; dsimp only)); refine Kd.R_lit (Kd.int .i64) _ 2 ?hg (N := 61) ?hd (xs := ([(wrap64 ((Go.bits .and .i64 a2 63) - 31))] : List Int)) (inner := [.int .i64 (wrap64 ((Go.bits .and .i64 a2 63) - 31))]) (ok := fun _ => True) (okp := fun _ => True) ?hr ?hp (fun _ hk => hk) trivial (Below.refl _ _) (Nat.le_refl _) (by simp) ?_; (case hd => rfl); (case hg => rfl); (case hr => first | (go_simp; done) | (go_simp; rfl)); (case hp => exact (Reps.one (show Kd.M (Kd.int .i64) _ _ _ (wrap64 ((Go.bits .and .i64 a2 63) - 31)) [.int .i64 (wrap64 ((Go.bits .and .i64 a2 63) - 31))] from rfl) (Reps.none _ _))); intro v154 w18 ho19 hb hg_ hnew_; clear hg_ hnew_; (first | rw [← Ny153.out] at ho19 | (simp only [Int.reduceToNat] at ho19; rw [← Ny153.out] at ho19)); have n0_ := Aside0.mk (Kd.R_elder' (by (with_reducible repeat (first | apply Kd.R_alloc | apply Kd.R_drewN | apply Kd.R_drew)); exact HO150.out) (Kd.R_base ho19) hb); have n1_ := Aside0.mk (Kd.R_lower (Kd.R_new' ho19 (Kd.R_lt (by (with_reducible repeat (first | apply Kd.R_alloc | apply Kd.R_drewN | apply Kd.R_drew)); exact HO150.out))) (below_size (by repeat (first | (with_reducible first | exact HB.out | apply below_alloc | apply pw_below_drewN | apply below_drew1) | exact HB.out)))); have n2_ := Aside0.mk (below_step (by repeat (first | (with_reducible first | exact HB.out | apply below_alloc | apply pw_below_drewN | apply below_drew1) | exact HB.out)) hb); clear HO150; clear HB; have HO150 := n0_; have HO155 := n1_; have HB := n2_; clear n0_ n1_ n2_; clear hb ho19; obtain ⟨Ao20, co20, eo20⟩ := Kd.R_slice HO155.out; subst eo20) | (go_at_call 16; (with_reducible refine (depend_Gcd.calls k1 _ _ y153 (wrap64 (3 * (wrap64 ((Go.bits .and .i64 a2 63) - 31)))) t156 _ ?side1 ?side2 A13.out).mono ?_); (case side1 => repeat (first | exact (Kd.R_reads' HO155.out).2.2 | (with_reducible refine Kd.C_alloc ?_ _) | (with_reducible refine Kd.C_drewN ?_ _) | (with_reducible refine Kd.C_drew ?_))); (case side2 => exact (Kd.R_reads' HO155.out).2.1); rintro e w' ⟨rfl, ⟨nd, rfl⟩⟩) | (go_at_call 16; (refine (depend_Gcd.calls k1 _ _ ([] : List Int) (wrap64 ((Go.bits .and .i64 a2 63) - 31)) t152 _ ?side1 ?side2 A11.out).mono ?_); (case side1 => exact Kd.C_nil _ _); (case side2 => exact Nat.le_refl _); rintro e w' ⟨rfl, ⟨nd, rfl⟩⟩))
              go_ret
              exact ⟨by first | rfl | (simp [errW_none, errW_some] <;> rfl) | (simp [*, errW_none, errW_some] <;> rfl), by repeat (first | (with_reducible first | exact HB.out | apply below_alloc | apply pw_below_drewN | apply below_drew1) | exact HB.out)⟩
            · rw [if_neg c12] at H
              have c12b0 : (t152 == ((wrap64 ((Go.bits .and .i64 a2 63) - 31)) == 0)) = false := by simpa using c12
              (try (have c12b1 : decide (t152 = ((wrap64 ((Go.bits .and .i64 a2 63) - 31)) == 0)) = false := by simpa using c12))
              (try (have c12b2 : (t152 == ((wrap64 ((Go.bits .and .i64 a2 63) - 31)) == 0)) = false := by simpa using c12))
              (try (have c12b3 : ¬ (t152 = ((wrap64 ((Go.bits .and .i64 a2 63) - 31)) == 0)) := by simpa using c12))
              clear c12
              obtain rfl := Option.some.inj H
              go_wp2_with (first | ((with_reducible refine gate_callee (f := 10) rfl ?_); refine goesL_ (some 42) rfl rfl Try.func10 (by kernel_rfl) rfl #[] rfl (by (try simp only [List.map_toArray, List.map_cons, List.map_nil]); first | done | rfl | (simp only [List.length_drop, List.length_take]; rfl)) ?_; (with_reducible refine (distafflaw28_awake.calls k1  true _ A7.out).mono ?_); rintro e w21 ⟨rfl, hb⟩; refine ⟨_, rfl, ?_⟩; have n0_ := Aside0.mk (below_step (by repeat (first | (with_reducible first | exact HB.out | apply below_alloc | apply pw_below_drewN | apply below_drew1) | exact HB.out)) hb); clear HB; have HB := n0_; clear n0_; (try clear hb); (try clear hb2); (try clear hk); (try clear hi)) | ((with_reducible refine gate_dst (N := 46) rfl ?_); (try (refine gate_guard (by rfl) ?_; dsimp only)); refine Kd.R_lit (Kd.int .i64) _ 2 ?hg (N := 46) ?hd (xs := ([(wrap64 ((Go.bits .and .i64 a0 31) - 15)), (wrap64 ((Go.bits .and .i64 a1 31) - 15))] : List Int)) (inner := [.int .i64 (wrap64 ((Go.bits .and .i64 a0 31) - 15)), .int .i64 (wrap64 ((Go.bits .and .i64 a1 31) - 15))]) (ok := fun _ => True) (okp := fun _ => True) ?hr ?hp (fun _ hk => hk) trivial (Below.refl _ _) (Nat.le_refl _) (by simp) ?_; (case hd => rfl); (case hg => rfl); (case hr => first | (go_simp; done) | (go_simp; rfl)); (case hp => exact (Reps.one (show Kd.M (Kd.int .i64) _ _ _ (wrap64 ((Go.bits .and .i64 a0 31) - 15)) [.int .i64 (wrap64 ((Go.bits .and .i64 a0 31) - 15))] from rfl) (Reps.one (show Kd.M (Kd.int .i64) _ _ _ (wrap64 ((Go.bits .and .i64 a1 31) - 15)) [.int .i64 (wrap64 ((Go.bits .and .i64 a1 31) - 15))] from rfl) (Reps.none _ _)))); intro v149 w22 ho23 hb hg_ hnew_; clear hg_ hnew_; (first | rw [← Ny148.out] at ho23 | (simp only [Int.reduceToNat] at ho23; rw [← Ny148.out] at ho23)); have n0_ := Aside0.mk (Kd.R_lower ho23 (below_size (by repeat (first | (with_reducible first | exact HB.out | apply below_alloc | apply pw_below_drewN | apply below_drew1) | exact HB.out)))); have n1_ := Aside0.mk (below_step (by repeat (first | (with_reducible first | exact HB.out | apply below_alloc | apply pw_below_drewN | apply below_drew1) | exact HB.out)) hb); clear HB; have HO150 := n0_; have HB := n1_; clear n0_ n1_; clear hb ho23; obtain ⟨Ao24, co24, eo24⟩ := Kd.R_slice HO150.out; subst eo24) | (go_at_call 16; (with_reducible refine (depend_Gcd.calls k1 _ _ y148 (wrap64 ((Go.bits .and .i64 a2 63) - 31)) t151 _ ?side1 ?side2 A9.out).mono ?_); (case side1 => repeat (first | exact (Kd.R_reads' HO150.out).2.2 | (with_reducible refine Kd.C_alloc ?_ _) | (with_reducible refine Kd.C_drewN ?_ _) | (with_reducible refine Kd.C_drew ?_))); (case side2 => exact (Kd.R_reads' HO150.out).2.1); rintro e w' ⟨rfl, ⟨nd, rfl⟩⟩) | (go_at_call 16; (refine (depend_Gcd.calls k1 _ _ ([] : List Int) (wrap64 ((Go.bits .and .i64 a2 63) - 31)) t152 _ ?side1 ?side2 A11.out).mono ?_); (case side1 => exact Kd.C_nil _ _); (case side2 => exact Nat.le_refl _); rintro e w' ⟨rfl, ⟨nd, rfl⟩⟩))
              go_ret
              exact ⟨by first | rfl | (simp [errW_none, errW_some] <;> rfl) | (simp [*, errW_none, errW_some] <;> rfl), by repeat (first | (with_reducible first | exact HB.out | apply below_alloc | apply pw_below_drewN | apply below_drew1) | exact HB.out)⟩
          · rw [if_neg c10] at H
            have c10b0 : (t151 == x10_1) = false := by simpa using c10
            (try (have c10b1 : decide (t151 = x10_1) = false := by simpa using c10))
            (try (have c10b2 : (t151 == x10_1) = false := by simpa using c10))
            (try (have c10b3 : ¬ (t151 = x10_1) := by simpa using c10))
            clear c10
            obtain rfl := Option.some.inj H
            go_wp2_with (first | ((with_reducible refine gate_callee (f := 10) rfl ?_); refine goesL_ (some 42) rfl rfl Try.func10 (by kernel_rfl) rfl #[] rfl (by (try simp only [List.map_toArray, List.map_cons, List.map_nil]); first | done | rfl | (simp only [List.length_drop, List.length_take]; rfl)) ?_; (with_reducible refine (distafflaw28_awake.calls k1  true _ A7.out).mono ?_); rintro e w25 ⟨rfl, hb⟩; refine ⟨_, rfl, ?_⟩; have n0_ := Aside0.mk (below_step (by repeat (first | (with_reducible first | exact HB.out | apply below_alloc | apply pw_below_drewN | apply below_drew1) | exact HB.out)) hb); clear HB; have HB := n0_; clear n0_; (try clear hb); (try clear hb2); (try clear hk); (try clear hi)) | ((with_reducible refine gate_dst (N := 46) rfl ?_); (try (refine gate_guard (by rfl) ?_; dsimp only)); refine Kd.R_lit (Kd.int .i64) _ 2 ?hg (N := 46) ?hd (xs := ([(wrap64 ((Go.bits .and .i64 a0 31) - 15)), (wrap64 ((Go.bits .and .i64 a1 31) - 15))] : List Int)) (inner := [.int .i64 (wrap64 ((Go.bits .and .i64 a0 31) - 15)), .int .i64 (wrap64 ((Go.bits .and .i64 a1 31) - 15))]) (ok := fun _ => True) (okp := fun _ => True) ?hr ?hp (fun _ hk => hk) trivial (Below.refl _ _) (Nat.le_refl _) (by simp) ?_; (case hd => rfl); (case hg => rfl); (case hr => first | (go_simp; done) | (go_simp; rfl)); (case hp => exact (Reps.one (show Kd.M (Kd.int .i64) _ _ _ (wrap64 ((Go.bits .and .i64 a0 31) - 15)) [.int .i64 (wrap64 ((Go.bits .and .i64 a0 31) - 15))] from rfl) (Reps.one (show Kd.M (Kd.int .i64) _ _ _ (wrap64 ((Go.bits .and .i64 a1 31) - 15)) [.int .i64 (wrap64 ((Go.bits .and .i64 a1 31) - 15))] from rfl) (Reps.none _ _)))); intro v149 w26 ho27 hb hg_ hnew_; clear hg_ hnew_; (first | rw [← Ny148.out] at ho27 | (simp only [Int.reduceToNat] at ho27; rw [← Ny148.out] at ho27)); have n0_ := Aside0.mk (Kd.R_lower ho27 (below_size (by repeat (first | (with_reducible first | exact HB.out | apply below_alloc | apply pw_below_drewN | apply below_drew1) | exact HB.out)))); have n1_ := Aside0.mk (below_step (by repeat (first | (with_reducible first | exact HB.out | apply below_alloc | apply pw_below_drewN | apply below_drew1) | exact HB.out)) hb); clear HB; have HO150 := n0_; have HB := n1_; clear n0_ n1_; clear hb ho27; obtain ⟨Ao28, co28, eo28⟩ := Kd.R_slice HO150.out; subst eo28) | (go_at_call 16; (with_reducible refine (depend_Gcd.calls k1 _ _ y148 (wrap64 ((Go.bits .and .i64 a2 63) - 31)) t151 _ ?side1 ?side2 A9.out).mono ?_); (case side1 => repeat (first | exact (Kd.R_reads' HO150.out).2.2 | (with_reducible refine Kd.C_alloc ?_ _) | (with_reducible refine Kd.C_drewN ?_ _) | (with_reducible refine Kd.C_drew ?_))); (case side2 => exact (Kd.R_reads' HO150.out).2.1); rintro e w' ⟨rfl, ⟨nd, rfl⟩⟩))
            go_ret
            exact ⟨by first | rfl | (simp [errW_none, errW_some] <;> rfl) | (simp [*, errW_none, errW_some] <;> rfl), by repeat (first | (with_reducible first | exact HB.out | apply below_alloc | apply pw_below_drewN | apply below_drew1) | exact HB.out)⟩
        · replace c8 := Bool.eq_false_iff.mpr c8
          subst c8
          have H1 : (some false) = some r := by rw [if_neg (show ¬ (false = true) by decide)] at H; exact H
          clear H
          have H := H1
          clear H1
          obtain rfl := Option.some.inj H
          go_wp2_with (first | ((with_reducible refine gate_callee (f := 10) rfl ?_); refine goesL_ (some 42) rfl rfl Try.func10 (by kernel_rfl) rfl #[] rfl (by (try simp only [List.map_toArray, List.map_cons, List.map_nil]); first | done | rfl | (simp only [List.length_drop, List.length_take]; rfl)) ?_; (with_reducible refine (distafflaw28_awake.calls k1  false _ A7.out).mono ?_); rintro e w29 ⟨rfl, hb⟩; refine ⟨_, rfl, ?_⟩; have n0_ := Aside0.mk (below_step (by repeat (first | (with_reducible first | exact HB.out | apply below_alloc | apply pw_below_drewN | apply below_drew1) | exact HB.out)) hb); clear HB; have HB := n0_; clear n0_; (try clear hb); (try clear hb2); (try clear hk); (try clear hi)))
          go_ret
          exact ⟨by first | rfl | (simp [errW_none, errW_some] <;> rfl) | (simp [*, errW_none, errW_some] <;> rfl), by repeat (first | (with_reducible first | exact HB.out | apply below_alloc | apply pw_below_drewN | apply below_drew1) | exact HB.out)⟩

/-- THE ONE PURE STATEMENT of distafflaw28_DependGcds: yours. -/
def distafflaw28_DependGcds.Pure : Prop := ∀ (a0 : Int) (a1 : Int) (a2 : Int), (Lit.int .i64 a0).wf = true → (Lit.int .i64 a1).wf = true → (Lit.int .i64 a2).wf = true → ∃ k, distafflaw28_DependGcds.f k a0 a1 a2 = some true
theorem distafflaw28_DependGcds.walk (P : distafflaw28_DependGcds.Pure) (a0 : Int) (a1 : Int) (a2 : Int) (w : World) (w0 : (Lit.int .i64 a0).wf = true) (w1 : (Lit.int .i64 a1).wf = true) (w2 : (Lit.int .i64 a2).wf = true) :
    Calls Try.prog 8 #[.int .i64 a0, .int .i64 a1, .int .i64 a2] w fun e w' => e = .returned (.bool true) ∧ Below w.heap.size w w' := by
  obtain ⟨k, h⟩ := P a0 a1 a2 w0 w1 w2
  refine (distafflaw28_DependGcds.calls k a0 a1 a2 true w h).mono ?_
  rintro e w' ⟨rfl, hd⟩
  exact ⟨rfl, hd⟩

end Go.Proofs.Ytghdjomcojjkmaa.PDependGcds
