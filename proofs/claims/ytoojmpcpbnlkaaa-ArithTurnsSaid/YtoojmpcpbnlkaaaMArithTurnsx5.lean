/- Contracts of the Go functions that the statement ArithTurns reaches, and its row: what each answers, as a Lean function, and that the Go code answers just so. No further condition. -/
import Derived.Test.YtoojmpcpbnlkaaaMArithTurnsx0
import Derived.Test.YtoojmpcpbnlkaaaMArithTurnsx2
import Derived.Test.YtoojmpcpbnlkaaaMArithTurnsx3
import Derived.Test.YtoojmpcpbnlkaaaMArithTurnsx4
namespace Go.Proofs.Ytoojmpcpbnlkaaa.PArithTurns
open Go.RowKit Go.Proofs.YtoojmpcpbnlkaaaW.PrintWords Go.Proofs.YtoojmpcpbnlkaaaW.PrintLast Go.Proofs.YtoojmpcpbnlkaaaW.PrintMore
attribute [local go_sem] max2_int min2_int max_two min_two max_three min_three max_four min_four   -- for this text's walks alone
set_option linter.unusedVariables false
set_option linter.unusedSimpArgs false

/-! ### distafflaw01_ArithTurns: function 9 -/
def distafflaw01_ArithTurns.j0 : Nat → Int → Int → Int → Bool → Int → Bool → Int → Bool → Bool → Option (Bool)
  | 0, _, _, _, _, _, _, _, _, _ => none
  | k + 1, x1, x2, x7, x8, x9, x10, x11, x12, x67 => if x67 = true then (some false) else ((distaffref01_Do.f k x9 x2 x1).bind fun bt175 => ((distaffref01_Do.f k x11 x1 x2).bind fun bt177 => ((distafflaw01_awake.f k).bind fun t179 => (if t179 = true then (if x10 = true then (if x8 = true then (if bt175.2 = true then (if x7 = bt175.1 then (if x12 = true then (if bt177.2 = true then (some ((wrap64 (x7 + bt177.1)) == 1)) else (some false)) else (if x11 = 0 then (some true) else (if bt177.2 = true then (some ((wrap64 (x7 + bt177.1)) == 1)) else (some false)))) else (some false)) else (some false)) else (some false)) else (if x9 = 0 then (if x12 = true then (if x8 = true then (if bt177.2 = true then (some ((wrap64 (x7 + bt177.1)) == 1)) else (some false)) else (some false)) else (if x11 = 0 then (some true) else (if x8 = true then (if bt177.2 = true then (some ((wrap64 (x7 + bt177.1)) == 1)) else (some false)) else (some false)))) else (if x8 = true then (if bt175.2 = true then (if x7 = bt175.1 then (if x12 = true then (if bt177.2 = true then (some ((wrap64 (x7 + bt177.1)) == 1)) else (some false)) else (if x11 = 0 then (some true) else (if bt177.2 = true then (some ((wrap64 (x7 + bt177.1)) == 1)) else (some false)))) else (some false)) else (some false)) else (some false)))) else (some false)))))
def distafflaw01_ArithTurns.f (k : Nat) (a0 : Int) (a1 : Int) (a2 : Int) : Option (Bool) := (distaffref01_Do.f k a0 a1 a2).bind fun bt169 => ((arith_Turned.f k a0).bind fun bt171 => ((arith_Against.f a0).bind fun bt173 => (if a0 = 4 then (if (bt171.2 != true) = true then (distafflaw01_ArithTurns.j0 k a1 a2 bt169.1 bt169.2 bt171.1 bt171.2 bt173.1 bt173.2 true) else (if a0 ≥ 17 then (distafflaw01_ArithTurns.j0 k a1 a2 bt169.1 bt169.2 bt171.1 bt171.2 bt173.1 bt173.2 (bt173.2 != (decide (a0 ≤ 22)))) else (distafflaw01_ArithTurns.j0 k a1 a2 bt169.1 bt169.2 bt171.1 bt171.2 bt173.1 bt173.2 (bt173.2 != false)))) else (if a0 = 6 then (if (bt171.2 != true) = true then (distafflaw01_ArithTurns.j0 k a1 a2 bt169.1 bt169.2 bt171.1 bt171.2 bt173.1 bt173.2 true) else (if a0 ≥ 17 then (distafflaw01_ArithTurns.j0 k a1 a2 bt169.1 bt169.2 bt171.1 bt171.2 bt173.1 bt173.2 (bt173.2 != (decide (a0 ≤ 22)))) else (distafflaw01_ArithTurns.j0 k a1 a2 bt169.1 bt169.2 bt171.1 bt171.2 bt173.1 bt173.2 (bt173.2 != false)))) else (if a0 ≥ 9 then (if a0 ≤ 11 then (if (bt171.2 != true) = true then (distafflaw01_ArithTurns.j0 k a1 a2 bt169.1 bt169.2 bt171.1 bt171.2 bt173.1 bt173.2 true) else (if a0 ≥ 17 then (distafflaw01_ArithTurns.j0 k a1 a2 bt169.1 bt169.2 bt171.1 bt171.2 bt173.1 bt173.2 (bt173.2 != (decide (a0 ≤ 22)))) else (distafflaw01_ArithTurns.j0 k a1 a2 bt169.1 bt169.2 bt171.1 bt171.2 bt173.1 bt173.2 (bt173.2 != false)))) else (if a0 ≥ 17 then (if (bt171.2 != (decide (a0 ≤ 22))) = true then (distafflaw01_ArithTurns.j0 k a1 a2 bt169.1 bt169.2 bt171.1 bt171.2 bt173.1 bt173.2 true) else (distafflaw01_ArithTurns.j0 k a1 a2 bt169.1 bt169.2 bt171.1 bt171.2 bt173.1 bt173.2 (bt173.2 != (decide (a0 ≤ 22))))) else (if (bt171.2 != false) = true then (distafflaw01_ArithTurns.j0 k a1 a2 bt169.1 bt169.2 bt171.1 bt171.2 bt173.1 bt173.2 true) else (distafflaw01_ArithTurns.j0 k a1 a2 bt169.1 bt169.2 bt171.1 bt171.2 bt173.1 bt173.2 (bt173.2 != false))))) else (if a0 ≥ 17 then (if (bt171.2 != (decide (a0 ≤ 22))) = true then (distafflaw01_ArithTurns.j0 k a1 a2 bt169.1 bt169.2 bt171.1 bt171.2 bt173.1 bt173.2 true) else (distafflaw01_ArithTurns.j0 k a1 a2 bt169.1 bt169.2 bt171.1 bt171.2 bt173.1 bt173.2 (bt173.2 != (decide (a0 ≤ 22))))) else (if (bt171.2 != false) = true then (distafflaw01_ArithTurns.j0 k a1 a2 bt169.1 bt169.2 bt171.1 bt171.2 bt173.1 bt173.2 true) else (distafflaw01_ArithTurns.j0 k a1 a2 bt169.1 bt169.2 bt171.1 bt171.2 bt173.1 bt173.2 (bt173.2 != false)))))))))
theorem distafflaw01_ArithTurns.mono_l : ∀ k, (∀ y0 y1 y2 y3 y4 y5 y6 y7 y8, LeO (distafflaw01_ArithTurns.j0 k y0 y1 y2 y3 y4 y5 y6 y7 y8) (distafflaw01_ArithTurns.j0 (k + 1) y0 y1 y2 y3 y4 y5 y6 y7 y8))
  | 0 => fun _ _ _ _ _ _ _ _ _ r h => by simp [distafflaw01_ArithTurns.j0] at h
  | k + 1 => by
    have ih0 := distafflaw01_ArithTurns.mono_l k
    · intro y0 y1 y2 y3 y4 y5 y6 y7 y8
      unfold distafflaw01_ArithTurns.j0
      repeat' first
      | (with_reducible exact ih0 _ _ _ _ _ _ _ _ _)
      | (with_reducible exact arith_Turned.mono _ _)
      | (with_reducible exact distafflaw01_awake.mono _)
      | (with_reducible exact distaffref01_Do.mono _ _ _ _)
      | (with_reducible exact LeO.refl _)
      | (with_reducible exact LeO.none _)
      | (with_reducible refine LeO.ite ?_ ?_)
      | (with_reducible refine LeO.bind ?_ (fun _ => ?_))
      | exact ih0 _ _ _ _ _ _ _ _ _
      | exact arith_Turned.mono _ _
      | exact distafflaw01_awake.mono _
      | exact distaffref01_Do.mono _ _ _ _
      | exact LeO.none _
      | refine LeO.ite ?_ ?_
      | refine LeO.bind ?_ (fun _ => ?_)
theorem distafflaw01_ArithTurns.mono : ∀ a0 a1 a2 k, LeO (distafflaw01_ArithTurns.f k a0 a1 a2) (distafflaw01_ArithTurns.f (k + 1) a0 a1 a2) := by
  intro a0 a1 a2 k
  have ih0 := distafflaw01_ArithTurns.mono_l k
  unfold distafflaw01_ArithTurns.f
  repeat' first
      | (with_reducible exact ih0 _ _ _ _ _ _ _ _ _)
      | (with_reducible exact arith_Turned.mono _ _)
      | (with_reducible exact distafflaw01_awake.mono _)
      | (with_reducible exact distaffref01_Do.mono _ _ _ _)
      | (with_reducible exact LeO.refl _)
      | (with_reducible exact LeO.none _)
      | (with_reducible refine LeO.ite ?_ ?_)
      | (with_reducible refine LeO.bind ?_ (fun _ => ?_))
      | exact ih0 _ _ _ _ _ _ _ _ _
      | exact arith_Turned.mono _ _
      | exact distafflaw01_awake.mono _
      | exact distaffref01_Do.mono _ _ _ _
      | exact LeO.none _
      | refine LeO.ite ?_ ?_
      | refine LeO.bind ?_ (fun _ => ?_)
set_option maxHeartbeats 8000000 in
set_option maxRecDepth 100000 in
theorem distafflaw01_ArithTurns.calls (k : Nat) (a0 : Int) (a1 : Int) (a2 : Int) (r : Bool) (w : World) (h : distafflaw01_ArithTurns.f k a0 a1 a2 = some r) :
    Calls Try.prog 9 #[.int .i64 a0, .int .i64 a1, .int .i64 a2] w fun e w' => e = .returned (.bool r) ∧ Below w.heap.size w w' := by
  have HB := Aside0.mk (Below.refl w.heap.size w)
  have H : ((distaffref01_Do.f k a0 a1 a2).bind fun bt169 => ((arith_Turned.f k a0).bind fun bt171 => ((arith_Against.f a0).bind fun bt173 => (if a0 = 4 then (if (bt171.2 != true) = true then (distafflaw01_ArithTurns.j0 k a1 a2 bt169.1 bt169.2 bt171.1 bt171.2 bt173.1 bt173.2 true) else (if a0 ≥ 17 then (distafflaw01_ArithTurns.j0 k a1 a2 bt169.1 bt169.2 bt171.1 bt171.2 bt173.1 bt173.2 (bt173.2 != (decide (a0 ≤ 22)))) else (distafflaw01_ArithTurns.j0 k a1 a2 bt169.1 bt169.2 bt171.1 bt171.2 bt173.1 bt173.2 (bt173.2 != false)))) else (if a0 = 6 then (if (bt171.2 != true) = true then (distafflaw01_ArithTurns.j0 k a1 a2 bt169.1 bt169.2 bt171.1 bt171.2 bt173.1 bt173.2 true) else (if a0 ≥ 17 then (distafflaw01_ArithTurns.j0 k a1 a2 bt169.1 bt169.2 bt171.1 bt171.2 bt173.1 bt173.2 (bt173.2 != (decide (a0 ≤ 22)))) else (distafflaw01_ArithTurns.j0 k a1 a2 bt169.1 bt169.2 bt171.1 bt171.2 bt173.1 bt173.2 (bt173.2 != false)))) else (if a0 ≥ 9 then (if a0 ≤ 11 then (if (bt171.2 != true) = true then (distafflaw01_ArithTurns.j0 k a1 a2 bt169.1 bt169.2 bt171.1 bt171.2 bt173.1 bt173.2 true) else (if a0 ≥ 17 then (distafflaw01_ArithTurns.j0 k a1 a2 bt169.1 bt169.2 bt171.1 bt171.2 bt173.1 bt173.2 (bt173.2 != (decide (a0 ≤ 22)))) else (distafflaw01_ArithTurns.j0 k a1 a2 bt169.1 bt169.2 bt171.1 bt171.2 bt173.1 bt173.2 (bt173.2 != false)))) else (if a0 ≥ 17 then (if (bt171.2 != (decide (a0 ≤ 22))) = true then (distafflaw01_ArithTurns.j0 k a1 a2 bt169.1 bt169.2 bt171.1 bt171.2 bt173.1 bt173.2 true) else (distafflaw01_ArithTurns.j0 k a1 a2 bt169.1 bt169.2 bt171.1 bt171.2 bt173.1 bt173.2 (bt173.2 != (decide (a0 ≤ 22))))) else (if (bt171.2 != false) = true then (distafflaw01_ArithTurns.j0 k a1 a2 bt169.1 bt169.2 bt171.1 bt171.2 bt173.1 bt173.2 true) else (distafflaw01_ArithTurns.j0 k a1 a2 bt169.1 bt169.2 bt171.1 bt171.2 bt173.1 bt173.2 (bt173.2 != false))))) else (if a0 ≥ 17 then (if (bt171.2 != (decide (a0 ≤ 22))) = true then (distafflaw01_ArithTurns.j0 k a1 a2 bt169.1 bt169.2 bt171.1 bt171.2 bt173.1 bt173.2 true) else (distafflaw01_ArithTurns.j0 k a1 a2 bt169.1 bt169.2 bt171.1 bt171.2 bt173.1 bt173.2 (bt173.2 != (decide (a0 ≤ 22))))) else (if (bt171.2 != false) = true then (distafflaw01_ArithTurns.j0 k a1 a2 bt169.1 bt169.2 bt171.1 bt171.2 bt173.1 bt173.2 true) else (distafflaw01_ArithTurns.j0 k a1 a2 bt169.1 bt169.2 bt171.1 bt171.2 bt173.1 bt173.2 (bt173.2 != false)))))))))) = some r := h
  clear h
  replace H := Option.bind_eq_some_iff.mp H
  obtain ⟨⟨t169, t170⟩, A40, H⟩ := H
  replace H : ((arith_Turned.f k a0).bind fun bt171 => ((arith_Against.f a0).bind fun bt173 => (if a0 = 4 then (if (bt171.2 != true) = true then (distafflaw01_ArithTurns.j0 k a1 a2 t169 t170 bt171.1 bt171.2 bt173.1 bt173.2 true) else (if a0 ≥ 17 then (distafflaw01_ArithTurns.j0 k a1 a2 t169 t170 bt171.1 bt171.2 bt173.1 bt173.2 (bt173.2 != (decide (a0 ≤ 22)))) else (distafflaw01_ArithTurns.j0 k a1 a2 t169 t170 bt171.1 bt171.2 bt173.1 bt173.2 (bt173.2 != false)))) else (if a0 = 6 then (if (bt171.2 != true) = true then (distafflaw01_ArithTurns.j0 k a1 a2 t169 t170 bt171.1 bt171.2 bt173.1 bt173.2 true) else (if a0 ≥ 17 then (distafflaw01_ArithTurns.j0 k a1 a2 t169 t170 bt171.1 bt171.2 bt173.1 bt173.2 (bt173.2 != (decide (a0 ≤ 22)))) else (distafflaw01_ArithTurns.j0 k a1 a2 t169 t170 bt171.1 bt171.2 bt173.1 bt173.2 (bt173.2 != false)))) else (if a0 ≥ 9 then (if a0 ≤ 11 then (if (bt171.2 != true) = true then (distafflaw01_ArithTurns.j0 k a1 a2 t169 t170 bt171.1 bt171.2 bt173.1 bt173.2 true) else (if a0 ≥ 17 then (distafflaw01_ArithTurns.j0 k a1 a2 t169 t170 bt171.1 bt171.2 bt173.1 bt173.2 (bt173.2 != (decide (a0 ≤ 22)))) else (distafflaw01_ArithTurns.j0 k a1 a2 t169 t170 bt171.1 bt171.2 bt173.1 bt173.2 (bt173.2 != false)))) else (if a0 ≥ 17 then (if (bt171.2 != (decide (a0 ≤ 22))) = true then (distafflaw01_ArithTurns.j0 k a1 a2 t169 t170 bt171.1 bt171.2 bt173.1 bt173.2 true) else (distafflaw01_ArithTurns.j0 k a1 a2 t169 t170 bt171.1 bt171.2 bt173.1 bt173.2 (bt173.2 != (decide (a0 ≤ 22))))) else (if (bt171.2 != false) = true then (distafflaw01_ArithTurns.j0 k a1 a2 t169 t170 bt171.1 bt171.2 bt173.1 bt173.2 true) else (distafflaw01_ArithTurns.j0 k a1 a2 t169 t170 bt171.1 bt171.2 bt173.1 bt173.2 (bt173.2 != false))))) else (if a0 ≥ 17 then (if (bt171.2 != (decide (a0 ≤ 22))) = true then (distafflaw01_ArithTurns.j0 k a1 a2 t169 t170 bt171.1 bt171.2 bt173.1 bt173.2 true) else (distafflaw01_ArithTurns.j0 k a1 a2 t169 t170 bt171.1 bt171.2 bt173.1 bt173.2 (bt173.2 != (decide (a0 ≤ 22))))) else (if (bt171.2 != false) = true then (distafflaw01_ArithTurns.j0 k a1 a2 t169 t170 bt171.1 bt171.2 bt173.1 bt173.2 true) else (distafflaw01_ArithTurns.j0 k a1 a2 t169 t170 bt171.1 bt171.2 bt173.1 bt173.2 (bt173.2 != false))))))))) = some r := H
  have A4 := Aside0.mk A40
  clear A40
  replace H := Option.bind_eq_some_iff.mp H
  obtain ⟨⟨t171, t172⟩, A50, H⟩ := H
  replace H : ((arith_Against.f a0).bind fun bt173 => (if a0 = 4 then (if (t172 != true) = true then (distafflaw01_ArithTurns.j0 k a1 a2 t169 t170 t171 t172 bt173.1 bt173.2 true) else (if a0 ≥ 17 then (distafflaw01_ArithTurns.j0 k a1 a2 t169 t170 t171 t172 bt173.1 bt173.2 (bt173.2 != (decide (a0 ≤ 22)))) else (distafflaw01_ArithTurns.j0 k a1 a2 t169 t170 t171 t172 bt173.1 bt173.2 (bt173.2 != false)))) else (if a0 = 6 then (if (t172 != true) = true then (distafflaw01_ArithTurns.j0 k a1 a2 t169 t170 t171 t172 bt173.1 bt173.2 true) else (if a0 ≥ 17 then (distafflaw01_ArithTurns.j0 k a1 a2 t169 t170 t171 t172 bt173.1 bt173.2 (bt173.2 != (decide (a0 ≤ 22)))) else (distafflaw01_ArithTurns.j0 k a1 a2 t169 t170 t171 t172 bt173.1 bt173.2 (bt173.2 != false)))) else (if a0 ≥ 9 then (if a0 ≤ 11 then (if (t172 != true) = true then (distafflaw01_ArithTurns.j0 k a1 a2 t169 t170 t171 t172 bt173.1 bt173.2 true) else (if a0 ≥ 17 then (distafflaw01_ArithTurns.j0 k a1 a2 t169 t170 t171 t172 bt173.1 bt173.2 (bt173.2 != (decide (a0 ≤ 22)))) else (distafflaw01_ArithTurns.j0 k a1 a2 t169 t170 t171 t172 bt173.1 bt173.2 (bt173.2 != false)))) else (if a0 ≥ 17 then (if (t172 != (decide (a0 ≤ 22))) = true then (distafflaw01_ArithTurns.j0 k a1 a2 t169 t170 t171 t172 bt173.1 bt173.2 true) else (distafflaw01_ArithTurns.j0 k a1 a2 t169 t170 t171 t172 bt173.1 bt173.2 (bt173.2 != (decide (a0 ≤ 22))))) else (if (t172 != false) = true then (distafflaw01_ArithTurns.j0 k a1 a2 t169 t170 t171 t172 bt173.1 bt173.2 true) else (distafflaw01_ArithTurns.j0 k a1 a2 t169 t170 t171 t172 bt173.1 bt173.2 (bt173.2 != false))))) else (if a0 ≥ 17 then (if (t172 != (decide (a0 ≤ 22))) = true then (distafflaw01_ArithTurns.j0 k a1 a2 t169 t170 t171 t172 bt173.1 bt173.2 true) else (distafflaw01_ArithTurns.j0 k a1 a2 t169 t170 t171 t172 bt173.1 bt173.2 (bt173.2 != (decide (a0 ≤ 22))))) else (if (t172 != false) = true then (distafflaw01_ArithTurns.j0 k a1 a2 t169 t170 t171 t172 bt173.1 bt173.2 true) else (distafflaw01_ArithTurns.j0 k a1 a2 t169 t170 t171 t172 bt173.1 bt173.2 (bt173.2 != false)))))))) = some r := H
  have A5 := Aside0.mk A50
  clear A50
  replace H := Option.bind_eq_some_iff.mp H
  obtain ⟨⟨t173, t174⟩, A60, H⟩ := H
  replace H : (if a0 = 4 then (if (t172 != true) = true then (distafflaw01_ArithTurns.j0 k a1 a2 t169 t170 t171 t172 t173 t174 true) else (if a0 ≥ 17 then (distafflaw01_ArithTurns.j0 k a1 a2 t169 t170 t171 t172 t173 t174 (t174 != (decide (a0 ≤ 22)))) else (distafflaw01_ArithTurns.j0 k a1 a2 t169 t170 t171 t172 t173 t174 (t174 != false)))) else (if a0 = 6 then (if (t172 != true) = true then (distafflaw01_ArithTurns.j0 k a1 a2 t169 t170 t171 t172 t173 t174 true) else (if a0 ≥ 17 then (distafflaw01_ArithTurns.j0 k a1 a2 t169 t170 t171 t172 t173 t174 (t174 != (decide (a0 ≤ 22)))) else (distafflaw01_ArithTurns.j0 k a1 a2 t169 t170 t171 t172 t173 t174 (t174 != false)))) else (if a0 ≥ 9 then (if a0 ≤ 11 then (if (t172 != true) = true then (distafflaw01_ArithTurns.j0 k a1 a2 t169 t170 t171 t172 t173 t174 true) else (if a0 ≥ 17 then (distafflaw01_ArithTurns.j0 k a1 a2 t169 t170 t171 t172 t173 t174 (t174 != (decide (a0 ≤ 22)))) else (distafflaw01_ArithTurns.j0 k a1 a2 t169 t170 t171 t172 t173 t174 (t174 != false)))) else (if a0 ≥ 17 then (if (t172 != (decide (a0 ≤ 22))) = true then (distafflaw01_ArithTurns.j0 k a1 a2 t169 t170 t171 t172 t173 t174 true) else (distafflaw01_ArithTurns.j0 k a1 a2 t169 t170 t171 t172 t173 t174 (t174 != (decide (a0 ≤ 22))))) else (if (t172 != false) = true then (distafflaw01_ArithTurns.j0 k a1 a2 t169 t170 t171 t172 t173 t174 true) else (distafflaw01_ArithTurns.j0 k a1 a2 t169 t170 t171 t172 t173 t174 (t174 != false))))) else (if a0 ≥ 17 then (if (t172 != (decide (a0 ≤ 22))) = true then (distafflaw01_ArithTurns.j0 k a1 a2 t169 t170 t171 t172 t173 t174 true) else (distafflaw01_ArithTurns.j0 k a1 a2 t169 t170 t171 t172 t173 t174 (t174 != (decide (a0 ≤ 22))))) else (if (t172 != false) = true then (distafflaw01_ArithTurns.j0 k a1 a2 t169 t170 t171 t172 t173 t174 true) else (distafflaw01_ArithTurns.j0 k a1 a2 t169 t170 t171 t172 t173 t174 (t174 != false))))))) = some r := H
  have A6 := Aside0.mk A60
  clear A60
  have HC7 := Aside0.mk H
  clear H
  go_enter Try.func9, Try.ntmps9
  go_upto_region 4 with (first | ((with_reducible refine gate_callee (f := 11) rfl ?_); refine goesL_ (some 21) rfl rfl Try.func11 (by kernel_rfl) rfl #[.int .i64 a0, .int .i64 a1, .int .i64 a2] rfl (by (try simp only [List.map_toArray, List.map_cons, List.map_nil]); first | done | rfl | (simp only [List.length_drop, List.length_take]; rfl)) ?_; (with_reducible refine (distaffref01_Do.calls k a0 a1 a2 t169 t170 _ A4.out).mono ?_); rintro e w8 ⟨rfl, hb⟩; refine ⟨_, rfl, ?_⟩; have n0_ := Aside0.mk (below_step (by repeat (first | (with_reducible first | exact HB.out | apply below_alloc | apply pw_below_drewN | apply below_drew1) | exact HB.out)) hb); clear HB; have HB := n0_; clear n0_; (try clear hb); (try clear hb2); (try clear hk); (try clear hi)) | ((with_reducible refine gate_callee (f := 26) rfl ?_); refine goesL_ (some 26) rfl rfl Try.func26 (by kernel_rfl) rfl #[.int .i64 a0] rfl (by (try simp only [List.map_toArray, List.map_cons, List.map_nil]); first | done | rfl | (simp only [List.length_drop, List.length_take]; rfl)) ?_; (with_reducible refine (arith_Turned.calls k a0 t171 t172 _ A5.out).mono ?_); rintro e w' ⟨rfl, ⟨nd, rfl⟩⟩; refine ⟨_, rfl, ?_⟩) | ((with_reducible refine gate_callee (f := 27) rfl ?_); refine goesL_ (some 31) rfl rfl Try.func27 (by kernel_rfl) rfl #[.int .i64 a0] rfl (by (try simp only [List.map_toArray, List.map_cons, List.map_nil]); first | done | rfl | (simp only [List.length_drop, List.length_take]; rfl)) ?_; (with_reducible refine (arith_Against.calls a0 t173 t174 _ A6.out).mono ?_); rintro e w' ⟨rfl, ⟨nd, rfl⟩⟩; refine ⟨_, rfl, ?_⟩))
  (try simp only [Act.put, List.setIfInBounds_toArray, List.set_cons_zero, List.set_cons_succ])
  go_cut [67] (fun v67 wc => ∃ (kq : Nat) (x67_6 : Bool), v67 = .bool x67_6 ∧ Aside0 (distafflaw01_ArithTurns.j0 kq a1 a2 t169 t170 t171 t172 t173 t174 x67_6 = some r) ∧ Aside0 (kq ≤ k) ∧ Aside0 (Below w.heap.size w wc))
  case first =>
    have H := HC7.out
    clear HC7
    by_cases c9 : a0 = 4
    · rw [if_pos c9] at H
      have c9b0 : (a0 == 4) = true := beq_iff_eq.mpr c9
      have c9b1 : (a0 != 4) = false := bne_eq_false_iff_eq.mpr c9
      clear c9
      (first | rw [c9b0] | (simp only [i64_w, i32_w]; rw [c9b0]) | skip)
      by_cases c10 : (t172 != true) = true
      · rw [if_pos c10] at H
        have c10b0 : (t172 != true) = true := c10
        (try (have c10b1 : decide (t172 = true) = false := by simpa using c10))
        (try (have c10b2 : (t172 == true) = false := by simpa using c10))
        (try (have c10b3 : ¬ (t172 = true) := by simpa using c10))
        clear c10
        have H' := Aside0.mk H
        clear H
        go_wp2
        go_meet
        case rel => exact ⟨_, (true), (by first | rfl | (simp; done) | (simp [*]; done)), H', ⟨by first | omega | exact Nat.le_refl _⟩, ⟨by repeat (first | (with_reducible first | exact HB.out | apply below_alloc | apply pw_below_drewN | apply below_drew1) | exact HB.out)⟩⟩
      · rw [if_neg c10] at H
        have c10b0 : (t172 != true) = false := by simpa using c10
        (try (have c10b1 : decide (t172 = true) = true := by simpa using c10))
        (try (have c10b2 : (t172 == true) = true := by simpa using c10))
        clear c10
        by_cases c11 : a0 ≥ 17
        · rw [if_pos c11] at H
          have c11b0 : decide (17 ≤ a0) = true := decide_eq_true c11
          clear c11
          have H' := Aside0.mk H
          clear H
          go_wp2
          go_meet
          case rel => exact ⟨_, ((t174 != (decide (a0 ≤ 22)))), (by first | rfl | (simp; done) | (simp [*]; done)), H', ⟨by first | omega | exact Nat.le_refl _⟩, ⟨by repeat (first | (with_reducible first | exact HB.out | apply below_alloc | apply pw_below_drewN | apply below_drew1) | exact HB.out)⟩⟩
        · rw [if_neg c11] at H
          have c11b0 : decide (17 ≤ a0) = false := decide_eq_false c11
          clear c11
          have H' := Aside0.mk H
          clear H
          go_wp2
          go_meet
          case rel => exact ⟨_, ((t174 != false)), (by first | rfl | (simp; done) | (simp [*]; done)), H', ⟨by first | omega | exact Nat.le_refl _⟩, ⟨by repeat (first | (with_reducible first | exact HB.out | apply below_alloc | apply pw_below_drewN | apply below_drew1) | exact HB.out)⟩⟩
    · rw [if_neg c9] at H
      have c9b0 : (a0 == 4) = false := beq_eq_false_iff_ne.mpr c9
      have c9b1 : (a0 != 4) = true := bne_iff_ne.mpr c9
      (first | rw [c9b0] | (simp only [i64_w, i32_w]; rw [c9b0]) | skip)
      by_cases c12 : a0 = 6
      · rw [if_pos c12] at H
        have c12b0 : (a0 == 6) = true := beq_iff_eq.mpr c12
        have c12b1 : (a0 != 6) = false := bne_eq_false_iff_eq.mpr c12
        clear c12
        by_cases c13 : (t172 != true) = true
        · rw [if_pos c13] at H
          have c13b0 : (t172 != true) = true := c13
          (try (have c13b1 : decide (t172 = true) = false := by simpa using c13))
          (try (have c13b2 : (t172 == true) = false := by simpa using c13))
          (try (have c13b3 : ¬ (t172 = true) := by simpa using c13))
          clear c13
          have H' := Aside0.mk H
          clear H
          go_wp2
          go_meet
          case rel => exact ⟨_, (true), (by first | rfl | (simp; done) | (simp [*]; done)), H', ⟨by first | omega | exact Nat.le_refl _⟩, ⟨by repeat (first | (with_reducible first | exact HB.out | apply below_alloc | apply pw_below_drewN | apply below_drew1) | exact HB.out)⟩⟩
        · rw [if_neg c13] at H
          have c13b0 : (t172 != true) = false := by simpa using c13
          (try (have c13b1 : decide (t172 = true) = true := by simpa using c13))
          (try (have c13b2 : (t172 == true) = true := by simpa using c13))
          clear c13
          by_cases c14 : a0 ≥ 17
          · rw [if_pos c14] at H
            have c14b0 : decide (17 ≤ a0) = true := decide_eq_true c14
            clear c14
            have H' := Aside0.mk H
            clear H
            go_wp2
            go_meet
            case rel => exact ⟨_, ((t174 != (decide (a0 ≤ 22)))), (by first | rfl | (simp; done) | (simp [*]; done)), H', ⟨by first | omega | exact Nat.le_refl _⟩, ⟨by repeat (first | (with_reducible first | exact HB.out | apply below_alloc | apply pw_below_drewN | apply below_drew1) | exact HB.out)⟩⟩
          · rw [if_neg c14] at H
            have c14b0 : decide (17 ≤ a0) = false := decide_eq_false c14
            clear c14
            have H' := Aside0.mk H
            clear H
            go_wp2
            go_meet
            case rel => exact ⟨_, ((t174 != false)), (by first | rfl | (simp; done) | (simp [*]; done)), H', ⟨by first | omega | exact Nat.le_refl _⟩, ⟨by repeat (first | (with_reducible first | exact HB.out | apply below_alloc | apply pw_below_drewN | apply below_drew1) | exact HB.out)⟩⟩
      · rw [if_neg c12] at H
        have c12b0 : (a0 == 6) = false := beq_eq_false_iff_ne.mpr c12
        have c12b1 : (a0 != 6) = true := bne_iff_ne.mpr c12
        by_cases c15 : a0 ≥ 9
        · rw [if_pos c15] at H
          have c15b0 : decide (9 ≤ a0) = true := decide_eq_true c15
          clear c15
          by_cases c16 : a0 ≤ 11
          · rw [if_pos c16] at H
            have c16b0 : decide (a0 ≤ 11) = true := decide_eq_true c16
            clear c16
            by_cases c17 : (t172 != true) = true
            · rw [if_pos c17] at H
              have c17b0 : (t172 != true) = true := c17
              (try (have c17b1 : decide (t172 = true) = false := by simpa using c17))
              (try (have c17b2 : (t172 == true) = false := by simpa using c17))
              (try (have c17b3 : ¬ (t172 = true) := by simpa using c17))
              clear c17
              have H' := Aside0.mk H
              clear H
              go_wp2
              go_meet
              case rel => exact ⟨_, (true), (by first | rfl | (simp; done) | (simp [*]; done)), H', ⟨by first | omega | exact Nat.le_refl _⟩, ⟨by repeat (first | (with_reducible first | exact HB.out | apply below_alloc | apply pw_below_drewN | apply below_drew1) | exact HB.out)⟩⟩
            · rw [if_neg c17] at H
              have c17b0 : (t172 != true) = false := by simpa using c17
              (try (have c17b1 : decide (t172 = true) = true := by simpa using c17))
              (try (have c17b2 : (t172 == true) = true := by simpa using c17))
              clear c17
              by_cases c18 : a0 ≥ 17
              · rw [if_pos c18] at H
                have c18b0 : decide (17 ≤ a0) = true := decide_eq_true c18
                clear c18
                have H' := Aside0.mk H
                clear H
                go_wp2
                go_meet
                case rel => exact ⟨_, ((t174 != (decide (a0 ≤ 22)))), (by first | rfl | (simp; done) | (simp [*]; done)), H', ⟨by first | omega | exact Nat.le_refl _⟩, ⟨by repeat (first | (with_reducible first | exact HB.out | apply below_alloc | apply pw_below_drewN | apply below_drew1) | exact HB.out)⟩⟩
              · rw [if_neg c18] at H
                have c18b0 : decide (17 ≤ a0) = false := decide_eq_false c18
                clear c18
                have H' := Aside0.mk H
                clear H
                go_wp2
                go_meet
                case rel => exact ⟨_, ((t174 != false)), (by first | rfl | (simp; done) | (simp [*]; done)), H', ⟨by first | omega | exact Nat.le_refl _⟩, ⟨by repeat (first | (with_reducible first | exact HB.out | apply below_alloc | apply pw_below_drewN | apply below_drew1) | exact HB.out)⟩⟩
          · rw [if_neg c16] at H
            have c16b0 : decide (a0 ≤ 11) = false := decide_eq_false c16
            clear c16
            by_cases c19 : a0 ≥ 17
            · rw [if_pos c19] at H
              have c19b0 : decide (17 ≤ a0) = true := decide_eq_true c19
              clear c19
              by_cases c20 : (t172 != (decide (a0 ≤ 22))) = true
              · rw [if_pos c20] at H
                have c20b0 : (t172 != (decide (a0 ≤ 22))) = true := c20
                (try (have c20b1 : decide (t172 = (decide (a0 ≤ 22))) = false := by simpa using c20))
                (try (have c20b2 : (t172 == (decide (a0 ≤ 22))) = false := by simpa using c20))
                (try (have c20b3 : ¬ (t172 = (decide (a0 ≤ 22))) := by simpa using c20))
                clear c20
                have H' := Aside0.mk H
                clear H
                go_wp2
                go_meet
                case rel => exact ⟨_, (true), (by first | rfl | (simp; done) | (simp [*]; done)), H', ⟨by first | omega | exact Nat.le_refl _⟩, ⟨by repeat (first | (with_reducible first | exact HB.out | apply below_alloc | apply pw_below_drewN | apply below_drew1) | exact HB.out)⟩⟩
              · rw [if_neg c20] at H
                have c20b0 : (t172 != (decide (a0 ≤ 22))) = false := by simpa using c20
                (try (have c20b1 : decide (t172 = (decide (a0 ≤ 22))) = true := by simpa using c20))
                (try (have c20b2 : (t172 == (decide (a0 ≤ 22))) = true := by simpa using c20))
                clear c20
                have H' := Aside0.mk H
                clear H
                go_wp2
                go_meet
                case rel => exact ⟨_, ((t174 != (decide (a0 ≤ 22)))), (by first | rfl | (simp; done) | (simp [*]; done)), H', ⟨by first | omega | exact Nat.le_refl _⟩, ⟨by repeat (first | (with_reducible first | exact HB.out | apply below_alloc | apply pw_below_drewN | apply below_drew1) | exact HB.out)⟩⟩
            · rw [if_neg c19] at H
              have c19b0 : decide (17 ≤ a0) = false := decide_eq_false c19
              clear c19
              by_cases c21 : (t172 != false) = true
              · rw [if_pos c21] at H
                have c21b0 : (t172 != false) = true := c21
                (try (have c21b1 : decide (t172 = false) = false := by simpa using c21))
                (try (have c21b2 : (t172 == false) = false := by simpa using c21))
                (try (have c21b3 : ¬ (t172 = false) := by simpa using c21))
                clear c21
                have H' := Aside0.mk H
                clear H
                go_wp2
                go_meet
                case rel => exact ⟨_, (true), (by first | rfl | (simp; done) | (simp [*]; done)), H', ⟨by first | omega | exact Nat.le_refl _⟩, ⟨by repeat (first | (with_reducible first | exact HB.out | apply below_alloc | apply pw_below_drewN | apply below_drew1) | exact HB.out)⟩⟩
              · rw [if_neg c21] at H
                have c21b0 : (t172 != false) = false := by simpa using c21
                (try (have c21b1 : decide (t172 = false) = true := by simpa using c21))
                (try (have c21b2 : (t172 == false) = true := by simpa using c21))
                clear c21
                have H' := Aside0.mk H
                clear H
                go_wp2
                go_meet
                case rel => exact ⟨_, ((t174 != false)), (by first | rfl | (simp; done) | (simp [*]; done)), H', ⟨by first | omega | exact Nat.le_refl _⟩, ⟨by repeat (first | (with_reducible first | exact HB.out | apply below_alloc | apply pw_below_drewN | apply below_drew1) | exact HB.out)⟩⟩
        · rw [if_neg c15] at H
          have c15b0 : decide (9 ≤ a0) = false := decide_eq_false c15
          clear c15
          by_cases c22 : a0 ≥ 17
          · rw [if_pos c22] at H
            have c22b0 : decide (17 ≤ a0) = true := decide_eq_true c22
            clear c22
            by_cases c23 : (t172 != (decide (a0 ≤ 22))) = true
            · rw [if_pos c23] at H
              have c23b0 : (t172 != (decide (a0 ≤ 22))) = true := c23
              (try (have c23b1 : decide (t172 = (decide (a0 ≤ 22))) = false := by simpa using c23))
              (try (have c23b2 : (t172 == (decide (a0 ≤ 22))) = false := by simpa using c23))
              (try (have c23b3 : ¬ (t172 = (decide (a0 ≤ 22))) := by simpa using c23))
              clear c23
              have H' := Aside0.mk H
              clear H
              go_wp2
              go_meet
              case rel => exact ⟨_, (true), (by first | rfl | (simp; done) | (simp [*]; done)), H', ⟨by first | omega | exact Nat.le_refl _⟩, ⟨by repeat (first | (with_reducible first | exact HB.out | apply below_alloc | apply pw_below_drewN | apply below_drew1) | exact HB.out)⟩⟩
            · rw [if_neg c23] at H
              have c23b0 : (t172 != (decide (a0 ≤ 22))) = false := by simpa using c23
              (try (have c23b1 : decide (t172 = (decide (a0 ≤ 22))) = true := by simpa using c23))
              (try (have c23b2 : (t172 == (decide (a0 ≤ 22))) = true := by simpa using c23))
              clear c23
              have H' := Aside0.mk H
              clear H
              go_wp2
              go_meet
              case rel => exact ⟨_, ((t174 != (decide (a0 ≤ 22)))), (by first | rfl | (simp; done) | (simp [*]; done)), H', ⟨by first | omega | exact Nat.le_refl _⟩, ⟨by repeat (first | (with_reducible first | exact HB.out | apply below_alloc | apply pw_below_drewN | apply below_drew1) | exact HB.out)⟩⟩
          · rw [if_neg c22] at H
            have c22b0 : decide (17 ≤ a0) = false := decide_eq_false c22
            clear c22
            by_cases c24 : (t172 != false) = true
            · rw [if_pos c24] at H
              have c24b0 : (t172 != false) = true := c24
              (try (have c24b1 : decide (t172 = false) = false := by simpa using c24))
              (try (have c24b2 : (t172 == false) = false := by simpa using c24))
              (try (have c24b3 : ¬ (t172 = false) := by simpa using c24))
              clear c24
              have H' := Aside0.mk H
              clear H
              go_wp2
              go_meet
              case rel => exact ⟨_, (true), (by first | rfl | (simp; done) | (simp [*]; done)), H', ⟨by first | omega | exact Nat.le_refl _⟩, ⟨by repeat (first | (with_reducible first | exact HB.out | apply below_alloc | apply pw_below_drewN | apply below_drew1) | exact HB.out)⟩⟩
            · rw [if_neg c24] at H
              have c24b0 : (t172 != false) = false := by simpa using c24
              (try (have c24b1 : decide (t172 = false) = true := by simpa using c24))
              (try (have c24b2 : (t172 == false) = true := by simpa using c24))
              clear c24
              have H' := Aside0.mk H
              clear H
              go_wp2
              go_meet
              case rel => exact ⟨_, ((t174 != false)), (by first | rfl | (simp; done) | (simp [*]; done)), H', ⟨by first | omega | exact Nat.le_refl _⟩, ⟨by repeat (first | (with_reducible first | exact HB.out | apply below_alloc | apply pw_below_drewN | apply below_drew1) | exact HB.out)⟩⟩
  case rest =>
    clear HC7
    try clear c1
    try clear c2
    try clear p2
    try clear c9
    try clear c9b0
    try clear c9b1
    try clear c10
    try clear c10b0
    try clear c10b1
    try clear c10b2
    try clear c11
    try clear c11b0
    try clear c12
    try clear c12b0
    try clear c12b1
    try clear c13
    try clear c13b0
    try clear c13b1
    try clear c13b2
    try clear c14
    try clear c14b0
    try clear c15
    try clear c15b0
    try clear c16
    try clear c16b0
    try clear c17
    try clear c17b0
    try clear c17b1
    try clear c17b2
    try clear c18
    try clear c18b0
    try clear c19
    try clear c19b0
    try clear c20
    try clear c20b0
    try clear c20b1
    try clear c20b2
    try clear c21
    try clear c21b0
    try clear c21b1
    try clear c21b2
    try clear c22
    try clear c22b0
    try clear c23
    try clear c23b0
    try clear c23b1
    try clear c23b2
    try clear c24
    try clear c24b0
    try clear c24b1
    try clear c24b2
    obtain ⟨kq, x67_6, rfl, HA, HJ6, HB⟩ := hcut
    cases kq with
    | zero => exact absurd HA.out (by simp [distafflaw01_ArithTurns.j0])
    | succ kj6 =>
      have H := HA.out
      clear HA
      simp only [distafflaw01_ArithTurns.j0] at H
      by_cases c25 : x67_6 = true
      · subst c25
        have H1 : (some false) = some r := by rw [if_pos rfl] at H; exact H
        clear H
        have H := H1
        clear H1
        obtain rfl := Option.some.inj H
        go_wp2
        go_ret
        exact ⟨by first | rfl | (simp [errW_none, errW_some] <;> rfl) | (simp [*, errW_none, errW_some] <;> rfl), by repeat (first | (with_reducible first | exact HB.out | apply below_alloc | apply pw_below_drewN | apply below_drew1) | exact HB.out)⟩
      · replace c25 := Bool.eq_false_iff.mpr c25
        subst c25
        have H1 : ((distaffref01_Do.f kj6 t171 a2 a1).bind fun bt175 => ((distaffref01_Do.f kj6 t173 a1 a2).bind fun bt177 => ((distafflaw01_awake.f kj6).bind fun t179 => (if t179 = true then (if t172 = true then (if t170 = true then (if bt175.2 = true then (if t169 = bt175.1 then (if t174 = true then (if bt177.2 = true then (some ((wrap64 (t169 + bt177.1)) == 1)) else (some false)) else (if t173 = 0 then (some true) else (if bt177.2 = true then (some ((wrap64 (t169 + bt177.1)) == 1)) else (some false)))) else (some false)) else (some false)) else (some false)) else (if t171 = 0 then (if t174 = true then (if t170 = true then (if bt177.2 = true then (some ((wrap64 (t169 + bt177.1)) == 1)) else (some false)) else (some false)) else (if t173 = 0 then (some true) else (if t170 = true then (if bt177.2 = true then (some ((wrap64 (t169 + bt177.1)) == 1)) else (some false)) else (some false)))) else (if t170 = true then (if bt175.2 = true then (if t169 = bt175.1 then (if t174 = true then (if bt177.2 = true then (some ((wrap64 (t169 + bt177.1)) == 1)) else (some false)) else (if t173 = 0 then (some true) else (if bt177.2 = true then (some ((wrap64 (t169 + bt177.1)) == 1)) else (some false)))) else (some false)) else (some false)) else (some false)))) else (some false))))) = some r := by rw [if_neg (show ¬ (false = true) by decide)] at H; exact H
        clear H
        have H := H1
        clear H1
        replace H := Option.bind_eq_some_iff.mp H
        obtain ⟨⟨t175, t176⟩, A260, H⟩ := H
        replace H : ((distaffref01_Do.f kj6 t173 a1 a2).bind fun bt177 => ((distafflaw01_awake.f kj6).bind fun t179 => (if t179 = true then (if t172 = true then (if t170 = true then (if t176 = true then (if t169 = t175 then (if t174 = true then (if bt177.2 = true then (some ((wrap64 (t169 + bt177.1)) == 1)) else (some false)) else (if t173 = 0 then (some true) else (if bt177.2 = true then (some ((wrap64 (t169 + bt177.1)) == 1)) else (some false)))) else (some false)) else (some false)) else (some false)) else (if t171 = 0 then (if t174 = true then (if t170 = true then (if bt177.2 = true then (some ((wrap64 (t169 + bt177.1)) == 1)) else (some false)) else (some false)) else (if t173 = 0 then (some true) else (if t170 = true then (if bt177.2 = true then (some ((wrap64 (t169 + bt177.1)) == 1)) else (some false)) else (some false)))) else (if t170 = true then (if t176 = true then (if t169 = t175 then (if t174 = true then (if bt177.2 = true then (some ((wrap64 (t169 + bt177.1)) == 1)) else (some false)) else (if t173 = 0 then (some true) else (if bt177.2 = true then (some ((wrap64 (t169 + bt177.1)) == 1)) else (some false)))) else (some false)) else (some false)) else (some false)))) else (some false)))) = some r := H
        have A26 := Aside0.mk A260
        clear A260
        replace H := Option.bind_eq_some_iff.mp H
        obtain ⟨⟨t177, t178⟩, A270, H⟩ := H
        replace H : ((distafflaw01_awake.f kj6).bind fun t179 => (if t179 = true then (if t172 = true then (if t170 = true then (if t176 = true then (if t169 = t175 then (if t174 = true then (if t178 = true then (some ((wrap64 (t169 + t177)) == 1)) else (some false)) else (if t173 = 0 then (some true) else (if t178 = true then (some ((wrap64 (t169 + t177)) == 1)) else (some false)))) else (some false)) else (some false)) else (some false)) else (if t171 = 0 then (if t174 = true then (if t170 = true then (if t178 = true then (some ((wrap64 (t169 + t177)) == 1)) else (some false)) else (some false)) else (if t173 = 0 then (some true) else (if t170 = true then (if t178 = true then (some ((wrap64 (t169 + t177)) == 1)) else (some false)) else (some false)))) else (if t170 = true then (if t176 = true then (if t169 = t175 then (if t174 = true then (if t178 = true then (some ((wrap64 (t169 + t177)) == 1)) else (some false)) else (if t173 = 0 then (some true) else (if t178 = true then (some ((wrap64 (t169 + t177)) == 1)) else (some false)))) else (some false)) else (some false)) else (some false)))) else (some false))) = some r := H
        have A27 := Aside0.mk A270
        clear A270
        replace H := Option.bind_eq_some_iff.mp H
        obtain ⟨t179, A280, H⟩ := H
        replace H : (if t179 = true then (if t172 = true then (if t170 = true then (if t176 = true then (if t169 = t175 then (if t174 = true then (if t178 = true then (some ((wrap64 (t169 + t177)) == 1)) else (some false)) else (if t173 = 0 then (some true) else (if t178 = true then (some ((wrap64 (t169 + t177)) == 1)) else (some false)))) else (some false)) else (some false)) else (some false)) else (if t171 = 0 then (if t174 = true then (if t170 = true then (if t178 = true then (some ((wrap64 (t169 + t177)) == 1)) else (some false)) else (some false)) else (if t173 = 0 then (some true) else (if t170 = true then (if t178 = true then (some ((wrap64 (t169 + t177)) == 1)) else (some false)) else (some false)))) else (if t170 = true then (if t176 = true then (if t169 = t175 then (if t174 = true then (if t178 = true then (some ((wrap64 (t169 + t177)) == 1)) else (some false)) else (if t173 = 0 then (some true) else (if t178 = true then (some ((wrap64 (t169 + t177)) == 1)) else (some false)))) else (some false)) else (some false)) else (some false)))) else (some false)) = some r := H
        have A28 := Aside0.mk A280
        clear A280
        by_cases c29 : t179 = true
        · subst c29
          have H1 : (if t172 = true then (if t170 = true then (if t176 = true then (if t169 = t175 then (if t174 = true then (if t178 = true then (some ((wrap64 (t169 + t177)) == 1)) else (some false)) else (if t173 = 0 then (some true) else (if t178 = true then (some ((wrap64 (t169 + t177)) == 1)) else (some false)))) else (some false)) else (some false)) else (some false)) else (if t171 = 0 then (if t174 = true then (if t170 = true then (if t178 = true then (some ((wrap64 (t169 + t177)) == 1)) else (some false)) else (some false)) else (if t173 = 0 then (some true) else (if t170 = true then (if t178 = true then (some ((wrap64 (t169 + t177)) == 1)) else (some false)) else (some false)))) else (if t170 = true then (if t176 = true then (if t169 = t175 then (if t174 = true then (if t178 = true then (some ((wrap64 (t169 + t177)) == 1)) else (some false)) else (if t173 = 0 then (some true) else (if t178 = true then (some ((wrap64 (t169 + t177)) == 1)) else (some false)))) else (some false)) else (some false)) else (some false)))) = some r := by rw [if_pos rfl] at H; exact H
          clear H
          have H := H1
          clear H1
          by_cases c30 : t172 = true
          · subst c30
            have H1 : (if t170 = true then (if t176 = true then (if t169 = t175 then (if t174 = true then (if t178 = true then (some ((wrap64 (t169 + t177)) == 1)) else (some false)) else (if t173 = 0 then (some true) else (if t178 = true then (some ((wrap64 (t169 + t177)) == 1)) else (some false)))) else (some false)) else (some false)) else (some false)) = some r := by rw [if_pos rfl] at H; exact H
            clear H
            have H := H1
            clear H1
            by_cases c31 : t170 = true
            · subst c31
              have H1 : (if t176 = true then (if t169 = t175 then (if t174 = true then (if t178 = true then (some ((wrap64 (t169 + t177)) == 1)) else (some false)) else (if t173 = 0 then (some true) else (if t178 = true then (some ((wrap64 (t169 + t177)) == 1)) else (some false)))) else (some false)) else (some false)) = some r := by rw [if_pos rfl] at H; exact H
              clear H
              have H := H1
              clear H1
              by_cases c32 : t176 = true
              · subst c32
                have H1 : (if t169 = t175 then (if t174 = true then (if t178 = true then (some ((wrap64 (t169 + t177)) == 1)) else (some false)) else (if t173 = 0 then (some true) else (if t178 = true then (some ((wrap64 (t169 + t177)) == 1)) else (some false)))) else (some false)) = some r := by rw [if_pos rfl] at H; exact H
                clear H
                have H := H1
                clear H1
                by_cases c33 : t169 = t175
                · rw [if_pos c33] at H
                  have c33b0 : (t169 == t175) = true := beq_iff_eq.mpr c33
                  have c33b1 : (t169 != t175) = false := bne_eq_false_iff_eq.mpr c33
                  clear c33
                  by_cases c34 : t174 = true
                  · subst c34
                    have H1 : (if t178 = true then (some ((wrap64 (t169 + t177)) == 1)) else (some false)) = some r := by rw [if_pos rfl] at H; exact H
                    clear H
                    have H := H1
                    clear H1
                    by_cases c35 : t178 = true
                    · subst c35
                      have H1 : (some ((wrap64 (t169 + t177)) == 1)) = some r := by rw [if_pos rfl] at H; exact H
                      clear H
                      have H := H1
                      clear H1
                      obtain rfl := Option.some.inj H
                      go_wp2_with (first | ((with_reducible refine gate_callee (f := 11) rfl ?_); refine goesL_ (some 72) rfl rfl Try.func11 (by kernel_rfl) rfl #[.int .i64 t171, .int .i64 a2, .int .i64 a1] rfl (by (try simp only [List.map_toArray, List.map_cons, List.map_nil]); first | done | rfl | (simp only [List.length_drop, List.length_take]; rfl)) ?_; (with_reducible refine (distaffref01_Do.calls kj6 t171 a2 a1 t175 true _ A26.out).mono ?_); rintro e w36 ⟨rfl, hb⟩; refine ⟨_, rfl, ?_⟩; have n0_ := Aside0.mk (below_step (by repeat (first | (with_reducible first | exact HB.out | apply below_alloc | apply pw_below_drewN | apply below_drew1) | exact HB.out)) hb); clear HB; have HB := n0_; clear n0_; (try clear hb); (try clear hb2); (try clear hk); (try clear hi)) | ((with_reducible refine gate_callee (f := 11) rfl ?_); refine goesL_ (some 79) rfl rfl Try.func11 (by kernel_rfl) rfl #[.int .i64 t173, .int .i64 a1, .int .i64 a2] rfl (by (try simp only [List.map_toArray, List.map_cons, List.map_nil]); first | done | rfl | (simp only [List.length_drop, List.length_take]; rfl)) ?_; (with_reducible refine (distaffref01_Do.calls kj6 t173 a1 a2 t177 true _ A27.out).mono ?_); rintro e w37 ⟨rfl, hb⟩; refine ⟨_, rfl, ?_⟩; have n0_ := Aside0.mk (below_step (by repeat (first | (with_reducible first | exact HB.out | apply below_alloc | apply pw_below_drewN | apply below_drew1) | exact HB.out)) hb); clear HB; have HB := n0_; clear n0_; (try clear hb); (try clear hb2); (try clear hk); (try clear hi)) | ((with_reducible refine gate_callee (f := 13) rfl ?_); refine goesL_ (some 82) rfl rfl Try.func13 (by kernel_rfl) rfl #[] rfl (by (try simp only [List.map_toArray, List.map_cons, List.map_nil]); first | done | rfl | (simp only [List.length_drop, List.length_take]; rfl)) ?_; (with_reducible refine (distafflaw01_awake.calls kj6  true _ A28.out).mono ?_); rintro e w' ⟨rfl, ⟨nd, rfl⟩⟩; refine ⟨_, rfl, ?_⟩))
                      go_ret
                      exact ⟨by first | rfl | (simp [errW_none, errW_some] <;> rfl) | (simp [*, errW_none, errW_some] <;> rfl), by repeat (first | (with_reducible first | exact HB.out | apply below_alloc | apply pw_below_drewN | apply below_drew1) | exact HB.out)⟩
                    · replace c35 := Bool.eq_false_iff.mpr c35
                      subst c35
                      have H1 : (some false) = some r := by rw [if_neg (show ¬ (false = true) by decide)] at H; exact H
                      clear H
                      have H := H1
                      clear H1
                      obtain rfl := Option.some.inj H
                      go_wp2_with (first | ((with_reducible refine gate_callee (f := 11) rfl ?_); refine goesL_ (some 72) rfl rfl Try.func11 (by kernel_rfl) rfl #[.int .i64 t171, .int .i64 a2, .int .i64 a1] rfl (by (try simp only [List.map_toArray, List.map_cons, List.map_nil]); first | done | rfl | (simp only [List.length_drop, List.length_take]; rfl)) ?_; (with_reducible refine (distaffref01_Do.calls kj6 t171 a2 a1 t175 true _ A26.out).mono ?_); rintro e w38 ⟨rfl, hb⟩; refine ⟨_, rfl, ?_⟩; have n0_ := Aside0.mk (below_step (by repeat (first | (with_reducible first | exact HB.out | apply below_alloc | apply pw_below_drewN | apply below_drew1) | exact HB.out)) hb); clear HB; have HB := n0_; clear n0_; (try clear hb); (try clear hb2); (try clear hk); (try clear hi)) | ((with_reducible refine gate_callee (f := 11) rfl ?_); refine goesL_ (some 79) rfl rfl Try.func11 (by kernel_rfl) rfl #[.int .i64 t173, .int .i64 a1, .int .i64 a2] rfl (by (try simp only [List.map_toArray, List.map_cons, List.map_nil]); first | done | rfl | (simp only [List.length_drop, List.length_take]; rfl)) ?_; (with_reducible refine (distaffref01_Do.calls kj6 t173 a1 a2 t177 false _ A27.out).mono ?_); rintro e w39 ⟨rfl, hb⟩; refine ⟨_, rfl, ?_⟩; have n0_ := Aside0.mk (below_step (by repeat (first | (with_reducible first | exact HB.out | apply below_alloc | apply pw_below_drewN | apply below_drew1) | exact HB.out)) hb); clear HB; have HB := n0_; clear n0_; (try clear hb); (try clear hb2); (try clear hk); (try clear hi)) | ((with_reducible refine gate_callee (f := 13) rfl ?_); refine goesL_ (some 82) rfl rfl Try.func13 (by kernel_rfl) rfl #[] rfl (by (try simp only [List.map_toArray, List.map_cons, List.map_nil]); first | done | rfl | (simp only [List.length_drop, List.length_take]; rfl)) ?_; (with_reducible refine (distafflaw01_awake.calls kj6  true _ A28.out).mono ?_); rintro e w' ⟨rfl, ⟨nd, rfl⟩⟩; refine ⟨_, rfl, ?_⟩))
                      go_ret
                      exact ⟨by first | rfl | (simp [errW_none, errW_some] <;> rfl) | (simp [*, errW_none, errW_some] <;> rfl), by repeat (first | (with_reducible first | exact HB.out | apply below_alloc | apply pw_below_drewN | apply below_drew1) | exact HB.out)⟩
                  · replace c34 := Bool.eq_false_iff.mpr c34
                    subst c34
                    have H1 : (if t173 = 0 then (some true) else (if t178 = true then (some ((wrap64 (t169 + t177)) == 1)) else (some false))) = some r := by rw [if_neg (show ¬ (false = true) by decide)] at H; exact H
                    clear H
                    have H := H1
                    clear H1
                    by_cases c40 : t173 = 0
                    · rw [if_pos c40] at H
                      have c40b0 : (t173 == 0) = true := beq_iff_eq.mpr c40
                      have c40b1 : (t173 != 0) = false := bne_eq_false_iff_eq.mpr c40
                      clear c40
                      obtain rfl := Option.some.inj H
                      go_wp2_with (first | ((with_reducible refine gate_callee (f := 11) rfl ?_); refine goesL_ (some 72) rfl rfl Try.func11 (by kernel_rfl) rfl #[.int .i64 t171, .int .i64 a2, .int .i64 a1] rfl (by (try simp only [List.map_toArray, List.map_cons, List.map_nil]); first | done | rfl | (simp only [List.length_drop, List.length_take]; rfl)) ?_; (with_reducible refine (distaffref01_Do.calls kj6 t171 a2 a1 t175 true _ A26.out).mono ?_); rintro e w41 ⟨rfl, hb⟩; refine ⟨_, rfl, ?_⟩; have n0_ := Aside0.mk (below_step (by repeat (first | (with_reducible first | exact HB.out | apply below_alloc | apply pw_below_drewN | apply below_drew1) | exact HB.out)) hb); clear HB; have HB := n0_; clear n0_; (try clear hb); (try clear hb2); (try clear hk); (try clear hi)) | ((with_reducible refine gate_callee (f := 11) rfl ?_); refine goesL_ (some 79) rfl rfl Try.func11 (by kernel_rfl) rfl #[.int .i64 t173, .int .i64 a1, .int .i64 a2] rfl (by (try simp only [List.map_toArray, List.map_cons, List.map_nil]); first | done | rfl | (simp only [List.length_drop, List.length_take]; rfl)) ?_; (with_reducible refine (distaffref01_Do.calls kj6 t173 a1 a2 t177 t178 _ A27.out).mono ?_); rintro e w42 ⟨rfl, hb⟩; refine ⟨_, rfl, ?_⟩; have n0_ := Aside0.mk (below_step (by repeat (first | (with_reducible first | exact HB.out | apply below_alloc | apply pw_below_drewN | apply below_drew1) | exact HB.out)) hb); clear HB; have HB := n0_; clear n0_; (try clear hb); (try clear hb2); (try clear hk); (try clear hi)) | ((with_reducible refine gate_callee (f := 13) rfl ?_); refine goesL_ (some 82) rfl rfl Try.func13 (by kernel_rfl) rfl #[] rfl (by (try simp only [List.map_toArray, List.map_cons, List.map_nil]); first | done | rfl | (simp only [List.length_drop, List.length_take]; rfl)) ?_; (with_reducible refine (distafflaw01_awake.calls kj6  true _ A28.out).mono ?_); rintro e w' ⟨rfl, ⟨nd, rfl⟩⟩; refine ⟨_, rfl, ?_⟩))
                      go_ret
                      exact ⟨by first | rfl | (simp [errW_none, errW_some] <;> rfl) | (simp [*, errW_none, errW_some] <;> rfl), by repeat (first | (with_reducible first | exact HB.out | apply below_alloc | apply pw_below_drewN | apply below_drew1) | exact HB.out)⟩
                    · rw [if_neg c40] at H
                      have c40b0 : (t173 == 0) = false := beq_eq_false_iff_ne.mpr c40
                      have c40b1 : (t173 != 0) = true := bne_iff_ne.mpr c40
                      by_cases c43 : t178 = true
                      · subst c43
                        have H1 : (some ((wrap64 (t169 + t177)) == 1)) = some r := by rw [if_pos rfl] at H; exact H
                        clear H
                        have H := H1
                        clear H1
                        obtain rfl := Option.some.inj H
                        go_wp2_with (first | ((with_reducible refine gate_callee (f := 11) rfl ?_); refine goesL_ (some 72) rfl rfl Try.func11 (by kernel_rfl) rfl #[.int .i64 t171, .int .i64 a2, .int .i64 a1] rfl (by (try simp only [List.map_toArray, List.map_cons, List.map_nil]); first | done | rfl | (simp only [List.length_drop, List.length_take]; rfl)) ?_; (with_reducible refine (distaffref01_Do.calls kj6 t171 a2 a1 t175 true _ A26.out).mono ?_); rintro e w44 ⟨rfl, hb⟩; refine ⟨_, rfl, ?_⟩; have n0_ := Aside0.mk (below_step (by repeat (first | (with_reducible first | exact HB.out | apply below_alloc | apply pw_below_drewN | apply below_drew1) | exact HB.out)) hb); clear HB; have HB := n0_; clear n0_; (try clear hb); (try clear hb2); (try clear hk); (try clear hi)) | ((with_reducible refine gate_callee (f := 11) rfl ?_); refine goesL_ (some 79) rfl rfl Try.func11 (by kernel_rfl) rfl #[.int .i64 t173, .int .i64 a1, .int .i64 a2] rfl (by (try simp only [List.map_toArray, List.map_cons, List.map_nil]); first | done | rfl | (simp only [List.length_drop, List.length_take]; rfl)) ?_; (with_reducible refine (distaffref01_Do.calls kj6 t173 a1 a2 t177 true _ A27.out).mono ?_); rintro e w45 ⟨rfl, hb⟩; refine ⟨_, rfl, ?_⟩; have n0_ := Aside0.mk (below_step (by repeat (first | (with_reducible first | exact HB.out | apply below_alloc | apply pw_below_drewN | apply below_drew1) | exact HB.out)) hb); clear HB; have HB := n0_; clear n0_; (try clear hb); (try clear hb2); (try clear hk); (try clear hi)) | ((with_reducible refine gate_callee (f := 13) rfl ?_); refine goesL_ (some 82) rfl rfl Try.func13 (by kernel_rfl) rfl #[] rfl (by (try simp only [List.map_toArray, List.map_cons, List.map_nil]); first | done | rfl | (simp only [List.length_drop, List.length_take]; rfl)) ?_; (with_reducible refine (distafflaw01_awake.calls kj6  true _ A28.out).mono ?_); rintro e w' ⟨rfl, ⟨nd, rfl⟩⟩; refine ⟨_, rfl, ?_⟩))
                        go_ret
                        exact ⟨by first | rfl | (simp [errW_none, errW_some] <;> rfl) | (simp [*, errW_none, errW_some] <;> rfl), by repeat (first | (with_reducible first | exact HB.out | apply below_alloc | apply pw_below_drewN | apply below_drew1) | exact HB.out)⟩
                      · replace c43 := Bool.eq_false_iff.mpr c43
                        subst c43
                        have H1 : (some false) = some r := by rw [if_neg (show ¬ (false = true) by decide)] at H; exact H
                        clear H
                        have H := H1
                        clear H1
                        obtain rfl := Option.some.inj H
                        go_wp2_with (first | ((with_reducible refine gate_callee (f := 11) rfl ?_); refine goesL_ (some 72) rfl rfl Try.func11 (by kernel_rfl) rfl #[.int .i64 t171, .int .i64 a2, .int .i64 a1] rfl (by (try simp only [List.map_toArray, List.map_cons, List.map_nil]); first | done | rfl | (simp only [List.length_drop, List.length_take]; rfl)) ?_; (with_reducible refine (distaffref01_Do.calls kj6 t171 a2 a1 t175 true _ A26.out).mono ?_); rintro e w46 ⟨rfl, hb⟩; refine ⟨_, rfl, ?_⟩; have n0_ := Aside0.mk (below_step (by repeat (first | (with_reducible first | exact HB.out | apply below_alloc | apply pw_below_drewN | apply below_drew1) | exact HB.out)) hb); clear HB; have HB := n0_; clear n0_; (try clear hb); (try clear hb2); (try clear hk); (try clear hi)) | ((with_reducible refine gate_callee (f := 11) rfl ?_); refine goesL_ (some 79) rfl rfl Try.func11 (by kernel_rfl) rfl #[.int .i64 t173, .int .i64 a1, .int .i64 a2] rfl (by (try simp only [List.map_toArray, List.map_cons, List.map_nil]); first | done | rfl | (simp only [List.length_drop, List.length_take]; rfl)) ?_; (with_reducible refine (distaffref01_Do.calls kj6 t173 a1 a2 t177 false _ A27.out).mono ?_); rintro e w47 ⟨rfl, hb⟩; refine ⟨_, rfl, ?_⟩; have n0_ := Aside0.mk (below_step (by repeat (first | (with_reducible first | exact HB.out | apply below_alloc | apply pw_below_drewN | apply below_drew1) | exact HB.out)) hb); clear HB; have HB := n0_; clear n0_; (try clear hb); (try clear hb2); (try clear hk); (try clear hi)) | ((with_reducible refine gate_callee (f := 13) rfl ?_); refine goesL_ (some 82) rfl rfl Try.func13 (by kernel_rfl) rfl #[] rfl (by (try simp only [List.map_toArray, List.map_cons, List.map_nil]); first | done | rfl | (simp only [List.length_drop, List.length_take]; rfl)) ?_; (with_reducible refine (distafflaw01_awake.calls kj6  true _ A28.out).mono ?_); rintro e w' ⟨rfl, ⟨nd, rfl⟩⟩; refine ⟨_, rfl, ?_⟩))
                        go_ret
                        exact ⟨by first | rfl | (simp [errW_none, errW_some] <;> rfl) | (simp [*, errW_none, errW_some] <;> rfl), by repeat (first | (with_reducible first | exact HB.out | apply below_alloc | apply pw_below_drewN | apply below_drew1) | exact HB.out)⟩
                · rw [if_neg c33] at H
                  have c33b0 : (t169 == t175) = false := beq_eq_false_iff_ne.mpr c33
                  have c33b1 : (t169 != t175) = true := bne_iff_ne.mpr c33
                  obtain rfl := Option.some.inj H
                  go_wp2_with (first | ((with_reducible refine gate_callee (f := 11) rfl ?_); refine goesL_ (some 72) rfl rfl Try.func11 (by kernel_rfl) rfl #[.int .i64 t171, .int .i64 a2, .int .i64 a1] rfl (by (try simp only [List.map_toArray, List.map_cons, List.map_nil]); first | done | rfl | (simp only [List.length_drop, List.length_take]; rfl)) ?_; (with_reducible refine (distaffref01_Do.calls kj6 t171 a2 a1 t175 true _ A26.out).mono ?_); rintro e w48 ⟨rfl, hb⟩; refine ⟨_, rfl, ?_⟩; have n0_ := Aside0.mk (below_step (by repeat (first | (with_reducible first | exact HB.out | apply below_alloc | apply pw_below_drewN | apply below_drew1) | exact HB.out)) hb); clear HB; have HB := n0_; clear n0_; (try clear hb); (try clear hb2); (try clear hk); (try clear hi)) | ((with_reducible refine gate_callee (f := 11) rfl ?_); refine goesL_ (some 79) rfl rfl Try.func11 (by kernel_rfl) rfl #[.int .i64 t173, .int .i64 a1, .int .i64 a2] rfl (by (try simp only [List.map_toArray, List.map_cons, List.map_nil]); first | done | rfl | (simp only [List.length_drop, List.length_take]; rfl)) ?_; (with_reducible refine (distaffref01_Do.calls kj6 t173 a1 a2 t177 t178 _ A27.out).mono ?_); rintro e w49 ⟨rfl, hb⟩; refine ⟨_, rfl, ?_⟩; have n0_ := Aside0.mk (below_step (by repeat (first | (with_reducible first | exact HB.out | apply below_alloc | apply pw_below_drewN | apply below_drew1) | exact HB.out)) hb); clear HB; have HB := n0_; clear n0_; (try clear hb); (try clear hb2); (try clear hk); (try clear hi)) | ((with_reducible refine gate_callee (f := 13) rfl ?_); refine goesL_ (some 82) rfl rfl Try.func13 (by kernel_rfl) rfl #[] rfl (by (try simp only [List.map_toArray, List.map_cons, List.map_nil]); first | done | rfl | (simp only [List.length_drop, List.length_take]; rfl)) ?_; (with_reducible refine (distafflaw01_awake.calls kj6  true _ A28.out).mono ?_); rintro e w' ⟨rfl, ⟨nd, rfl⟩⟩; refine ⟨_, rfl, ?_⟩))
                  go_ret
                  exact ⟨by first | rfl | (simp [errW_none, errW_some] <;> rfl) | (simp [*, errW_none, errW_some] <;> rfl), by repeat (first | (with_reducible first | exact HB.out | apply below_alloc | apply pw_below_drewN | apply below_drew1) | exact HB.out)⟩
              · replace c32 := Bool.eq_false_iff.mpr c32
                subst c32
                have H1 : (some false) = some r := by rw [if_neg (show ¬ (false = true) by decide)] at H; exact H
                clear H
                have H := H1
                clear H1
                obtain rfl := Option.some.inj H
                go_wp2_with (first | ((with_reducible refine gate_callee (f := 11) rfl ?_); refine goesL_ (some 72) rfl rfl Try.func11 (by kernel_rfl) rfl #[.int .i64 t171, .int .i64 a2, .int .i64 a1] rfl (by (try simp only [List.map_toArray, List.map_cons, List.map_nil]); first | done | rfl | (simp only [List.length_drop, List.length_take]; rfl)) ?_; (with_reducible refine (distaffref01_Do.calls kj6 t171 a2 a1 t175 false _ A26.out).mono ?_); rintro e w50 ⟨rfl, hb⟩; refine ⟨_, rfl, ?_⟩; have n0_ := Aside0.mk (below_step (by repeat (first | (with_reducible first | exact HB.out | apply below_alloc | apply pw_below_drewN | apply below_drew1) | exact HB.out)) hb); clear HB; have HB := n0_; clear n0_; (try clear hb); (try clear hb2); (try clear hk); (try clear hi)) | ((with_reducible refine gate_callee (f := 11) rfl ?_); refine goesL_ (some 79) rfl rfl Try.func11 (by kernel_rfl) rfl #[.int .i64 t173, .int .i64 a1, .int .i64 a2] rfl (by (try simp only [List.map_toArray, List.map_cons, List.map_nil]); first | done | rfl | (simp only [List.length_drop, List.length_take]; rfl)) ?_; (with_reducible refine (distaffref01_Do.calls kj6 t173 a1 a2 t177 t178 _ A27.out).mono ?_); rintro e w51 ⟨rfl, hb⟩; refine ⟨_, rfl, ?_⟩; have n0_ := Aside0.mk (below_step (by repeat (first | (with_reducible first | exact HB.out | apply below_alloc | apply pw_below_drewN | apply below_drew1) | exact HB.out)) hb); clear HB; have HB := n0_; clear n0_; (try clear hb); (try clear hb2); (try clear hk); (try clear hi)) | ((with_reducible refine gate_callee (f := 13) rfl ?_); refine goesL_ (some 82) rfl rfl Try.func13 (by kernel_rfl) rfl #[] rfl (by (try simp only [List.map_toArray, List.map_cons, List.map_nil]); first | done | rfl | (simp only [List.length_drop, List.length_take]; rfl)) ?_; (with_reducible refine (distafflaw01_awake.calls kj6  true _ A28.out).mono ?_); rintro e w' ⟨rfl, ⟨nd, rfl⟩⟩; refine ⟨_, rfl, ?_⟩))
                go_ret
                exact ⟨by first | rfl | (simp [errW_none, errW_some] <;> rfl) | (simp [*, errW_none, errW_some] <;> rfl), by repeat (first | (with_reducible first | exact HB.out | apply below_alloc | apply pw_below_drewN | apply below_drew1) | exact HB.out)⟩
            · replace c31 := Bool.eq_false_iff.mpr c31
              subst c31
              have H1 : (some false) = some r := by rw [if_neg (show ¬ (false = true) by decide)] at H; exact H
              clear H
              have H := H1
              clear H1
              obtain rfl := Option.some.inj H
              go_wp2_with (first | ((with_reducible refine gate_callee (f := 11) rfl ?_); refine goesL_ (some 72) rfl rfl Try.func11 (by kernel_rfl) rfl #[.int .i64 t171, .int .i64 a2, .int .i64 a1] rfl (by (try simp only [List.map_toArray, List.map_cons, List.map_nil]); first | done | rfl | (simp only [List.length_drop, List.length_take]; rfl)) ?_; (with_reducible refine (distaffref01_Do.calls kj6 t171 a2 a1 t175 t176 _ A26.out).mono ?_); rintro e w52 ⟨rfl, hb⟩; refine ⟨_, rfl, ?_⟩; have n0_ := Aside0.mk (below_step (by repeat (first | (with_reducible first | exact HB.out | apply below_alloc | apply pw_below_drewN | apply below_drew1) | exact HB.out)) hb); clear HB; have HB := n0_; clear n0_; (try clear hb); (try clear hb2); (try clear hk); (try clear hi)) | ((with_reducible refine gate_callee (f := 11) rfl ?_); refine goesL_ (some 79) rfl rfl Try.func11 (by kernel_rfl) rfl #[.int .i64 t173, .int .i64 a1, .int .i64 a2] rfl (by (try simp only [List.map_toArray, List.map_cons, List.map_nil]); first | done | rfl | (simp only [List.length_drop, List.length_take]; rfl)) ?_; (with_reducible refine (distaffref01_Do.calls kj6 t173 a1 a2 t177 t178 _ A27.out).mono ?_); rintro e w53 ⟨rfl, hb⟩; refine ⟨_, rfl, ?_⟩; have n0_ := Aside0.mk (below_step (by repeat (first | (with_reducible first | exact HB.out | apply below_alloc | apply pw_below_drewN | apply below_drew1) | exact HB.out)) hb); clear HB; have HB := n0_; clear n0_; (try clear hb); (try clear hb2); (try clear hk); (try clear hi)) | ((with_reducible refine gate_callee (f := 13) rfl ?_); refine goesL_ (some 82) rfl rfl Try.func13 (by kernel_rfl) rfl #[] rfl (by (try simp only [List.map_toArray, List.map_cons, List.map_nil]); first | done | rfl | (simp only [List.length_drop, List.length_take]; rfl)) ?_; (with_reducible refine (distafflaw01_awake.calls kj6  true _ A28.out).mono ?_); rintro e w' ⟨rfl, ⟨nd, rfl⟩⟩; refine ⟨_, rfl, ?_⟩))
              go_ret
              exact ⟨by first | rfl | (simp [errW_none, errW_some] <;> rfl) | (simp [*, errW_none, errW_some] <;> rfl), by repeat (first | (with_reducible first | exact HB.out | apply below_alloc | apply pw_below_drewN | apply below_drew1) | exact HB.out)⟩
          · replace c30 := Bool.eq_false_iff.mpr c30
            subst c30
            have H1 : (if t171 = 0 then (if t174 = true then (if t170 = true then (if t178 = true then (some ((wrap64 (t169 + t177)) == 1)) else (some false)) else (some false)) else (if t173 = 0 then (some true) else (if t170 = true then (if t178 = true then (some ((wrap64 (t169 + t177)) == 1)) else (some false)) else (some false)))) else (if t170 = true then (if t176 = true then (if t169 = t175 then (if t174 = true then (if t178 = true then (some ((wrap64 (t169 + t177)) == 1)) else (some false)) else (if t173 = 0 then (some true) else (if t178 = true then (some ((wrap64 (t169 + t177)) == 1)) else (some false)))) else (some false)) else (some false)) else (some false))) = some r := by rw [if_neg (show ¬ (false = true) by decide)] at H; exact H
            clear H
            have H := H1
            clear H1
            by_cases c54 : t171 = 0
            · rw [if_pos c54] at H
              have c54b0 : (t171 == 0) = true := beq_iff_eq.mpr c54
              have c54b1 : (t171 != 0) = false := bne_eq_false_iff_eq.mpr c54
              clear c54
              by_cases c55 : t174 = true
              · subst c55
                have H1 : (if t170 = true then (if t178 = true then (some ((wrap64 (t169 + t177)) == 1)) else (some false)) else (some false)) = some r := by rw [if_pos rfl] at H; exact H
                clear H
                have H := H1
                clear H1
                by_cases c56 : t170 = true
                · subst c56
                  have H1 : (if t178 = true then (some ((wrap64 (t169 + t177)) == 1)) else (some false)) = some r := by rw [if_pos rfl] at H; exact H
                  clear H
                  have H := H1
                  clear H1
                  by_cases c57 : t178 = true
                  · subst c57
                    have H1 : (some ((wrap64 (t169 + t177)) == 1)) = some r := by rw [if_pos rfl] at H; exact H
                    clear H
                    have H := H1
                    clear H1
                    obtain rfl := Option.some.inj H
                    go_wp2_with (first | ((with_reducible refine gate_callee (f := 11) rfl ?_); refine goesL_ (some 72) rfl rfl Try.func11 (by kernel_rfl) rfl #[.int .i64 t171, .int .i64 a2, .int .i64 a1] rfl (by (try simp only [List.map_toArray, List.map_cons, List.map_nil]); first | done | rfl | (simp only [List.length_drop, List.length_take]; rfl)) ?_; (with_reducible refine (distaffref01_Do.calls kj6 t171 a2 a1 t175 t176 _ A26.out).mono ?_); rintro e w58 ⟨rfl, hb⟩; refine ⟨_, rfl, ?_⟩; have n0_ := Aside0.mk (below_step (by repeat (first | (with_reducible first | exact HB.out | apply below_alloc | apply pw_below_drewN | apply below_drew1) | exact HB.out)) hb); clear HB; have HB := n0_; clear n0_; (try clear hb); (try clear hb2); (try clear hk); (try clear hi)) | ((with_reducible refine gate_callee (f := 11) rfl ?_); refine goesL_ (some 79) rfl rfl Try.func11 (by kernel_rfl) rfl #[.int .i64 t173, .int .i64 a1, .int .i64 a2] rfl (by (try simp only [List.map_toArray, List.map_cons, List.map_nil]); first | done | rfl | (simp only [List.length_drop, List.length_take]; rfl)) ?_; (with_reducible refine (distaffref01_Do.calls kj6 t173 a1 a2 t177 true _ A27.out).mono ?_); rintro e w59 ⟨rfl, hb⟩; refine ⟨_, rfl, ?_⟩; have n0_ := Aside0.mk (below_step (by repeat (first | (with_reducible first | exact HB.out | apply below_alloc | apply pw_below_drewN | apply below_drew1) | exact HB.out)) hb); clear HB; have HB := n0_; clear n0_; (try clear hb); (try clear hb2); (try clear hk); (try clear hi)) | ((with_reducible refine gate_callee (f := 13) rfl ?_); refine goesL_ (some 82) rfl rfl Try.func13 (by kernel_rfl) rfl #[] rfl (by (try simp only [List.map_toArray, List.map_cons, List.map_nil]); first | done | rfl | (simp only [List.length_drop, List.length_take]; rfl)) ?_; (with_reducible refine (distafflaw01_awake.calls kj6  true _ A28.out).mono ?_); rintro e w' ⟨rfl, ⟨nd, rfl⟩⟩; refine ⟨_, rfl, ?_⟩))
                    go_ret
                    exact ⟨by first | rfl | (simp [errW_none, errW_some] <;> rfl) | (simp [*, errW_none, errW_some] <;> rfl), by repeat (first | (with_reducible first | exact HB.out | apply below_alloc | apply pw_below_drewN | apply below_drew1) | exact HB.out)⟩
                  · replace c57 := Bool.eq_false_iff.mpr c57
                    subst c57
                    have H1 : (some false) = some r := by rw [if_neg (show ¬ (false = true) by decide)] at H; exact H
                    clear H
                    have H := H1
                    clear H1
                    obtain rfl := Option.some.inj H
                    go_wp2_with (first | ((with_reducible refine gate_callee (f := 11) rfl ?_); refine goesL_ (some 72) rfl rfl Try.func11 (by kernel_rfl) rfl #[.int .i64 t171, .int .i64 a2, .int .i64 a1] rfl (by (try simp only [List.map_toArray, List.map_cons, List.map_nil]); first | done | rfl | (simp only [List.length_drop, List.length_take]; rfl)) ?_; (with_reducible refine (distaffref01_Do.calls kj6 t171 a2 a1 t175 t176 _ A26.out).mono ?_); rintro e w60 ⟨rfl, hb⟩; refine ⟨_, rfl, ?_⟩; have n0_ := Aside0.mk (below_step (by repeat (first | (with_reducible first | exact HB.out | apply below_alloc | apply pw_below_drewN | apply below_drew1) | exact HB.out)) hb); clear HB; have HB := n0_; clear n0_; (try clear hb); (try clear hb2); (try clear hk); (try clear hi)) | ((with_reducible refine gate_callee (f := 11) rfl ?_); refine goesL_ (some 79) rfl rfl Try.func11 (by kernel_rfl) rfl #[.int .i64 t173, .int .i64 a1, .int .i64 a2] rfl (by (try simp only [List.map_toArray, List.map_cons, List.map_nil]); first | done | rfl | (simp only [List.length_drop, List.length_take]; rfl)) ?_; (with_reducible refine (distaffref01_Do.calls kj6 t173 a1 a2 t177 false _ A27.out).mono ?_); rintro e w61 ⟨rfl, hb⟩; refine ⟨_, rfl, ?_⟩; have n0_ := Aside0.mk (below_step (by repeat (first | (with_reducible first | exact HB.out | apply below_alloc | apply pw_below_drewN | apply below_drew1) | exact HB.out)) hb); clear HB; have HB := n0_; clear n0_; (try clear hb); (try clear hb2); (try clear hk); (try clear hi)) | ((with_reducible refine gate_callee (f := 13) rfl ?_); refine goesL_ (some 82) rfl rfl Try.func13 (by kernel_rfl) rfl #[] rfl (by (try simp only [List.map_toArray, List.map_cons, List.map_nil]); first | done | rfl | (simp only [List.length_drop, List.length_take]; rfl)) ?_; (with_reducible refine (distafflaw01_awake.calls kj6  true _ A28.out).mono ?_); rintro e w' ⟨rfl, ⟨nd, rfl⟩⟩; refine ⟨_, rfl, ?_⟩))
                    go_ret
                    exact ⟨by first | rfl | (simp [errW_none, errW_some] <;> rfl) | (simp [*, errW_none, errW_some] <;> rfl), by repeat (first | (with_reducible first | exact HB.out | apply below_alloc | apply pw_below_drewN | apply below_drew1) | exact HB.out)⟩
                · replace c56 := Bool.eq_false_iff.mpr c56
                  subst c56
                  have H1 : (some false) = some r := by rw [if_neg (show ¬ (false = true) by decide)] at H; exact H
                  clear H
                  have H := H1
                  clear H1
                  obtain rfl := Option.some.inj H
                  go_wp2_with (first | ((with_reducible refine gate_callee (f := 11) rfl ?_); refine goesL_ (some 72) rfl rfl Try.func11 (by kernel_rfl) rfl #[.int .i64 t171, .int .i64 a2, .int .i64 a1] rfl (by (try simp only [List.map_toArray, List.map_cons, List.map_nil]); first | done | rfl | (simp only [List.length_drop, List.length_take]; rfl)) ?_; (with_reducible refine (distaffref01_Do.calls kj6 t171 a2 a1 t175 t176 _ A26.out).mono ?_); rintro e w62 ⟨rfl, hb⟩; refine ⟨_, rfl, ?_⟩; have n0_ := Aside0.mk (below_step (by repeat (first | (with_reducible first | exact HB.out | apply below_alloc | apply pw_below_drewN | apply below_drew1) | exact HB.out)) hb); clear HB; have HB := n0_; clear n0_; (try clear hb); (try clear hb2); (try clear hk); (try clear hi)) | ((with_reducible refine gate_callee (f := 11) rfl ?_); refine goesL_ (some 79) rfl rfl Try.func11 (by kernel_rfl) rfl #[.int .i64 t173, .int .i64 a1, .int .i64 a2] rfl (by (try simp only [List.map_toArray, List.map_cons, List.map_nil]); first | done | rfl | (simp only [List.length_drop, List.length_take]; rfl)) ?_; (with_reducible refine (distaffref01_Do.calls kj6 t173 a1 a2 t177 t178 _ A27.out).mono ?_); rintro e w63 ⟨rfl, hb⟩; refine ⟨_, rfl, ?_⟩; have n0_ := Aside0.mk (below_step (by repeat (first | (with_reducible first | exact HB.out | apply below_alloc | apply pw_below_drewN | apply below_drew1) | exact HB.out)) hb); clear HB; have HB := n0_; clear n0_; (try clear hb); (try clear hb2); (try clear hk); (try clear hi)) | ((with_reducible refine gate_callee (f := 13) rfl ?_); refine goesL_ (some 82) rfl rfl Try.func13 (by kernel_rfl) rfl #[] rfl (by (try simp only [List.map_toArray, List.map_cons, List.map_nil]); first | done | rfl | (simp only [List.length_drop, List.length_take]; rfl)) ?_; (with_reducible refine (distafflaw01_awake.calls kj6  true _ A28.out).mono ?_); rintro e w' ⟨rfl, ⟨nd, rfl⟩⟩; refine ⟨_, rfl, ?_⟩))
                  go_ret
                  exact ⟨by first | rfl | (simp [errW_none, errW_some] <;> rfl) | (simp [*, errW_none, errW_some] <;> rfl), by repeat (first | (with_reducible first | exact HB.out | apply below_alloc | apply pw_below_drewN | apply below_drew1) | exact HB.out)⟩
              · replace c55 := Bool.eq_false_iff.mpr c55
                subst c55
                have H1 : (if t173 = 0 then (some true) else (if t170 = true then (if t178 = true then (some ((wrap64 (t169 + t177)) == 1)) else (some false)) else (some false))) = some r := by rw [if_neg (show ¬ (false = true) by decide)] at H; exact H
                clear H
                have H := H1
                clear H1
                by_cases c64 : t173 = 0
                · rw [if_pos c64] at H
                  have c64b0 : (t173 == 0) = true := beq_iff_eq.mpr c64
                  have c64b1 : (t173 != 0) = false := bne_eq_false_iff_eq.mpr c64
                  clear c64
                  obtain rfl := Option.some.inj H
                  go_wp2_with (first | ((with_reducible refine gate_callee (f := 11) rfl ?_); refine goesL_ (some 72) rfl rfl Try.func11 (by kernel_rfl) rfl #[.int .i64 t171, .int .i64 a2, .int .i64 a1] rfl (by (try simp only [List.map_toArray, List.map_cons, List.map_nil]); first | done | rfl | (simp only [List.length_drop, List.length_take]; rfl)) ?_; (with_reducible refine (distaffref01_Do.calls kj6 t171 a2 a1 t175 t176 _ A26.out).mono ?_); rintro e w65 ⟨rfl, hb⟩; refine ⟨_, rfl, ?_⟩; have n0_ := Aside0.mk (below_step (by repeat (first | (with_reducible first | exact HB.out | apply below_alloc | apply pw_below_drewN | apply below_drew1) | exact HB.out)) hb); clear HB; have HB := n0_; clear n0_; (try clear hb); (try clear hb2); (try clear hk); (try clear hi)) | ((with_reducible refine gate_callee (f := 11) rfl ?_); refine goesL_ (some 79) rfl rfl Try.func11 (by kernel_rfl) rfl #[.int .i64 t173, .int .i64 a1, .int .i64 a2] rfl (by (try simp only [List.map_toArray, List.map_cons, List.map_nil]); first | done | rfl | (simp only [List.length_drop, List.length_take]; rfl)) ?_; (with_reducible refine (distaffref01_Do.calls kj6 t173 a1 a2 t177 t178 _ A27.out).mono ?_); rintro e w66 ⟨rfl, hb⟩; refine ⟨_, rfl, ?_⟩; have n0_ := Aside0.mk (below_step (by repeat (first | (with_reducible first | exact HB.out | apply below_alloc | apply pw_below_drewN | apply below_drew1) | exact HB.out)) hb); clear HB; have HB := n0_; clear n0_; (try clear hb); (try clear hb2); (try clear hk); (try clear hi)) | ((with_reducible refine gate_callee (f := 13) rfl ?_); refine goesL_ (some 82) rfl rfl Try.func13 (by kernel_rfl) rfl #[] rfl (by (try simp only [List.map_toArray, List.map_cons, List.map_nil]); first | done | rfl | (simp only [List.length_drop, List.length_take]; rfl)) ?_; (with_reducible refine (distafflaw01_awake.calls kj6  true _ A28.out).mono ?_); rintro e w' ⟨rfl, ⟨nd, rfl⟩⟩; refine ⟨_, rfl, ?_⟩))
                  go_ret
                  exact ⟨by first | rfl | (simp [errW_none, errW_some] <;> rfl) | (simp [*, errW_none, errW_some] <;> rfl), by repeat (first | (with_reducible first | exact HB.out | apply below_alloc | apply pw_below_drewN | apply below_drew1) | exact HB.out)⟩
                · rw [if_neg c64] at H
                  have c64b0 : (t173 == 0) = false := beq_eq_false_iff_ne.mpr c64
                  have c64b1 : (t173 != 0) = true := bne_iff_ne.mpr c64
                  by_cases c67 : t170 = true
                  · subst c67
                    have H1 : (if t178 = true then (some ((wrap64 (t169 + t177)) == 1)) else (some false)) = some r := by rw [if_pos rfl] at H; exact H
                    clear H
                    have H := H1
                    clear H1
                    by_cases c68 : t178 = true
                    · subst c68
                      have H1 : (some ((wrap64 (t169 + t177)) == 1)) = some r := by rw [if_pos rfl] at H; exact H
                      clear H
                      have H := H1
                      clear H1
                      obtain rfl := Option.some.inj H
                      go_wp2_with (first | ((with_reducible refine gate_callee (f := 11) rfl ?_); refine goesL_ (some 72) rfl rfl Try.func11 (by kernel_rfl) rfl #[.int .i64 t171, .int .i64 a2, .int .i64 a1] rfl (by (try simp only [List.map_toArray, List.map_cons, List.map_nil]); first | done | rfl | (simp only [List.length_drop, List.length_take]; rfl)) ?_; (with_reducible refine (distaffref01_Do.calls kj6 t171 a2 a1 t175 t176 _ A26.out).mono ?_); rintro e w69 ⟨rfl, hb⟩; refine ⟨_, rfl, ?_⟩; have n0_ := Aside0.mk (below_step (by repeat (first | (with_reducible first | exact HB.out | apply below_alloc | apply pw_below_drewN | apply below_drew1) | exact HB.out)) hb); clear HB; have HB := n0_; clear n0_; (try clear hb); (try clear hb2); (try clear hk); (try clear hi)) | ((with_reducible refine gate_callee (f := 11) rfl ?_); refine goesL_ (some 79) rfl rfl Try.func11 (by kernel_rfl) rfl #[.int .i64 t173, .int .i64 a1, .int .i64 a2] rfl (by (try simp only [List.map_toArray, List.map_cons, List.map_nil]); first | done | rfl | (simp only [List.length_drop, List.length_take]; rfl)) ?_; (with_reducible refine (distaffref01_Do.calls kj6 t173 a1 a2 t177 true _ A27.out).mono ?_); rintro e w70 ⟨rfl, hb⟩; refine ⟨_, rfl, ?_⟩; have n0_ := Aside0.mk (below_step (by repeat (first | (with_reducible first | exact HB.out | apply below_alloc | apply pw_below_drewN | apply below_drew1) | exact HB.out)) hb); clear HB; have HB := n0_; clear n0_; (try clear hb); (try clear hb2); (try clear hk); (try clear hi)) | ((with_reducible refine gate_callee (f := 13) rfl ?_); refine goesL_ (some 82) rfl rfl Try.func13 (by kernel_rfl) rfl #[] rfl (by (try simp only [List.map_toArray, List.map_cons, List.map_nil]); first | done | rfl | (simp only [List.length_drop, List.length_take]; rfl)) ?_; (with_reducible refine (distafflaw01_awake.calls kj6  true _ A28.out).mono ?_); rintro e w' ⟨rfl, ⟨nd, rfl⟩⟩; refine ⟨_, rfl, ?_⟩))
                      go_ret
                      exact ⟨by first | rfl | (simp [errW_none, errW_some] <;> rfl) | (simp [*, errW_none, errW_some] <;> rfl), by repeat (first | (with_reducible first | exact HB.out | apply below_alloc | apply pw_below_drewN | apply below_drew1) | exact HB.out)⟩
                    · replace c68 := Bool.eq_false_iff.mpr c68
                      subst c68
                      have H1 : (some false) = some r := by rw [if_neg (show ¬ (false = true) by decide)] at H; exact H
                      clear H
                      have H := H1
                      clear H1
                      obtain rfl := Option.some.inj H
                      go_wp2_with (first | ((with_reducible refine gate_callee (f := 11) rfl ?_); refine goesL_ (some 72) rfl rfl Try.func11 (by kernel_rfl) rfl #[.int .i64 t171, .int .i64 a2, .int .i64 a1] rfl (by (try simp only [List.map_toArray, List.map_cons, List.map_nil]); first | done | rfl | (simp only [List.length_drop, List.length_take]; rfl)) ?_; (with_reducible refine (distaffref01_Do.calls kj6 t171 a2 a1 t175 t176 _ A26.out).mono ?_); rintro e w71 ⟨rfl, hb⟩; refine ⟨_, rfl, ?_⟩; have n0_ := Aside0.mk (below_step (by repeat (first | (with_reducible first | exact HB.out | apply below_alloc | apply pw_below_drewN | apply below_drew1) | exact HB.out)) hb); clear HB; have HB := n0_; clear n0_; (try clear hb); (try clear hb2); (try clear hk); (try clear hi)) | ((with_reducible refine gate_callee (f := 11) rfl ?_); refine goesL_ (some 79) rfl rfl Try.func11 (by kernel_rfl) rfl #[.int .i64 t173, .int .i64 a1, .int .i64 a2] rfl (by (try simp only [List.map_toArray, List.map_cons, List.map_nil]); first | done | rfl | (simp only [List.length_drop, List.length_take]; rfl)) ?_; (with_reducible refine (distaffref01_Do.calls kj6 t173 a1 a2 t177 false _ A27.out).mono ?_); rintro e w72 ⟨rfl, hb⟩; refine ⟨_, rfl, ?_⟩; have n0_ := Aside0.mk (below_step (by repeat (first | (with_reducible first | exact HB.out | apply below_alloc | apply pw_below_drewN | apply below_drew1) | exact HB.out)) hb); clear HB; have HB := n0_; clear n0_; (try clear hb); (try clear hb2); (try clear hk); (try clear hi)) | ((with_reducible refine gate_callee (f := 13) rfl ?_); refine goesL_ (some 82) rfl rfl Try.func13 (by kernel_rfl) rfl #[] rfl (by (try simp only [List.map_toArray, List.map_cons, List.map_nil]); first | done | rfl | (simp only [List.length_drop, List.length_take]; rfl)) ?_; (with_reducible refine (distafflaw01_awake.calls kj6  true _ A28.out).mono ?_); rintro e w' ⟨rfl, ⟨nd, rfl⟩⟩; refine ⟨_, rfl, ?_⟩))
                      go_ret
                      exact ⟨by first | rfl | (simp [errW_none, errW_some] <;> rfl) | (simp [*, errW_none, errW_some] <;> rfl), by repeat (first | (with_reducible first | exact HB.out | apply below_alloc | apply pw_below_drewN | apply below_drew1) | exact HB.out)⟩
                  · replace c67 := Bool.eq_false_iff.mpr c67
                    subst c67
                    have H1 : (some false) = some r := by rw [if_neg (show ¬ (false = true) by decide)] at H; exact H
                    clear H
                    have H := H1
                    clear H1
                    obtain rfl := Option.some.inj H
                    go_wp2_with (first | ((with_reducible refine gate_callee (f := 11) rfl ?_); refine goesL_ (some 72) rfl rfl Try.func11 (by kernel_rfl) rfl #[.int .i64 t171, .int .i64 a2, .int .i64 a1] rfl (by (try simp only [List.map_toArray, List.map_cons, List.map_nil]); first | done | rfl | (simp only [List.length_drop, List.length_take]; rfl)) ?_; (with_reducible refine (distaffref01_Do.calls kj6 t171 a2 a1 t175 t176 _ A26.out).mono ?_); rintro e w73 ⟨rfl, hb⟩; refine ⟨_, rfl, ?_⟩; have n0_ := Aside0.mk (below_step (by repeat (first | (with_reducible first | exact HB.out | apply below_alloc | apply pw_below_drewN | apply below_drew1) | exact HB.out)) hb); clear HB; have HB := n0_; clear n0_; (try clear hb); (try clear hb2); (try clear hk); (try clear hi)) | ((with_reducible refine gate_callee (f := 11) rfl ?_); refine goesL_ (some 79) rfl rfl Try.func11 (by kernel_rfl) rfl #[.int .i64 t173, .int .i64 a1, .int .i64 a2] rfl (by (try simp only [List.map_toArray, List.map_cons, List.map_nil]); first | done | rfl | (simp only [List.length_drop, List.length_take]; rfl)) ?_; (with_reducible refine (distaffref01_Do.calls kj6 t173 a1 a2 t177 t178 _ A27.out).mono ?_); rintro e w74 ⟨rfl, hb⟩; refine ⟨_, rfl, ?_⟩; have n0_ := Aside0.mk (below_step (by repeat (first | (with_reducible first | exact HB.out | apply below_alloc | apply pw_below_drewN | apply below_drew1) | exact HB.out)) hb); clear HB; have HB := n0_; clear n0_; (try clear hb); (try clear hb2); (try clear hk); (try clear hi)) | ((with_reducible refine gate_callee (f := 13) rfl ?_); refine goesL_ (some 82) rfl rfl Try.func13 (by kernel_rfl) rfl #[] rfl (by (try simp only [List.map_toArray, List.map_cons, List.map_nil]); first | done | rfl | (simp only [List.length_drop, List.length_take]; rfl)) ?_; (with_reducible refine (distafflaw01_awake.calls kj6  true _ A28.out).mono ?_); rintro e w' ⟨rfl, ⟨nd, rfl⟩⟩; refine ⟨_, rfl, ?_⟩))
                    go_ret
                    exact ⟨by first | rfl | (simp [errW_none, errW_some] <;> rfl) | (simp [*, errW_none, errW_some] <;> rfl), by repeat (first | (with_reducible first | exact HB.out | apply below_alloc | apply pw_below_drewN | apply below_drew1) | exact HB.out)⟩
            · rw [if_neg c54] at H
              have c54b0 : (t171 == 0) = false := beq_eq_false_iff_ne.mpr c54
              have c54b1 : (t171 != 0) = true := bne_iff_ne.mpr c54
              by_cases c75 : t170 = true
              · subst c75
                have H1 : (if t176 = true then (if t169 = t175 then (if t174 = true then (if t178 = true then (some ((wrap64 (t169 + t177)) == 1)) else (some false)) else (if t173 = 0 then (some true) else (if t178 = true then (some ((wrap64 (t169 + t177)) == 1)) else (some false)))) else (some false)) else (some false)) = some r := by rw [if_pos rfl] at H; exact H
                clear H
                have H := H1
                clear H1
                by_cases c76 : t176 = true
                · subst c76
                  have H1 : (if t169 = t175 then (if t174 = true then (if t178 = true then (some ((wrap64 (t169 + t177)) == 1)) else (some false)) else (if t173 = 0 then (some true) else (if t178 = true then (some ((wrap64 (t169 + t177)) == 1)) else (some false)))) else (some false)) = some r := by rw [if_pos rfl] at H; exact H
                  clear H
                  have H := H1
                  clear H1
                  by_cases c77 : t169 = t175
                  · rw [if_pos c77] at H
                    have c77b0 : (t169 == t175) = true := beq_iff_eq.mpr c77
                    have c77b1 : (t169 != t175) = false := bne_eq_false_iff_eq.mpr c77
                    clear c77
                    by_cases c78 : t174 = true
                    · subst c78
                      have H1 : (if t178 = true then (some ((wrap64 (t169 + t177)) == 1)) else (some false)) = some r := by rw [if_pos rfl] at H; exact H
                      clear H
                      have H := H1
                      clear H1
                      by_cases c79 : t178 = true
                      · subst c79
                        have H1 : (some ((wrap64 (t169 + t177)) == 1)) = some r := by rw [if_pos rfl] at H; exact H
                        clear H
                        have H := H1
                        clear H1
                        obtain rfl := Option.some.inj H
                        go_wp2_with (first | ((with_reducible refine gate_callee (f := 11) rfl ?_); refine goesL_ (some 72) rfl rfl Try.func11 (by kernel_rfl) rfl #[.int .i64 t171, .int .i64 a2, .int .i64 a1] rfl (by (try simp only [List.map_toArray, List.map_cons, List.map_nil]); first | done | rfl | (simp only [List.length_drop, List.length_take]; rfl)) ?_; (with_reducible refine (distaffref01_Do.calls kj6 t171 a2 a1 t175 true _ A26.out).mono ?_); rintro e w80 ⟨rfl, hb⟩; refine ⟨_, rfl, ?_⟩; have n0_ := Aside0.mk (below_step (by repeat (first | (with_reducible first | exact HB.out | apply below_alloc | apply pw_below_drewN | apply below_drew1) | exact HB.out)) hb); clear HB; have HB := n0_; clear n0_; (try clear hb); (try clear hb2); (try clear hk); (try clear hi)) | ((with_reducible refine gate_callee (f := 11) rfl ?_); refine goesL_ (some 79) rfl rfl Try.func11 (by kernel_rfl) rfl #[.int .i64 t173, .int .i64 a1, .int .i64 a2] rfl (by (try simp only [List.map_toArray, List.map_cons, List.map_nil]); first | done | rfl | (simp only [List.length_drop, List.length_take]; rfl)) ?_; (with_reducible refine (distaffref01_Do.calls kj6 t173 a1 a2 t177 true _ A27.out).mono ?_); rintro e w81 ⟨rfl, hb⟩; refine ⟨_, rfl, ?_⟩; have n0_ := Aside0.mk (below_step (by repeat (first | (with_reducible first | exact HB.out | apply below_alloc | apply pw_below_drewN | apply below_drew1) | exact HB.out)) hb); clear HB; have HB := n0_; clear n0_; (try clear hb); (try clear hb2); (try clear hk); (try clear hi)) | ((with_reducible refine gate_callee (f := 13) rfl ?_); refine goesL_ (some 82) rfl rfl Try.func13 (by kernel_rfl) rfl #[] rfl (by (try simp only [List.map_toArray, List.map_cons, List.map_nil]); first | done | rfl | (simp only [List.length_drop, List.length_take]; rfl)) ?_; (with_reducible refine (distafflaw01_awake.calls kj6  true _ A28.out).mono ?_); rintro e w' ⟨rfl, ⟨nd, rfl⟩⟩; refine ⟨_, rfl, ?_⟩))
                        go_ret
                        exact ⟨by first | rfl | (simp [errW_none, errW_some] <;> rfl) | (simp [*, errW_none, errW_some] <;> rfl), by repeat (first | (with_reducible first | exact HB.out | apply below_alloc | apply pw_below_drewN | apply below_drew1) | exact HB.out)⟩
                      · replace c79 := Bool.eq_false_iff.mpr c79
                        subst c79
                        have H1 : (some false) = some r := by rw [if_neg (show ¬ (false = true) by decide)] at H; exact H
                        clear H
                        have H := H1
                        clear H1
                        obtain rfl := Option.some.inj H
                        go_wp2_with (first | ((with_reducible refine gate_callee (f := 11) rfl ?_); refine goesL_ (some 72) rfl rfl Try.func11 (by kernel_rfl) rfl #[.int .i64 t171, .int .i64 a2, .int .i64 a1] rfl (by (try simp only [List.map_toArray, List.map_cons, List.map_nil]); first | done | rfl | (simp only [List.length_drop, List.length_take]; rfl)) ?_; (with_reducible refine (distaffref01_Do.calls kj6 t171 a2 a1 t175 true _ A26.out).mono ?_); rintro e w82 ⟨rfl, hb⟩; refine ⟨_, rfl, ?_⟩; have n0_ := Aside0.mk (below_step (by repeat (first | (with_reducible first | exact HB.out | apply below_alloc | apply pw_below_drewN | apply below_drew1) | exact HB.out)) hb); clear HB; have HB := n0_; clear n0_; (try clear hb); (try clear hb2); (try clear hk); (try clear hi)) | ((with_reducible refine gate_callee (f := 11) rfl ?_); refine goesL_ (some 79) rfl rfl Try.func11 (by kernel_rfl) rfl #[.int .i64 t173, .int .i64 a1, .int .i64 a2] rfl (by (try simp only [List.map_toArray, List.map_cons, List.map_nil]); first | done | rfl | (simp only [List.length_drop, List.length_take]; rfl)) ?_; (with_reducible refine (distaffref01_Do.calls kj6 t173 a1 a2 t177 false _ A27.out).mono ?_); rintro e w83 ⟨rfl, hb⟩; refine ⟨_, rfl, ?_⟩; have n0_ := Aside0.mk (below_step (by repeat (first | (with_reducible first | exact HB.out | apply below_alloc | apply pw_below_drewN | apply below_drew1) | exact HB.out)) hb); clear HB; have HB := n0_; clear n0_; (try clear hb); (try clear hb2); (try clear hk); (try clear hi)) | ((with_reducible refine gate_callee (f := 13) rfl ?_); refine goesL_ (some 82) rfl rfl Try.func13 (by kernel_rfl) rfl #[] rfl (by (try simp only [List.map_toArray, List.map_cons, List.map_nil]); first | done | rfl | (simp only [List.length_drop, List.length_take]; rfl)) ?_; (with_reducible refine (distafflaw01_awake.calls kj6  true _ A28.out).mono ?_); rintro e w' ⟨rfl, ⟨nd, rfl⟩⟩; refine ⟨_, rfl, ?_⟩))
                        go_ret
                        exact ⟨by first | rfl | (simp [errW_none, errW_some] <;> rfl) | (simp [*, errW_none, errW_some] <;> rfl), by repeat (first | (with_reducible first | exact HB.out | apply below_alloc | apply pw_below_drewN | apply below_drew1) | exact HB.out)⟩
                    · replace c78 := Bool.eq_false_iff.mpr c78
                      subst c78
                      have H1 : (if t173 = 0 then (some true) else (if t178 = true then (some ((wrap64 (t169 + t177)) == 1)) else (some false))) = some r := by rw [if_neg (show ¬ (false = true) by decide)] at H; exact H
                      clear H
                      have H := H1
                      clear H1
                      by_cases c84 : t173 = 0
                      · rw [if_pos c84] at H
                        have c84b0 : (t173 == 0) = true := beq_iff_eq.mpr c84
                        have c84b1 : (t173 != 0) = false := bne_eq_false_iff_eq.mpr c84
                        clear c84
                        obtain rfl := Option.some.inj H
                        go_wp2_with (first | ((with_reducible refine gate_callee (f := 11) rfl ?_); refine goesL_ (some 72) rfl rfl Try.func11 (by kernel_rfl) rfl #[.int .i64 t171, .int .i64 a2, .int .i64 a1] rfl (by (try simp only [List.map_toArray, List.map_cons, List.map_nil]); first | done | rfl | (simp only [List.length_drop, List.length_take]; rfl)) ?_; (with_reducible refine (distaffref01_Do.calls kj6 t171 a2 a1 t175 true _ A26.out).mono ?_); rintro e w85 ⟨rfl, hb⟩; refine ⟨_, rfl, ?_⟩; have n0_ := Aside0.mk (below_step (by repeat (first | (with_reducible first | exact HB.out | apply below_alloc | apply pw_below_drewN | apply below_drew1) | exact HB.out)) hb); clear HB; have HB := n0_; clear n0_; (try clear hb); (try clear hb2); (try clear hk); (try clear hi)) | ((with_reducible refine gate_callee (f := 11) rfl ?_); refine goesL_ (some 79) rfl rfl Try.func11 (by kernel_rfl) rfl #[.int .i64 t173, .int .i64 a1, .int .i64 a2] rfl (by (try simp only [List.map_toArray, List.map_cons, List.map_nil]); first | done | rfl | (simp only [List.length_drop, List.length_take]; rfl)) ?_; (with_reducible refine (distaffref01_Do.calls kj6 t173 a1 a2 t177 t178 _ A27.out).mono ?_); rintro e w86 ⟨rfl, hb⟩; refine ⟨_, rfl, ?_⟩; have n0_ := Aside0.mk (below_step (by repeat (first | (with_reducible first | exact HB.out | apply below_alloc | apply pw_below_drewN | apply below_drew1) | exact HB.out)) hb); clear HB; have HB := n0_; clear n0_; (try clear hb); (try clear hb2); (try clear hk); (try clear hi)) | ((with_reducible refine gate_callee (f := 13) rfl ?_); refine goesL_ (some 82) rfl rfl Try.func13 (by kernel_rfl) rfl #[] rfl (by (try simp only [List.map_toArray, List.map_cons, List.map_nil]); first | done | rfl | (simp only [List.length_drop, List.length_take]; rfl)) ?_; (with_reducible refine (distafflaw01_awake.calls kj6  true _ A28.out).mono ?_); rintro e w' ⟨rfl, ⟨nd, rfl⟩⟩; refine ⟨_, rfl, ?_⟩))
                        go_ret
                        exact ⟨by first | rfl | (simp [errW_none, errW_some] <;> rfl) | (simp [*, errW_none, errW_some] <;> rfl), by repeat (first | (with_reducible first | exact HB.out | apply below_alloc | apply pw_below_drewN | apply below_drew1) | exact HB.out)⟩
                      · rw [if_neg c84] at H
                        have c84b0 : (t173 == 0) = false := beq_eq_false_iff_ne.mpr c84
                        have c84b1 : (t173 != 0) = true := bne_iff_ne.mpr c84
                        by_cases c87 : t178 = true
                        · subst c87
                          have H1 : (some ((wrap64 (t169 + t177)) == 1)) = some r := by rw [if_pos rfl] at H; exact H
                          clear H
                          have H := H1
                          clear H1
                          obtain rfl := Option.some.inj H
                          go_wp2_with (first | ((with_reducible refine gate_callee (f := 11) rfl ?_); refine goesL_ (some 72) rfl rfl Try.func11 (by kernel_rfl) rfl #[.int .i64 t171, .int .i64 a2, .int .i64 a1] rfl (by (try simp only [List.map_toArray, List.map_cons, List.map_nil]); first | done | rfl | (simp only [List.length_drop, List.length_take]; rfl)) ?_; (with_reducible refine (distaffref01_Do.calls kj6 t171 a2 a1 t175 true _ A26.out).mono ?_); rintro e w88 ⟨rfl, hb⟩; refine ⟨_, rfl, ?_⟩; have n0_ := Aside0.mk (below_step (by repeat (first | (with_reducible first | exact HB.out | apply below_alloc | apply pw_below_drewN | apply below_drew1) | exact HB.out)) hb); clear HB; have HB := n0_; clear n0_; (try clear hb); (try clear hb2); (try clear hk); (try clear hi)) | ((with_reducible refine gate_callee (f := 11) rfl ?_); refine goesL_ (some 79) rfl rfl Try.func11 (by kernel_rfl) rfl #[.int .i64 t173, .int .i64 a1, .int .i64 a2] rfl (by (try simp only [List.map_toArray, List.map_cons, List.map_nil]); first | done | rfl | (simp only [List.length_drop, List.length_take]; rfl)) ?_; (with_reducible refine (distaffref01_Do.calls kj6 t173 a1 a2 t177 true _ A27.out).mono ?_); rintro e w89 ⟨rfl, hb⟩; refine ⟨_, rfl, ?_⟩; have n0_ := Aside0.mk (below_step (by repeat (first | (with_reducible first | exact HB.out | apply below_alloc | apply pw_below_drewN | apply below_drew1) | exact HB.out)) hb); clear HB; have HB := n0_; clear n0_; (try clear hb); (try clear hb2); (try clear hk); (try clear hi)) | ((with_reducible refine gate_callee (f := 13) rfl ?_); refine goesL_ (some 82) rfl rfl Try.func13 (by kernel_rfl) rfl #[] rfl (by (try simp only [List.map_toArray, List.map_cons, List.map_nil]); first | done | rfl | (simp only [List.length_drop, List.length_take]; rfl)) ?_; (with_reducible refine (distafflaw01_awake.calls kj6  true _ A28.out).mono ?_); rintro e w' ⟨rfl, ⟨nd, rfl⟩⟩; refine ⟨_, rfl, ?_⟩))
                          go_ret
                          exact ⟨by first | rfl | (simp [errW_none, errW_some] <;> rfl) | (simp [*, errW_none, errW_some] <;> rfl), by repeat (first | (with_reducible first | exact HB.out | apply below_alloc | apply pw_below_drewN | apply below_drew1) | exact HB.out)⟩
                        · replace c87 := Bool.eq_false_iff.mpr c87
                          subst c87
                          have H1 : (some false) = some r := by rw [if_neg (show ¬ (false = true) by decide)] at H; exact H
                          clear H
                          have H := H1
                          clear H1
                          obtain rfl := Option.some.inj H
                          go_wp2_with (first | ((with_reducible refine gate_callee (f := 11) rfl ?_); refine goesL_ (some 72) rfl rfl Try.func11 (by kernel_rfl) rfl #[.int .i64 t171, .int .i64 a2, .int .i64 a1] rfl (by (try simp only [List.map_toArray, List.map_cons, List.map_nil]); first | done | rfl | (simp only [List.length_drop, List.length_take]; rfl)) ?_; (with_reducible refine (distaffref01_Do.calls kj6 t171 a2 a1 t175 true _ A26.out).mono ?_); rintro e w90 ⟨rfl, hb⟩; refine ⟨_, rfl, ?_⟩; have n0_ := Aside0.mk (below_step (by repeat (first | (with_reducible first | exact HB.out | apply below_alloc | apply pw_below_drewN | apply below_drew1) | exact HB.out)) hb); clear HB; have HB := n0_; clear n0_; (try clear hb); (try clear hb2); (try clear hk); (try clear hi)) | ((with_reducible refine gate_callee (f := 11) rfl ?_); refine goesL_ (some 79) rfl rfl Try.func11 (by kernel_rfl) rfl #[.int .i64 t173, .int .i64 a1, .int .i64 a2] rfl (by (try simp only [List.map_toArray, List.map_cons, List.map_nil]); first | done | rfl | (simp only [List.length_drop, List.length_take]; rfl)) ?_; (with_reducible refine (distaffref01_Do.calls kj6 t173 a1 a2 t177 false _ A27.out).mono ?_); rintro e w91 ⟨rfl, hb⟩; refine ⟨_, rfl, ?_⟩; have n0_ := Aside0.mk (below_step (by repeat (first | (with_reducible first | exact HB.out | apply below_alloc | apply pw_below_drewN | apply below_drew1) | exact HB.out)) hb); clear HB; have HB := n0_; clear n0_; (try clear hb); (try clear hb2); (try clear hk); (try clear hi)) | ((with_reducible refine gate_callee (f := 13) rfl ?_); refine goesL_ (some 82) rfl rfl Try.func13 (by kernel_rfl) rfl #[] rfl (by (try simp only [List.map_toArray, List.map_cons, List.map_nil]); first | done | rfl | (simp only [List.length_drop, List.length_take]; rfl)) ?_; (with_reducible refine (distafflaw01_awake.calls kj6  true _ A28.out).mono ?_); rintro e w' ⟨rfl, ⟨nd, rfl⟩⟩; refine ⟨_, rfl, ?_⟩))
                          go_ret
                          exact ⟨by first | rfl | (simp [errW_none, errW_some] <;> rfl) | (simp [*, errW_none, errW_some] <;> rfl), by repeat (first | (with_reducible first | exact HB.out | apply below_alloc | apply pw_below_drewN | apply below_drew1) | exact HB.out)⟩
                  · rw [if_neg c77] at H
                    have c77b0 : (t169 == t175) = false := beq_eq_false_iff_ne.mpr c77
                    have c77b1 : (t169 != t175) = true := bne_iff_ne.mpr c77
                    obtain rfl := Option.some.inj H
                    go_wp2_with (first | ((with_reducible refine gate_callee (f := 11) rfl ?_); refine goesL_ (some 72) rfl rfl Try.func11 (by kernel_rfl) rfl #[.int .i64 t171, .int .i64 a2, .int .i64 a1] rfl (by (try simp only [List.map_toArray, List.map_cons, List.map_nil]); first | done | rfl | (simp only [List.length_drop, List.length_take]; rfl)) ?_; (with_reducible refine (distaffref01_Do.calls kj6 t171 a2 a1 t175 true _ A26.out).mono ?_); rintro e w92 ⟨rfl, hb⟩; refine ⟨_, rfl, ?_⟩; have n0_ := Aside0.mk (below_step (by repeat (first | (with_reducible first | exact HB.out | apply below_alloc | apply pw_below_drewN | apply below_drew1) | exact HB.out)) hb); clear HB; have HB := n0_; clear n0_; (try clear hb); (try clear hb2); (try clear hk); (try clear hi)) | ((with_reducible refine gate_callee (f := 11) rfl ?_); refine goesL_ (some 79) rfl rfl Try.func11 (by kernel_rfl) rfl #[.int .i64 t173, .int .i64 a1, .int .i64 a2] rfl (by (try simp only [List.map_toArray, List.map_cons, List.map_nil]); first | done | rfl | (simp only [List.length_drop, List.length_take]; rfl)) ?_; (with_reducible refine (distaffref01_Do.calls kj6 t173 a1 a2 t177 t178 _ A27.out).mono ?_); rintro e w93 ⟨rfl, hb⟩; refine ⟨_, rfl, ?_⟩; have n0_ := Aside0.mk (below_step (by repeat (first | (with_reducible first | exact HB.out | apply below_alloc | apply pw_below_drewN | apply below_drew1) | exact HB.out)) hb); clear HB; have HB := n0_; clear n0_; (try clear hb); (try clear hb2); (try clear hk); (try clear hi)) | ((with_reducible refine gate_callee (f := 13) rfl ?_); refine goesL_ (some 82) rfl rfl Try.func13 (by kernel_rfl) rfl #[] rfl (by (try simp only [List.map_toArray, List.map_cons, List.map_nil]); first | done | rfl | (simp only [List.length_drop, List.length_take]; rfl)) ?_; (with_reducible refine (distafflaw01_awake.calls kj6  true _ A28.out).mono ?_); rintro e w' ⟨rfl, ⟨nd, rfl⟩⟩; refine ⟨_, rfl, ?_⟩))
                    go_ret
                    exact ⟨by first | rfl | (simp [errW_none, errW_some] <;> rfl) | (simp [*, errW_none, errW_some] <;> rfl), by repeat (first | (with_reducible first | exact HB.out | apply below_alloc | apply pw_below_drewN | apply below_drew1) | exact HB.out)⟩
                · replace c76 := Bool.eq_false_iff.mpr c76
                  subst c76
                  have H1 : (some false) = some r := by rw [if_neg (show ¬ (false = true) by decide)] at H; exact H
                  clear H
                  have H := H1
                  clear H1
                  obtain rfl := Option.some.inj H
                  go_wp2_with (first | ((with_reducible refine gate_callee (f := 11) rfl ?_); refine goesL_ (some 72) rfl rfl Try.func11 (by kernel_rfl) rfl #[.int .i64 t171, .int .i64 a2, .int .i64 a1] rfl (by (try simp only [List.map_toArray, List.map_cons, List.map_nil]); first | done | rfl | (simp only [List.length_drop, List.length_take]; rfl)) ?_; (with_reducible refine (distaffref01_Do.calls kj6 t171 a2 a1 t175 false _ A26.out).mono ?_); rintro e w94 ⟨rfl, hb⟩; refine ⟨_, rfl, ?_⟩; have n0_ := Aside0.mk (below_step (by repeat (first | (with_reducible first | exact HB.out | apply below_alloc | apply pw_below_drewN | apply below_drew1) | exact HB.out)) hb); clear HB; have HB := n0_; clear n0_; (try clear hb); (try clear hb2); (try clear hk); (try clear hi)) | ((with_reducible refine gate_callee (f := 11) rfl ?_); refine goesL_ (some 79) rfl rfl Try.func11 (by kernel_rfl) rfl #[.int .i64 t173, .int .i64 a1, .int .i64 a2] rfl (by (try simp only [List.map_toArray, List.map_cons, List.map_nil]); first | done | rfl | (simp only [List.length_drop, List.length_take]; rfl)) ?_; (with_reducible refine (distaffref01_Do.calls kj6 t173 a1 a2 t177 t178 _ A27.out).mono ?_); rintro e w95 ⟨rfl, hb⟩; refine ⟨_, rfl, ?_⟩; have n0_ := Aside0.mk (below_step (by repeat (first | (with_reducible first | exact HB.out | apply below_alloc | apply pw_below_drewN | apply below_drew1) | exact HB.out)) hb); clear HB; have HB := n0_; clear n0_; (try clear hb); (try clear hb2); (try clear hk); (try clear hi)) | ((with_reducible refine gate_callee (f := 13) rfl ?_); refine goesL_ (some 82) rfl rfl Try.func13 (by kernel_rfl) rfl #[] rfl (by (try simp only [List.map_toArray, List.map_cons, List.map_nil]); first | done | rfl | (simp only [List.length_drop, List.length_take]; rfl)) ?_; (with_reducible refine (distafflaw01_awake.calls kj6  true _ A28.out).mono ?_); rintro e w' ⟨rfl, ⟨nd, rfl⟩⟩; refine ⟨_, rfl, ?_⟩))
                  go_ret
                  exact ⟨by first | rfl | (simp [errW_none, errW_some] <;> rfl) | (simp [*, errW_none, errW_some] <;> rfl), by repeat (first | (with_reducible first | exact HB.out | apply below_alloc | apply pw_below_drewN | apply below_drew1) | exact HB.out)⟩
              · replace c75 := Bool.eq_false_iff.mpr c75
                subst c75
                have H1 : (some false) = some r := by rw [if_neg (show ¬ (false = true) by decide)] at H; exact H
                clear H
                have H := H1
                clear H1
                obtain rfl := Option.some.inj H
                go_wp2_with (first | ((with_reducible refine gate_callee (f := 11) rfl ?_); refine goesL_ (some 72) rfl rfl Try.func11 (by kernel_rfl) rfl #[.int .i64 t171, .int .i64 a2, .int .i64 a1] rfl (by (try simp only [List.map_toArray, List.map_cons, List.map_nil]); first | done | rfl | (simp only [List.length_drop, List.length_take]; rfl)) ?_; (with_reducible refine (distaffref01_Do.calls kj6 t171 a2 a1 t175 t176 _ A26.out).mono ?_); rintro e w96 ⟨rfl, hb⟩; refine ⟨_, rfl, ?_⟩; have n0_ := Aside0.mk (below_step (by repeat (first | (with_reducible first | exact HB.out | apply below_alloc | apply pw_below_drewN | apply below_drew1) | exact HB.out)) hb); clear HB; have HB := n0_; clear n0_; (try clear hb); (try clear hb2); (try clear hk); (try clear hi)) | ((with_reducible refine gate_callee (f := 11) rfl ?_); refine goesL_ (some 79) rfl rfl Try.func11 (by kernel_rfl) rfl #[.int .i64 t173, .int .i64 a1, .int .i64 a2] rfl (by (try simp only [List.map_toArray, List.map_cons, List.map_nil]); first | done | rfl | (simp only [List.length_drop, List.length_take]; rfl)) ?_; (with_reducible refine (distaffref01_Do.calls kj6 t173 a1 a2 t177 t178 _ A27.out).mono ?_); rintro e w97 ⟨rfl, hb⟩; refine ⟨_, rfl, ?_⟩; have n0_ := Aside0.mk (below_step (by repeat (first | (with_reducible first | exact HB.out | apply below_alloc | apply pw_below_drewN | apply below_drew1) | exact HB.out)) hb); clear HB; have HB := n0_; clear n0_; (try clear hb); (try clear hb2); (try clear hk); (try clear hi)) | ((with_reducible refine gate_callee (f := 13) rfl ?_); refine goesL_ (some 82) rfl rfl Try.func13 (by kernel_rfl) rfl #[] rfl (by (try simp only [List.map_toArray, List.map_cons, List.map_nil]); first | done | rfl | (simp only [List.length_drop, List.length_take]; rfl)) ?_; (with_reducible refine (distafflaw01_awake.calls kj6  true _ A28.out).mono ?_); rintro e w' ⟨rfl, ⟨nd, rfl⟩⟩; refine ⟨_, rfl, ?_⟩))
                go_ret
                exact ⟨by first | rfl | (simp [errW_none, errW_some] <;> rfl) | (simp [*, errW_none, errW_some] <;> rfl), by repeat (first | (with_reducible first | exact HB.out | apply below_alloc | apply pw_below_drewN | apply below_drew1) | exact HB.out)⟩
        · replace c29 := Bool.eq_false_iff.mpr c29
          subst c29
          have H1 : (some false) = some r := by rw [if_neg (show ¬ (false = true) by decide)] at H; exact H
          clear H
          have H := H1
          clear H1
          obtain rfl := Option.some.inj H
          go_wp2_with (first | ((with_reducible refine gate_callee (f := 11) rfl ?_); refine goesL_ (some 72) rfl rfl Try.func11 (by kernel_rfl) rfl #[.int .i64 t171, .int .i64 a2, .int .i64 a1] rfl (by (try simp only [List.map_toArray, List.map_cons, List.map_nil]); first | done | rfl | (simp only [List.length_drop, List.length_take]; rfl)) ?_; (with_reducible refine (distaffref01_Do.calls kj6 t171 a2 a1 t175 t176 _ A26.out).mono ?_); rintro e w98 ⟨rfl, hb⟩; refine ⟨_, rfl, ?_⟩; have n0_ := Aside0.mk (below_step (by repeat (first | (with_reducible first | exact HB.out | apply below_alloc | apply pw_below_drewN | apply below_drew1) | exact HB.out)) hb); clear HB; have HB := n0_; clear n0_; (try clear hb); (try clear hb2); (try clear hk); (try clear hi)) | ((with_reducible refine gate_callee (f := 11) rfl ?_); refine goesL_ (some 79) rfl rfl Try.func11 (by kernel_rfl) rfl #[.int .i64 t173, .int .i64 a1, .int .i64 a2] rfl (by (try simp only [List.map_toArray, List.map_cons, List.map_nil]); first | done | rfl | (simp only [List.length_drop, List.length_take]; rfl)) ?_; (with_reducible refine (distaffref01_Do.calls kj6 t173 a1 a2 t177 t178 _ A27.out).mono ?_); rintro e w99 ⟨rfl, hb⟩; refine ⟨_, rfl, ?_⟩; have n0_ := Aside0.mk (below_step (by repeat (first | (with_reducible first | exact HB.out | apply below_alloc | apply pw_below_drewN | apply below_drew1) | exact HB.out)) hb); clear HB; have HB := n0_; clear n0_; (try clear hb); (try clear hb2); (try clear hk); (try clear hi)) | ((with_reducible refine gate_callee (f := 13) rfl ?_); refine goesL_ (some 82) rfl rfl Try.func13 (by kernel_rfl) rfl #[] rfl (by (try simp only [List.map_toArray, List.map_cons, List.map_nil]); first | done | rfl | (simp only [List.length_drop, List.length_take]; rfl)) ?_; (with_reducible refine (distafflaw01_awake.calls kj6  false _ A28.out).mono ?_); rintro e w' ⟨rfl, ⟨nd, rfl⟩⟩; refine ⟨_, rfl, ?_⟩))
          go_ret
          exact ⟨by first | rfl | (simp [errW_none, errW_some] <;> rfl) | (simp [*, errW_none, errW_some] <;> rfl), by repeat (first | (with_reducible first | exact HB.out | apply below_alloc | apply pw_below_drewN | apply below_drew1) | exact HB.out)⟩

/-- THE ONE PURE STATEMENT of distafflaw01_ArithTurns: yours. -/
def distafflaw01_ArithTurns.Pure : Prop := ∀ (a0 : Int) (a1 : Int) (a2 : Int), (Lit.int .i64 a0).wf = true → (Lit.int .i64 a1).wf = true → (Lit.int .i64 a2).wf = true → ∃ k, distafflaw01_ArithTurns.f k a0 a1 a2 = some true
theorem distafflaw01_ArithTurns.walk (P : distafflaw01_ArithTurns.Pure) (a0 : Int) (a1 : Int) (a2 : Int) (w : World) (w0 : (Lit.int .i64 a0).wf = true) (w1 : (Lit.int .i64 a1).wf = true) (w2 : (Lit.int .i64 a2).wf = true) :
    Calls Try.prog 9 #[.int .i64 a0, .int .i64 a1, .int .i64 a2] w fun e w' => e = .returned (.bool true) ∧ Below w.heap.size w w' := by
  obtain ⟨k, h⟩ := P a0 a1 a2 w0 w1 w2
  refine (distafflaw01_ArithTurns.calls k a0 a1 a2 true w h).mono ?_
  rintro e w' ⟨rfl, hd⟩
  exact ⟨rfl, hd⟩

end Go.Proofs.Ytoojmpcpbnlkaaa.PArithTurns
