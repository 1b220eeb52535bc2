/- The contract of the Go function of the statement MachineNone: a run by the kernel over symbols for its numbers, which the soundness of the run carries to every world. No further condition. -/
import Derived.Test.YtgnnolimeapliaaSimK
import Derived.Test.YtgnnolimeapliaaProg
import Derived.KernelRfl
namespace Go.Proofs.Ytgnnolimeapliaa.PMachineNone
open Go Go.RowKit Go.Proofs.Ytgnnolimeapliaa.Sim
theorem nm : (Try.prog.funcs.toList.all fun fn => fn.body.isNone || !(fn.name == "runtime.NumGoroutine")) = true := by kernel_rfl
theorem mo : Try.prog.follows .mixedOrders = true := by kernel_rfl
/- Two numbers with names of their own: the words' low bits, and what is made of them; three cases of the fuel. -/
def E (a0 a1 : Int) : Nat → Int := fun i => match i with | 0 => a0 | 1 => a1 | 2 => (lowBits a0 1023 : Nat) | 3 => -1 - (lowBits a0 1023 : Nat) | 4 => 4194305 + (lowBits a0 1023 : Nat) | _ => 0
def F : List Fact := ⟨.and, .i64, .sym 0, .lit 1023, .sym .i64 2⟩ :: ⟨.sub, .i64, .lit (-1), .sym 2, .sym .i64 3⟩ :: ⟨.add, .i64, .lit 4194305, .sym 2, .sym .i64 4⟩ :: (cmpFacts .i64 (.sym 3) (.lit 0) .lt ++ (cmpFacts .i64 (.sym 4) (.lit 4194304) .gt ++ cmpFacts .i64 (.sym 4) (.lit 0) .gt))
def G (c : Ordering) : List Fact := cmpFacts .i64 (.sym 1) (.lit 0) c ++ F
set_option maxRecDepth 100000 in
theorem ran1 : askB true (callA Try.prog (ctxOf Try.prog (G .lt)) 100 4 [.sym .i64 0, .sym .i64 1] .nil 0) = true := by kernel_rfl
set_option maxRecDepth 100000 in
theorem ran2 : askB true (callA Try.prog (ctxOf Try.prog F) 100 4 [.sym .i64 0, .int .i64 0] .nil 0) = true := by kernel_rfl
set_option maxRecDepth 100000 in
theorem ran3 : askB true (callA Try.prog (ctxOf Try.prog (G .gt)) 100 4 [.sym .i64 0, .sym .i64 1] .nil 0) = true := by kernel_rfl
theorem F_ok (a0 a1 : Int) : ∀ f ∈ F, FactOk Try.prog (E a0 a1) f := by
  have hle := lowBits_le a0 1023
  have e2 : E a0 a1 2 = (lowBits a0 1023 : Nat) := rfl
  have e3 : E a0 a1 3 = -1 - (lowBits a0 1023 : Nat) := rfl
  have e4 : E a0 a1 4 = 4194305 + (lowBits a0 1023 : Nat) := rfl
  refine cons_ok (fo_and (n := 1023) (by decide) rfl rfl) (cons_ok (fo_sub rfl ?_ ?_) (cons_ok (fo_add rfl ?_ ?_) (app_ok (cmp_ok (.inl ⟨rfl, ?_⟩)) (app_ok (cmp_ok (.inr (.inr ⟨rfl, ?_⟩))) (cmp_ok (.inr (.inr ⟨rfl, ?_⟩))))))) <;> simp only [numV, e2, e3, e4] <;> omega
theorem distafflaw34_MachineNone.calls (a0 : Int) (a1 : Int) (r : Bool) (w : World) (h : r = true) :
    Calls Try.prog 4 #[.int .i64 a0, .int .i64 a1] w fun e w' => e = .returned (.bool r) ∧ Below w.heap.size w w' := by
  subst h
  have cm : ∀ c, ((c = .lt ∧ a1 < 0) ∨ (c = .eq ∧ a1 = 0) ∨ (c = .gt ∧ 0 < a1)) → ∀ f ∈ G c, FactOk Try.prog (E a0 a1) f := fun c e => app_ok (cmp_ok e) (F_ok a0 a1)
  have vr : VRs (E a0 a1) (fun _ _ _ _ _ => False) [.sym .i64 0, .sym .i64 1] #[.int .i64 a0, .int .i64 a1] := vrs_cons (.sym .i64 0) (vrs1 (.sym .i64 1))
  rcases Int.lt_trichotomy a1 0 with e | e | e
  · exact calls_bool (ctx_ok nm (cm _ (.inl ⟨rfl, e⟩))) mo ran1 vr w
  · subst e
    exact calls_bool (env := E a0 0) (ctx_ok nm (F_ok a0 0)) mo ran2 (vrs_cons (.sym .i64 0) (vrs1 (.int .i64 0))) w
  · exact calls_bool (ctx_ok nm (cm _ (.inr (.inr ⟨rfl, e⟩)))) mo ran3 vr w

end Go.Proofs.Ytgnnolimeapliaa.PMachineNone
