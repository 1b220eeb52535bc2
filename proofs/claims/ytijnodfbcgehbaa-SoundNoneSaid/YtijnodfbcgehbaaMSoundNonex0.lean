/- The contract of the Go function of the statement SoundNone: a run by the kernel over symbols for its numbers, which the soundness of the run carries to every world. No further condition. -/
import Derived.Test.YtijnodfbcgehbaaSimJ
import Derived.Test.YtijnodfbcgehbaaProg
import Derived.KernelRfl
namespace Go.Proofs.Ytijnodfbcgehbaa.PSoundNone
open Go Go.RowKit Go.Proofs.Ytijnodfbcgehbaa.Sim
theorem nm : (Try.prog.funcs.toList.all fun fn => fn.body.isNone || !(fn.name == "runtime.NumGoroutine")) = true := by kernel_rfl
theorem mo : Try.prog.follows .mixedOrders = true := by kernel_rfl
/- Two cases: the number is less than none, or not. -/
def notLess : List Fact := [⟨.lss, .i64, .sym 0, .lit 0, .bool false⟩, ⟨.geq, .i64, .sym 0, .lit 0, .bool true⟩]
set_option maxRecDepth 100000 in
theorem ran1 : askB true (callA Try.prog (ctxOf Try.prog (cmpFacts .i64 (.sym 0) (.lit 0) .lt)) 100 3 [.sym .i64 0] .nil 0) = true := by kernel_rfl
set_option maxRecDepth 100000 in
theorem ran2 : askB true (callA Try.prog (ctxOf Try.prog notLess) 100 3 [.sym .i64 0] .nil 0) = true := by kernel_rfl
theorem distafflaw10_SoundNone.calls (a0 : Int) (r : Bool) (w : World) (h : r = true) :
    Calls Try.prog 3 #[.int .i64 a0] w fun e w' => e = .returned (.bool r) ∧ Below w.heap.size w w' := by
  subst h
  have cm : ∀ c, ((c = .lt ∧ a0 < 0) ∨ (c = .eq ∧ a0 = 0) ∨ (c = .gt ∧ 0 < a0)) → ∀ f ∈ cmpFacts .i64 (.sym 0) (.lit 0) c, FactOk Try.prog (fun i => match i with | 0 => a0 | _ => 0) f := fun c e => cmp_ok e
  by_cases e : a0 < 0
  · exact calls_bool (env := fun i => match i with | 0 => a0 | _ => 0) (ctx_ok nm (cm _ (.inl ⟨rfl, e⟩))) mo ran1 (vrs1 (.sym .i64 0)) w
  · exact calls_bool (env := fun i => match i with | 0 => a0 | _ => 0) (ctx_ok nm (cons_ok (fo_lss (by simp [numV]; omega)) (cons_ok (fo_geq (by simp [numV]; omega)) none_ok))) mo ran2 (vrs1 (.sym .i64 0)) w

end Go.Proofs.Ytijnodfbcgehbaa.PSoundNone
