/- The contract of the Go function of the statement ExecNone: a run by the kernel over symbols for its numbers, which the soundness of the run carries to every world. No further condition. -/
import Derived.Test.YtlabmbbkdfkkgaaSimL
import Derived.Test.YtlabmbbkdfkkgaaProg
import Derived.KernelRfl
namespace Go.Proofs.Ytlabmbbkdfkkgaa.PExecNone
open Go Go.RowKit Go.Proofs.Ytlabmbbkdfkkgaa.Sim
theorem nm : (Try.prog.funcs.toList.all fun fn => fn.body.isNone || !(fn.name == "runtime.NumGoroutine")) = true := by kernel_rfl
theorem mo : Try.prog.follows .mixedOrders = true := by kernel_rfl
/- The wake call is run once; three cases of the fuel. -/
set_option maxRecDepth 100000 in
theorem wakes : askB true (callA Try.prog (ctxOf Try.prog []) 100 7 [] .nil 0) = true := by kernel_rfl
theorem awake.calls (w : World) : Calls Try.prog 7 #[] w fun e w' => e = .returned (.bool true) ∧ Below w.heap.size w w' :=
  calls_bool (env := fun _ => 0) (ctx_ok nm none_ok) mo wakes vrs0 w
def K : List Known := [⟨7, [], .bool true⟩]
theorem K_has : (match (ctxOf Try.prog []).funcs.get 7 with | some fn => fn.body.isSome | none => false) = true := by kernel_rfl
theorem K_ok (facts : List Fact) (env : Nat → Int) : ∀ k ∈ K, KnownOk Try.prog (ctxOf Try.prog facts) env k := by
  intro k hk
  simp only [K, List.mem_cons, List.not_mem_nil, or_false] at hk
  subst hk
  exact known_bool K_has awake.calls
set_option maxRecDepth 100000 in
theorem ran1 : askB true (callK Try.prog (ctxOf Try.prog (cmpFacts .i64 (.sym 0) (.lit 0) .lt)) K 100 4 [.sym .i64 0] .nil 0) = true := by kernel_rfl
set_option maxRecDepth 100000 in
theorem ran2 : askB true (callK Try.prog (ctxOf Try.prog []) K 100 4 [.int .i64 0] .nil 0) = true := by kernel_rfl
set_option maxRecDepth 100000 in
theorem ran3 : askB true (callK Try.prog (ctxOf Try.prog (cmpFacts .i64 (.sym 0) (.lit 0) .gt)) K 100 4 [.sym .i64 0] .nil 0) = true := by kernel_rfl
theorem distafflaw11_ExecNone.calls (a0 : Int) (r : Bool) (w : World) (h : r = true) :
    Calls Try.prog 4 #[.int .i64 a0] w fun e w' => e = .returned (.bool r) ∧ Below w.heap.size w w' := by
  subst h
  have cm : ∀ c, ((c = .lt ∧ a0 < 0) ∨ (c = .eq ∧ a0 = 0) ∨ (c = .gt ∧ 0 < a0)) → ∀ f ∈ cmpFacts .i64 (.sym 0) (.lit 0) c, FactOk Try.prog (fun i => match i with | 0 => a0 | _ => 0) f := fun c e => cmp_ok e
  rcases Int.lt_trichotomy a0 0 with e | e | e
  · exact callsK_bool (env := fun i => match i with | 0 => a0 | _ => 0) (ctx_ok nm (cm _ (.inl ⟨rfl, e⟩))) mo (K_ok _ _) ran1 (vrs1 (.sym .i64 0)) w
  · subst e
    exact callsK_bool (env := fun _ => 0) (ctx_ok nm none_ok) mo (K_ok _ _) ran2 (vrs1 (.int .i64 0)) w
  · exact callsK_bool (env := fun i => match i with | 0 => a0 | _ => 0) (ctx_ok nm (cm _ (.inr (.inr ⟨rfl, e⟩)))) mo (K_ok _ _) ran3 (vrs1 (.sym .i64 0)) w

end Go.Proofs.Ytlabmbbkdfkkgaa.PExecNone
