/- The contract of the Go function of the statement MovesFar: a run by the kernel over symbols for its numbers, which the soundness of the run carries to every world. No further condition. -/
import Derived.Test.YtoijanegeikinaaSimJ
import Derived.Test.YtoijanegeikinaaProg
import Derived.KernelRfl
namespace Go.Proofs.Ytoijanegeikinaa.PMovesFar
open Go Go.RowKit Go.Proofs.Ytoijanegeikinaa.Sim
theorem nm : (Try.prog.funcs.toList.all fun fn => fn.body.isNone || !(fn.name == "runtime.NumGoroutine")) = true := by kernel_rfl
theorem mo : Try.prog.follows .mixedOrders = true := by kernel_rfl
def two (i j : Nat) : List Fact := cmpFacts .i64 (.sym i) (.sym j) .eq
def three : List Fact := neFacts .i64 (.sym 0) (.sym 1) ++ (neFacts .i64 (.sym 1) (.sym 2) ++ (neFacts .i64 (.sym 0) (.sym 2) ++ (two 0 0 ++ (two 1 1 ++ two 2 2))))
set_option maxRecDepth 100000 in
theorem ran1 : askB true (callA Try.prog (ctxOf Try.prog (two 0 1)) 100 5 [.sym .i64 0, .sym .i64 1, .sym .i64 2] .nil 0) = true := by kernel_rfl
set_option maxRecDepth 100000 in
theorem ran2 : askB true (callA Try.prog (ctxOf Try.prog (neFacts .i64 (.sym 0) (.sym 1) ++ two 1 2)) 100 5 [.sym .i64 0, .sym .i64 1, .sym .i64 2] .nil 0) = true := by kernel_rfl
set_option maxRecDepth 100000 in
theorem ran3 : askB true (callA Try.prog (ctxOf Try.prog (neFacts .i64 (.sym 0) (.sym 1) ++ (neFacts .i64 (.sym 1) (.sym 2) ++ two 0 2))) 100 5 [.sym .i64 0, .sym .i64 1, .sym .i64 2] .nil 0) = true := by kernel_rfl
set_option maxRecDepth 100000 in
theorem ran4 : askB true (callA Try.prog (ctxOf Try.prog three) 100 5 [.sym .i64 0, .sym .i64 1, .sym .i64 2] .nil 0) = true := by kernel_rfl
theorem distafflaw37_MovesFar.calls (a0 : Int) (a1 : Int) (a2 : Int) (r : Bool) (w : World) (h : r = true) :
    Calls Try.prog 5 #[.int .i64 a0, .int .i64 a1, .int .i64 a2] w fun e w' => e = .returned (.bool r) ∧ Below w.heap.size w w' := by
  subst h
  have two_ok : ∀ i j, (fun i => match i with | 0 => a0 | 1 => a1 | 2 => a2 | _ => 0 : Nat → Int) i = (fun i => match i with | 0 => a0 | 1 => a1 | 2 => a2 | _ => 0 : Nat → Int) j → ∀ f ∈ two i j, FactOk Try.prog (fun i => match i with | 0 => a0 | 1 => a1 | 2 => a2 | _ => 0) f := fun i j e => cmp_ok (.inr (.inl ⟨rfl, e⟩))
  have no : ∀ i j, (fun i => match i with | 0 => a0 | 1 => a1 | 2 => a2 | _ => 0 : Nat → Int) i ≠ (fun i => match i with | 0 => a0 | 1 => a1 | 2 => a2 | _ => 0 : Nat → Int) j → ∀ f ∈ neFacts .i64 (.sym i) (.sym j), FactOk Try.prog (fun i => match i with | 0 => a0 | 1 => a1 | 2 => a2 | _ => 0) f := fun i j e => ne_ok e
  by_cases e1 : a0 = a1
  · exact calls_bool (env := fun i => match i with | 0 => a0 | 1 => a1 | 2 => a2 | _ => 0) (ctx_ok nm (two_ok 0 1 e1)) mo ran1 (vrs_cons (.sym .i64 0) (vrs_cons (.sym .i64 1) (vrs1 (.sym .i64 2)))) w
  · by_cases e2 : a1 = a2
    · exact calls_bool (env := fun i => match i with | 0 => a0 | 1 => a1 | 2 => a2 | _ => 0) (ctx_ok nm (app_ok (no 0 1 e1) (two_ok 1 2 e2))) mo ran2 (vrs_cons (.sym .i64 0) (vrs_cons (.sym .i64 1) (vrs1 (.sym .i64 2)))) w
    · by_cases e3 : a0 = a2
      · exact calls_bool (env := fun i => match i with | 0 => a0 | 1 => a1 | 2 => a2 | _ => 0) (ctx_ok nm (app_ok (no 0 1 e1) (app_ok (no 1 2 e2) (two_ok 0 2 e3)))) mo ran3 (vrs_cons (.sym .i64 0) (vrs_cons (.sym .i64 1) (vrs1 (.sym .i64 2)))) w
      · exact calls_bool (env := fun i => match i with | 0 => a0 | 1 => a1 | 2 => a2 | _ => 0) (ctx_ok nm (app_ok (no 0 1 e1) (app_ok (no 1 2 e2) (app_ok (no 0 2 e3) (app_ok (two_ok 0 0 rfl) (app_ok (two_ok 1 1 rfl) (two_ok 2 2 rfl))))))) mo ran4 (vrs_cons (.sym .i64 0) (vrs_cons (.sym .i64 1) (vrs1 (.sym .i64 2)))) w

end Go.Proofs.Ytoijanegeikinaa.PMovesFar
