/- The contract of the Go function of the statement IrKinds: a run by the kernel over symbols for its numbers, which the soundness of the run carries to every world. No further condition. -/
import Derived.Test.YtnehknjkfbjaaaaSimK
import Derived.Test.YtnehknjkfbjaaaaProg
import Derived.KernelRfl
namespace Go.Proofs.Ytnehknjkfbjaaaa.PIrKinds
open Go Go.RowKit Go.Proofs.Ytnehknjkfbjaaaa.Sim
theorem nm : (Try.prog.funcs.toList.all fun fn => fn.body.isNone || !(fn.name == "runtime.NumGoroutine")) = true := by kernel_rfl
theorem mo : Try.prog.follows .mixedOrders = true := by kernel_rfl
/- Each number from one to thirty-six by itself, and all less, and all greater. -/
def lows : Nat → List Fact
  | 0 => []
  | n + 1 => cmpFacts .i64 (.sym 0) (.lit ((n : Int) + 1)) .lt ++ lows n
def highs : Nat → List Fact
  | 0 => []
  | n + 1 => cmpFacts .i64 (.sym 0) (.lit ((n : Int) + 1)) .gt ++ highs n
noncomputable def one (n : Nat) : Bool := askB true (callA Try.prog (ctxOf Try.prog []) 100 3 [.int .i64 ((n : Int) + 1)] .nil 0)
set_option maxRecDepth 100000 in
theorem ran1 : askB true (callA Try.prog (ctxOf Try.prog (lows 40)) 100 3 [.sym .i64 0] .nil 0) = true := by kernel_rfl
set_option maxRecDepth 100000 in
theorem ran2 : (List.range 36).all one = true := by kernel_rfl
set_option maxRecDepth 100000 in
theorem ran3 : askB true (callA Try.prog (ctxOf Try.prog (highs 36)) 100 3 [.sym .i64 0] .nil 0) = true := by kernel_rfl
theorem lows_ok (env : Nat → Int) (h : env 0 < 1) : ∀ n, ∀ f ∈ lows n, FactOk Try.prog env f := by
  intro n
  induction n with
  | zero => exact none_ok
  | succ n ih => exact app_ok (cmp_ok (.inl ⟨rfl, by simp only [numV]; omega⟩)) ih
theorem highs_ok (env : Nat → Int) (m : Nat) (h : (m : Int) < env 0) : ∀ n, n ≤ m → ∀ f ∈ highs n, FactOk Try.prog env f := by
  intro n
  induction n with
  | zero => intro _; exact none_ok
  | succ n ih => intro hn; exact app_ok (cmp_ok (.inr (.inr ⟨rfl, by simp only [numV]; omega⟩))) (ih (by omega))
theorem each_ok (n : Nat) (h : n < 36) : askB true (callA Try.prog (ctxOf Try.prog []) 100 3 [.int .i64 ((n : Int) + 1)] .nil 0) = true := List.all_eq_true.1 ran2 n (List.mem_range.2 h)
theorem distafflaw07_IrKinds.calls (a0 : Int) (r : Bool) (w : World) (h : r = true) :
    Calls Try.prog 3 #[.int .i64 a0] w fun e w' => e = .returned (.bool r) ∧ Below w.heap.size w w' := by
  subst h
  by_cases e : a0 < 1
  · exact calls_bool (env := fun i => match i with | 0 => a0 | _ => 0) (ctx_ok nm (lows_ok _ e 40)) mo ran1 (vrs1 (.sym .i64 0)) w
  · by_cases e2 : 36 < a0
    · exact calls_bool (env := fun i => match i with | 0 => a0 | _ => 0) (ctx_ok nm (highs_ok _ 36 e2 36 (by omega))) mo ran3 (vrs1 (.sym .i64 0)) w
    · obtain ⟨n, rfl⟩ : ∃ n : Nat, a0 = (n : Int) + 1 := ⟨(a0 - 1).toNat, by omega⟩
      exact calls_bool (env := fun _ => 0) (ctx_ok nm none_ok) mo (each_ok n (by omega)) (vrs1 (.int .i64 _)) w

end Go.Proofs.Ytnehknjkfbjaaaa.PIrKinds
