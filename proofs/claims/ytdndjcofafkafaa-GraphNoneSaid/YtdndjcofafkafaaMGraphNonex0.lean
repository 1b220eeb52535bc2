/- The contract of the Go function of the statement GraphNone: a run by the kernel over symbols for its numbers, which the soundness of the run carries to every world. No further condition. -/
import Derived.Test.YtdndjcofafkafaaSimI
import Derived.Test.YtdndjcofafkafaaProg
import Derived.KernelRfl
namespace Go.Proofs.Ytdndjcofafkafaa.PGraphNone
open Go Go.RowKit Go.Proofs.Ytdndjcofafkafaa.Sim
theorem nm : (Try.prog.funcs.toList.all fun fn => fn.body.isNone || !(fn.name == "runtime.NumGoroutine")) = true := by kernel_rfl
theorem mo : Try.prog.follows .mixedOrders = true := by kernel_rfl
set_option maxRecDepth 100000 in
theorem ran : askB true (callA Try.prog (ctxOf Try.prog []) 100 7 [.sym .i64 0] .nil 0) = true := by kernel_rfl
theorem distafflaw08_GraphNone.calls (a0 : Int) (r : Bool) (w : World) (h : r = true) :
    Calls Try.prog 7 #[.int .i64 a0] w fun e w' => e = .returned (.bool r) ∧ Below w.heap.size w w' := by
  subst h
  exact calls_bool (env := fun i => match i with | 0 => a0 | _ => 0) (ctx_ok nm (fun f hf => absurd hf (by simp))) mo ran (vrs1 (.sym .i64 0)) w

end Go.Proofs.Ytdndjcofafkafaa.PGraphNone
