/- The wake call of the seat's statements, by the kernel's run over closed data, which the soundness of the run carries to every world. No further condition. -/
import Derived.Test.YtdndjcofafkafaaSimL
import Derived.Test.YtdndjcofafkafaaProg
import Derived.KernelRfl
namespace Go.Proofs.Ytdndjcofafkafaa.Awake
open Go Go.RowKit Go.Proofs.Ytdndjcofafkafaa.Sim
theorem nm : (Try.prog.funcs.toList.all fun fn => fn.body.isNone || !(fn.name == "runtime.NumGoroutine")) = true := by kernel_rfl
theorem mo : Try.prog.follows .mixedOrders = true := by kernel_rfl
set_option maxRecDepth 100000 in
theorem ran : askB true (callA Try.prog (ctxOf Try.prog []) 100 9 [] .nil 0) = true := by kernel_rfl
theorem calls (w : World) : Calls Try.prog 9 #[] w fun e w' => e = .returned (.bool true) ∧ Below w.heap.size w w' :=
  calls_bool (env := fun _ => 0) (ctx_ok nm none_ok) mo ran vrs0 w
theorem has : (match (ctxOf Try.prog []).funcs.get 9 with | some fn => fn.body.isSome | none => false) = true := by kernel_rfl
end Go.Proofs.Ytdndjcofafkafaa.Awake
