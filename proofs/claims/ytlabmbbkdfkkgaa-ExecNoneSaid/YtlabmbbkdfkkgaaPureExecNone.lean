/- Nothing is left to prove of ExecNone beside its contract: the contract is told for the answer true. -/
import Derived.Test.YtlabmbbkdfkkgaaMExecNonex0
namespace Go.Proofs.Ytlabmbbkdfkkgaa.Pure
theorem ExecNone {p0 : Prop} (_ : Int) (_ : p0) : true = true := rfl
end Go.Proofs.Ytlabmbbkdfkkgaa.Pure
