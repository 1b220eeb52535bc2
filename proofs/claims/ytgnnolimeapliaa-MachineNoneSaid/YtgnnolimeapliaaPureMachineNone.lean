/- Nothing is left to prove of MachineNone beside its contract: the contract is told for the answer true. -/
import Derived.Test.YtgnnolimeapliaaMMachineNonex0
namespace Go.Proofs.Ytgnnolimeapliaa.Pure
theorem MachineNone {p0 : Prop} {p1 : Prop} (_ : Int) (_ : Int) (_ : p0) (_ : p1) : true = true := rfl
end Go.Proofs.Ytgnnolimeapliaa.Pure
