/- Nothing is left to prove of DomNone beside its contract: the contract is told for the answer true. -/
import Derived.Test.YtkmbnbpghmagiaaMDomNonex0
namespace Go.Proofs.Ytkmbnbpghmagiaa.Pure
theorem DomNone {p0 : Prop} (_ : Int) (_ : p0) : true = true := rfl
end Go.Proofs.Ytkmbnbpghmagiaa.Pure
