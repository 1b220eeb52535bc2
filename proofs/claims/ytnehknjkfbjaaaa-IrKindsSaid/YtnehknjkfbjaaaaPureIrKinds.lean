/- Nothing is left to prove of IrKinds beside its contract: the contract is told for the answer true. -/
import Derived.Test.YtnehknjkfbjaaaaMIrKindsx0
namespace Go.Proofs.Ytnehknjkfbjaaaa.Pure
theorem IrKinds {p0 : Prop} (_ : Int) (_ : p0) : true = true := rfl
end Go.Proofs.Ytnehknjkfbjaaaa.Pure
