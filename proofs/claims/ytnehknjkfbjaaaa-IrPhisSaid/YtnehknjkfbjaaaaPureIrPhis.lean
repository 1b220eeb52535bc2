/- Nothing is left to prove of IrPhis beside its contract: the contract is told for the answer true. -/
import Derived.Test.YtnehknjkfbjaaaaMIrPhisx0
namespace Go.Proofs.Ytnehknjkfbjaaaa.Pure
theorem IrPhis {p0 : Prop} {p1 : Prop} (_ : Int) (_ : Int) (_ : p0) (_ : p1) : true = true := rfl
end Go.Proofs.Ytnehknjkfbjaaaa.Pure
