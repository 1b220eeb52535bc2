/- Nothing is left to prove of GraphNone beside its contract: the contract is told for the answer true. -/
import Derived.Test.YtdndjcofafkafaaMGraphNonex0
namespace Go.Proofs.Ytdndjcofafkafaa.Pure
theorem GraphNone {p0 : Prop} (_ : Int) (_ : p0) : true = true := rfl
end Go.Proofs.Ytdndjcofafkafaa.Pure
