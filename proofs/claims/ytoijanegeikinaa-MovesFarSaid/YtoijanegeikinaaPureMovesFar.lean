/- Nothing is left to prove of MovesFar beside its contract: the contract is told for the answer true. -/
import Derived.Test.YtoijanegeikinaaMMovesFarx0
namespace Go.Proofs.Ytoijanegeikinaa.Pure
theorem MovesFar {p0 : Prop} {p1 : Prop} {p2 : Prop} (_ : Int) (_ : Int) (_ : Int) (_ : p0) (_ : p1) (_ : p2) : true = true := rfl
end Go.Proofs.Ytoijanegeikinaa.Pure
