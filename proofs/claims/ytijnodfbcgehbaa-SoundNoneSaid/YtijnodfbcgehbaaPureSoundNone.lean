/- Nothing is left to prove of SoundNone beside its contract: the contract is told for the answer true. -/
import Derived.Test.YtijnodfbcgehbaaMSoundNonex0
namespace Go.Proofs.Ytijnodfbcgehbaa.Pure
theorem SoundNone {p0 : Prop} (_ : Int) (_ : p0) : true = true := rfl
end Go.Proofs.Ytijnodfbcgehbaa.Pure
