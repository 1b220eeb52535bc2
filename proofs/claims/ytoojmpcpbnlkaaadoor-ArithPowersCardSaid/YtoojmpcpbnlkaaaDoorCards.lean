/-
  DERIVED. GIVEN WITH THE SEED: THE CARDS: each row of YtoojmpcpbnlkaaaDoorRows.lean that lists a variable, with what it lists TIED to the program's text (the seventh form; the later family's looks); each row that meets fmt, with fmt's text TOLD by the authors' own Lean function (tested against real Go, not proved from fmt's source: count such statements apart). THE CARD IS WHAT COUNTS. Prove the row's statement (the work); the ties are given (YtoojmpcpbnlkaaaDoorTie.lean); close each card by the builder's one call (the guide's Derived/Test/ToyasCard.lean, 'card_holds'). Laid BY PROGRAM, IN A SANDBOX (cutbox-door.mjs). By AI agents, Wed Nov 11 2026. No macro, syntax, notation, axiom, sorry.
-/
import Derived.Test.YtoojmpcpbnlkaaaDoorRows
import GoSem.ClaimSeven
namespace Go.Proofs.YtoojmpcpbnlkaaaDoor
namespace Rows

/-- THE TIED CARD OF 'distafflaw01.ArithPowers'. -/
def arithPowersCard : Claim7 := { stood := { row := arithPowersRow, standIns := [], harness := (true, "50cb8538776ad653a04c8adcdd6ef056eb3d350abcaa30d1ae1851ffb105a901"), looks := false }, kinds := [], alts := [], laidByText := true, laidKinds := [.data], laidTests := true, laidLooks := .later }
def ArithPowersCardSaid : Prop := Claim7.holds Tryd.pinned (.plain (OpenSpec.ofChange arithPowersSpec)) arithPowersCard

/-- THE SECOND FORM's CARD OF 'distafflaw01.ArithPowers'. -/
def arithPowersUptoCard : Claim7 := { stood := { row := arithPowersUptoRow, standIns := [], harness := (true, "50cb8538776ad653a04c8adcdd6ef056eb3d350abcaa30d1ae1851ffb105a901"), looks := false }, kinds := [], alts := [], laidByText := true, laidKinds := [.data], laidTests := true, laidLooks := .later }
def ArithPowersUptoCardSaid : Prop := Claim7.holds Tryd.pinned (.plain (OpenSpec.upto arithPowersSpec)) arithPowersUptoCard
end Rows
end Go.Proofs.YtoojmpcpbnlkaaaDoor
