/-
  No cell of these rows narrows 'for every input' (looked for: loops, veiled, ifaces, maps, wideKeys, modest, calm, conditions, laid).
  DERIVED. THE GIVEN ROWS OF THIS SEAT. 6 by the template 'for every input the law returns true; each argument reads behind the call as it read before'; 0 by the template 'total and deterministic' (their statements: YtghdjomcojjkmaaTotals.lean).
  GIVEN WITH THE SEED: the statements are not yours to turn. If you find one false, say at which input.
  Laid BY PROGRAM, IN A SANDBOX (cutbox-rows.mjs): the forced cells as the released guide's own fill.sh prints them over the translation 190e501c703a2055… (all of the seat's roots in one cut). By AI agents, Wed Nov 11 2026. No macro, syntax, notation, axiom, sorry.
-/
import Derived.Test.YtghdjomcojjkmaaChecked
import GoSem.Claim
import GoSem.ClaimJoined
import GoSem.ClaimMapViews
import Derived.JoinedTies
import Derived.KernelRfl
namespace Go.Proofs.Ytghdjomcojjkmaa
/- THE CELL 'sum', in the pinned program and in every row, IS THE sha256 OF THE DUMP (.gsa) THAT YtghdjomcojjkmaaProg.lean LOADS. Nothing in Lean hashes anything: it is a label: what it is worth is what the hold of that sum in a sandbox is worth. -/
noncomputable def Try.pinned : Pinned := { name := "ytghdjomcojjkmaa", sum := "190e501c703a20559d5ec4a1cf47b5cc1199ec2f3ec5fc2bb382be23729381f6", checked := Try.checked }
namespace Rows
def none {H : Type} : Left H := { results := [], args := [] }

/-- 'distafflaw28.DependMeets': WHATEVER THE INPUT: true; the input reads as it did. -/
def dependMeetsSpec : ChangeSpec := { name := "dependMeets", fn := fun _ => fun
  | [d1, d2, d3] => { results := [.lit (.bool true)], args := [d1, d2, d3] }
  | _ => none }
def dependMeetsRow : OpenClaim := { program := "ytghdjomcojjkmaa", sum := "190e501c703a20559d5ec4a1cf47b5cc1199ec2f3ec5fc2bb382be23729381f6", func := "distaff/distafflaw28.DependMeets", spec := "dependMeets", apart := false }
def DependMeetsSaid : Prop := dependMeetsRow.holds Try.pinned (OpenSpec.ofChange dependMeetsSpec)

/-- ITS FALSE NEIGHBOUR: 'it returns false'. Refute it at one input. -/
def dependMeetsWrong : ChangeSpec := { name := "dependMeets", fn := fun _ => fun
  | [d1, d2, d3] => { results := [.lit (.bool false)], args := [d1, d2, d3] }
  | _ => none }
def DependMeetsWrongFalsely : Prop := dependMeetsRow.holds Try.pinned (OpenSpec.ofChange dependMeetsWrong)

/-- 'distafflaw28.DependMay': WHATEVER THE INPUT: true; the input reads as it did. -/
def dependMaySpec : ChangeSpec := { name := "dependMay", fn := fun _ => fun
  | [d1, d2] => { results := [.lit (.bool true)], args := [d1, d2] }
  | _ => none }
def dependMayRow : OpenClaim := { program := "ytghdjomcojjkmaa", sum := "190e501c703a20559d5ec4a1cf47b5cc1199ec2f3ec5fc2bb382be23729381f6", func := "distaff/distafflaw28.DependMay", spec := "dependMay", apart := false }
def DependMaySaid : Prop := dependMayRow.holds Try.pinned (OpenSpec.ofChange dependMaySpec)

/-- ITS FALSE NEIGHBOUR: 'it returns false'. Refute it at one input. -/
def dependMayWrong : ChangeSpec := { name := "dependMay", fn := fun _ => fun
  | [d1, d2] => { results := [.lit (.bool false)], args := [d1, d2] }
  | _ => none }
def DependMayWrongFalsely : Prop := dependMayRow.holds Try.pinned (OpenSpec.ofChange dependMayWrong)

/-- 'distafflaw28.DependDistances': WHATEVER THE INPUT: true; the input reads as it did. -/
def dependDistancesSpec : ChangeSpec := { name := "dependDistances", fn := fun _ => fun
  | [d1, d2, d3] => { results := [.lit (.bool true)], args := [d1, d2, d3] }
  | _ => none }
def dependDistancesRow : OpenClaim := { program := "ytghdjomcojjkmaa", sum := "190e501c703a20559d5ec4a1cf47b5cc1199ec2f3ec5fc2bb382be23729381f6", func := "distaff/distafflaw28.DependDistances", spec := "dependDistances", apart := false }
def DependDistancesSaid : Prop := dependDistancesRow.holds Try.pinned (OpenSpec.ofChange dependDistancesSpec)

/-- ITS FALSE NEIGHBOUR: 'it returns false'. Refute it at one input. -/
def dependDistancesWrong : ChangeSpec := { name := "dependDistances", fn := fun _ => fun
  | [d1, d2, d3] => { results := [.lit (.bool false)], args := [d1, d2, d3] }
  | _ => none }
def DependDistancesWrongFalsely : Prop := dependDistancesRow.holds Try.pinned (OpenSpec.ofChange dependDistancesWrong)

/-- 'distafflaw28.DependBounds': WHATEVER THE INPUT: true; the input reads as it did. -/
def dependBoundsSpec : ChangeSpec := { name := "dependBounds", fn := fun _ => fun
  | [d1, d2] => { results := [.lit (.bool true)], args := [d1, d2] }
  | _ => none }
def dependBoundsRow : OpenClaim := { program := "ytghdjomcojjkmaa", sum := "190e501c703a20559d5ec4a1cf47b5cc1199ec2f3ec5fc2bb382be23729381f6", func := "distaff/distafflaw28.DependBounds", spec := "dependBounds", apart := false }
def DependBoundsSaid : Prop := dependBoundsRow.holds Try.pinned (OpenSpec.ofChange dependBoundsSpec)

/-- ITS FALSE NEIGHBOUR: 'it returns false'. Refute it at one input. -/
def dependBoundsWrong : ChangeSpec := { name := "dependBounds", fn := fun _ => fun
  | [d1, d2] => { results := [.lit (.bool false)], args := [d1, d2] }
  | _ => none }
def DependBoundsWrongFalsely : Prop := dependBoundsRow.holds Try.pinned (OpenSpec.ofChange dependBoundsWrong)

/-- 'distafflaw28.DependFar': WHATEVER THE INPUT: true; the input reads as it did. -/
def dependFarSpec : ChangeSpec := { name := "dependFar", fn := fun _ => fun
  | [d1, d2, d3] => { results := [.lit (.bool true)], args := [d1, d2, d3] }
  | _ => none }
def dependFarRow : OpenClaim := { program := "ytghdjomcojjkmaa", sum := "190e501c703a20559d5ec4a1cf47b5cc1199ec2f3ec5fc2bb382be23729381f6", func := "distaff/distafflaw28.DependFar", spec := "dependFar", apart := false }
def DependFarSaid : Prop := dependFarRow.holds Try.pinned (OpenSpec.ofChange dependFarSpec)

/-- ITS FALSE NEIGHBOUR: 'it returns false'. Refute it at one input. -/
def dependFarWrong : ChangeSpec := { name := "dependFar", fn := fun _ => fun
  | [d1, d2, d3] => { results := [.lit (.bool false)], args := [d1, d2, d3] }
  | _ => none }
def DependFarWrongFalsely : Prop := dependFarRow.holds Try.pinned (OpenSpec.ofChange dependFarWrong)

/-- 'distafflaw28.DependGcds': WHATEVER THE INPUT: true; the input reads as it did. -/
def dependGcdsSpec : ChangeSpec := { name := "dependGcds", fn := fun _ => fun
  | [d1, d2, d3] => { results := [.lit (.bool true)], args := [d1, d2, d3] }
  | _ => none }
def dependGcdsRow : OpenClaim := { program := "ytghdjomcojjkmaa", sum := "190e501c703a20559d5ec4a1cf47b5cc1199ec2f3ec5fc2bb382be23729381f6", func := "distaff/distafflaw28.DependGcds", spec := "dependGcds", apart := false }
def DependGcdsSaid : Prop := dependGcdsRow.holds Try.pinned (OpenSpec.ofChange dependGcdsSpec)

/-- ITS FALSE NEIGHBOUR: 'it returns false'. Refute it at one input. -/
def dependGcdsWrong : ChangeSpec := { name := "dependGcds", fn := fun _ => fun
  | [d1, d2, d3] => { results := [.lit (.bool false)], args := [d1, d2, d3] }
  | _ => none }
def DependGcdsWrongFalsely : Prop := dependGcdsRow.holds Try.pinned (OpenSpec.ofChange dependGcdsWrong)

/- THE SECOND FORM. 'bulk': how many values and letters a reading holds, each counted each time it is reached (what is shared counts as often as it is met; a slice's spare places count too). A statement '..UptoSaid' is the law's where the arguments, and the package variables that the reading takes, are together of bulk at most 1048576: NARROWER than '..Said'. Prove '..Said' where nothing that the law and all that it calls make is longer than what came in: it says more and counts as full. Else prove '..UptoSaid'. A law counts once. -/
mutual
def uptoBulk {H : Type} : DataW H → Nat
  | .lit (.string bytes) => bytes.length + 1
  | .lit _ => 1
  | .nil => 1
  | .ptr d => uptoBulk d + 1
  | .slice elems spare => uptoBulkAll elems + uptoBulkAll spare + 1
  | .agg parts => uptoBulkAll parts + 1
  | .iface _ d => uptoBulk d + 1
  | .map entries => uptoBulkEntries entries + 1
  | .held _ => 1
def uptoBulkAll {H : Type} : List (DataW H) → Nat
  | [] => 0
  | d :: r => uptoBulk d + uptoBulkAll r
def uptoBulkEntries {H : Type} : List (Lit × DataW H) → Nat
  | [] => 0
  | x :: r => uptoBulkEntry x + uptoBulkEntries r
def uptoBulkEntry {H : Type} : Lit × DataW H → Nat
  | (.string bytes, d) => bytes.length + uptoBulk d + 1
  | (_, d) => uptoBulk d + 1
 end
def uptoSmall : (H : Type) → List (DataW H) → Bool := fun _ ds => decide (uptoBulkAll ds ≤ 1048576)
def OpenSpec.upto (s : _root_.Go.ChangeSpec) : _root_.Go.OpenSpec := { _root_.Go.OpenSpec.ofChange s with cond := some uptoSmall }

/-- 'distafflaw28.DependMeets', WHERE WHAT IT READS IS OF BULK AT MOST 1048576: true; the input reads as it did. -/
def dependMeetsUptoRow : OpenClaim := { program := "ytghdjomcojjkmaa", sum := "190e501c703a20559d5ec4a1cf47b5cc1199ec2f3ec5fc2bb382be23729381f6", func := "distaff/distafflaw28.DependMeets", spec := "dependMeets", apart := false, narrowed := true }
def DependMeetsUptoSaid : Prop := dependMeetsUptoRow.holds Try.pinned (OpenSpec.upto dependMeetsSpec)

/-- 'distafflaw28.DependMay', WHERE WHAT IT READS IS OF BULK AT MOST 1048576: true; the input reads as it did. -/
def dependMayUptoRow : OpenClaim := { program := "ytghdjomcojjkmaa", sum := "190e501c703a20559d5ec4a1cf47b5cc1199ec2f3ec5fc2bb382be23729381f6", func := "distaff/distafflaw28.DependMay", spec := "dependMay", apart := false, narrowed := true }
def DependMayUptoSaid : Prop := dependMayUptoRow.holds Try.pinned (OpenSpec.upto dependMaySpec)

/-- 'distafflaw28.DependDistances', WHERE WHAT IT READS IS OF BULK AT MOST 1048576: true; the input reads as it did. -/
def dependDistancesUptoRow : OpenClaim := { program := "ytghdjomcojjkmaa", sum := "190e501c703a20559d5ec4a1cf47b5cc1199ec2f3ec5fc2bb382be23729381f6", func := "distaff/distafflaw28.DependDistances", spec := "dependDistances", apart := false, narrowed := true }
def DependDistancesUptoSaid : Prop := dependDistancesUptoRow.holds Try.pinned (OpenSpec.upto dependDistancesSpec)

/-- 'distafflaw28.DependBounds', WHERE WHAT IT READS IS OF BULK AT MOST 1048576: true; the input reads as it did. -/
def dependBoundsUptoRow : OpenClaim := { program := "ytghdjomcojjkmaa", sum := "190e501c703a20559d5ec4a1cf47b5cc1199ec2f3ec5fc2bb382be23729381f6", func := "distaff/distafflaw28.DependBounds", spec := "dependBounds", apart := false, narrowed := true }
def DependBoundsUptoSaid : Prop := dependBoundsUptoRow.holds Try.pinned (OpenSpec.upto dependBoundsSpec)

/-- 'distafflaw28.DependFar', WHERE WHAT IT READS IS OF BULK AT MOST 1048576: true; the input reads as it did. -/
def dependFarUptoRow : OpenClaim := { program := "ytghdjomcojjkmaa", sum := "190e501c703a20559d5ec4a1cf47b5cc1199ec2f3ec5fc2bb382be23729381f6", func := "distaff/distafflaw28.DependFar", spec := "dependFar", apart := false, narrowed := true }
def DependFarUptoSaid : Prop := dependFarUptoRow.holds Try.pinned (OpenSpec.upto dependFarSpec)

/-- 'distafflaw28.DependGcds', WHERE WHAT IT READS IS OF BULK AT MOST 1048576: true; the input reads as it did. -/
def dependGcdsUptoRow : OpenClaim := { program := "ytghdjomcojjkmaa", sum := "190e501c703a20559d5ec4a1cf47b5cc1199ec2f3ec5fc2bb382be23729381f6", func := "distaff/distafflaw28.DependGcds", spec := "dependGcds", apart := false, narrowed := true }
def DependGcdsUptoSaid : Prop := dependGcdsUptoRow.holds Try.pinned (OpenSpec.upto dependGcdsSpec)

end Rows
end Go.Proofs.Ytghdjomcojjkmaa
