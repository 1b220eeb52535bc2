/-
  No cell of these rows narrows 'for every input' (looked for: loops, veiled, ifaces, maps, wideKeys, modest, calm, conditions, laid).
  DERIVED. THE GIVEN ROWS OF THIS SEAT. 3 by the template 'for every input the law returns true; each argument reads behind the call as it read before'; 0 by the template 'total and deterministic' (their statements: YtoijanegeikinaaTotals.lean).
  GIVEN WITH THE SEED: the statements are not yours to turn. If you find one false, say at which input.
  Laid BY PROGRAM, IN A SANDBOX (cutbox-rows.mjs): the forced cells as the released guide's own fill.sh prints them over the translation 5bc82c396e5de499… (all of the seat's roots in one cut). By AI agents, Wed Nov 11 2026. No macro, syntax, notation, axiom, sorry.
-/
import Derived.Test.YtoijanegeikinaaChecked
import GoSem.Claim
import GoSem.ClaimJoined
import GoSem.ClaimMapViews
import Derived.JoinedTies
import Derived.KernelRfl
namespace Go.Proofs.Ytoijanegeikinaa
/- THE CELL 'sum', in the pinned program and in every row, IS THE sha256 OF THE DUMP (.gsa) THAT YtoijanegeikinaaProg.lean LOADS. Nothing in Lean hashes anything: it is a label: what it is worth is what the hold of that sum in a sandbox is worth. -/
noncomputable def Try.pinned : Pinned := { name := "ytoijanegeikinaa", sum := "5bc82c396e5de4992d003eae4ec682fa513d8401807f2847e8369fd463503a8c", checked := Try.checked }
namespace Rows
def none {H : Type} : Left H := { results := [], args := [] }

/-- 'distafflaw37.MovesOrder': WHATEVER THE INPUT: true; the input reads as it did. -/
def movesOrderSpec : ChangeSpec := { name := "movesOrder", fn := fun _ => fun
  | [d1, d2] => { results := [.lit (.bool true)], args := [d1, d2] }
  | _ => none }
def movesOrderRow : OpenClaim := { program := "ytoijanegeikinaa", sum := "5bc82c396e5de4992d003eae4ec682fa513d8401807f2847e8369fd463503a8c", func := "distaff/distafflaw37.MovesOrder", spec := "movesOrder", unfollowed := true, recurses := true, apart := false }
def MovesOrderSaid : Prop := movesOrderRow.holds Try.pinned (OpenSpec.ofChange movesOrderSpec)

/-- ITS FALSE NEIGHBOUR: 'it returns false'. Refute it at one input. -/
def movesOrderWrong : ChangeSpec := { name := "movesOrder", fn := fun _ => fun
  | [d1, d2] => { results := [.lit (.bool false)], args := [d1, d2] }
  | _ => none }
def MovesOrderWrongFalsely : Prop := movesOrderRow.holds Try.pinned (OpenSpec.ofChange movesOrderWrong)

/-- 'distafflaw37.MovesShort': WHATEVER THE INPUT: true; the input reads as it did. -/
def movesShortSpec : ChangeSpec := { name := "movesShort", fn := fun _ => fun
  | [d1, d2] => { results := [.lit (.bool true)], args := [d1, d2] }
  | _ => none }
def movesShortRow : OpenClaim := { program := "ytoijanegeikinaa", sum := "5bc82c396e5de4992d003eae4ec682fa513d8401807f2847e8369fd463503a8c", func := "distaff/distafflaw37.MovesShort", spec := "movesShort", unfollowed := true, recurses := true, apart := false }
def MovesShortSaid : Prop := movesShortRow.holds Try.pinned (OpenSpec.ofChange movesShortSpec)

/-- ITS FALSE NEIGHBOUR: 'it returns false'. Refute it at one input. -/
def movesShortWrong : ChangeSpec := { name := "movesShort", fn := fun _ => fun
  | [d1, d2] => { results := [.lit (.bool false)], args := [d1, d2] }
  | _ => none }
def MovesShortWrongFalsely : Prop := movesShortRow.holds Try.pinned (OpenSpec.ofChange movesShortWrong)

/-- 'distafflaw37.MovesFar': WHATEVER THE INPUT: true; the input reads as it did. -/
def movesFarSpec : ChangeSpec := { name := "movesFar", fn := fun _ => fun
  | [d1, d2, d3] => { results := [.lit (.bool true)], args := [d1, d2, d3] }
  | _ => none }
def movesFarRow : OpenClaim := { program := "ytoijanegeikinaa", sum := "5bc82c396e5de4992d003eae4ec682fa513d8401807f2847e8369fd463503a8c", func := "distaff/distafflaw37.MovesFar", spec := "movesFar", unfollowed := true, recurses := true, apart := false }
def MovesFarSaid : Prop := movesFarRow.holds Try.pinned (OpenSpec.ofChange movesFarSpec)

/-- ITS FALSE NEIGHBOUR: 'it returns false'. Refute it at one input. -/
def movesFarWrong : ChangeSpec := { name := "movesFar", fn := fun _ => fun
  | [d1, d2, d3] => { results := [.lit (.bool false)], args := [d1, d2, d3] }
  | _ => none }
def MovesFarWrongFalsely : Prop := movesFarRow.holds Try.pinned (OpenSpec.ofChange movesFarWrong)

/- THE SECOND FORM. 'bulk': how many values and letters a reading holds, each counted each time it is reached (what is shared counts as often as it is met; a slice's spare places count too). A statement '..UptoSaid' is the law's where the arguments, and the package variables that the reading takes, are together of bulk at most 1048576: NARROWER than '..Said'. Prove '..Said' where nothing that the law and all that it calls make is longer than what came in: it says more and counts as full. Else prove '..UptoSaid'. A law counts once. -/
mutual
def uptoBulk {H : Type} : DataW H → Nat
  | .lit (.string bytes) => bytes.length + 1
  | .lit _ => 1
  | .nil => 1
  | .ptr d => uptoBulk d + 1
  | .slice elems spare => uptoBulkAll elems + uptoBulkAll spare + 1
  | .agg parts => uptoBulkAll parts + 1
  | .iface _ d => uptoBulk d + 1
  | .map entries => uptoBulkEntries entries + 1
  | .held _ => 1
def uptoBulkAll {H : Type} : List (DataW H) → Nat
  | [] => 0
  | d :: r => uptoBulk d + uptoBulkAll r
def uptoBulkEntries {H : Type} : List (Lit × DataW H) → Nat
  | [] => 0
  | x :: r => uptoBulkEntry x + uptoBulkEntries r
def uptoBulkEntry {H : Type} : Lit × DataW H → Nat
  | (.string bytes, d) => bytes.length + uptoBulk d + 1
  | (_, d) => uptoBulk d + 1
 end
def uptoSmall : (H : Type) → List (DataW H) → Bool := fun _ ds => decide (uptoBulkAll ds ≤ 1048576)
def OpenSpec.upto (s : _root_.Go.ChangeSpec) : _root_.Go.OpenSpec := { _root_.Go.OpenSpec.ofChange s with cond := some uptoSmall }

/-- 'distafflaw37.MovesOrder', WHERE WHAT IT READS IS OF BULK AT MOST 1048576: true; the input reads as it did. -/
def movesOrderUptoRow : OpenClaim := { program := "ytoijanegeikinaa", sum := "5bc82c396e5de4992d003eae4ec682fa513d8401807f2847e8369fd463503a8c", func := "distaff/distafflaw37.MovesOrder", spec := "movesOrder", unfollowed := true, recurses := true, apart := false, narrowed := true }
def MovesOrderUptoSaid : Prop := movesOrderUptoRow.holds Try.pinned (OpenSpec.upto movesOrderSpec)

/-- 'distafflaw37.MovesShort', WHERE WHAT IT READS IS OF BULK AT MOST 1048576: true; the input reads as it did. -/
def movesShortUptoRow : OpenClaim := { program := "ytoijanegeikinaa", sum := "5bc82c396e5de4992d003eae4ec682fa513d8401807f2847e8369fd463503a8c", func := "distaff/distafflaw37.MovesShort", spec := "movesShort", unfollowed := true, recurses := true, apart := false, narrowed := true }
def MovesShortUptoSaid : Prop := movesShortUptoRow.holds Try.pinned (OpenSpec.upto movesShortSpec)

/-- 'distafflaw37.MovesFar', WHERE WHAT IT READS IS OF BULK AT MOST 1048576: true; the input reads as it did. -/
def movesFarUptoRow : OpenClaim := { program := "ytoijanegeikinaa", sum := "5bc82c396e5de4992d003eae4ec682fa513d8401807f2847e8369fd463503a8c", func := "distaff/distafflaw37.MovesFar", spec := "movesFar", unfollowed := true, recurses := true, apart := false, narrowed := true }
def MovesFarUptoSaid : Prop := movesFarUptoRow.holds Try.pinned (OpenSpec.upto movesFarSpec)

end Rows
end Go.Proofs.Ytoijanegeikinaa
