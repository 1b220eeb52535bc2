/-
  No cell of these rows narrows 'for every input' (looked for: loops, veiled, ifaces, maps, wideKeys, modest, calm, conditions, laid).
  DERIVED. THE GIVEN ROWS OF THIS SEAT. 7 by the template 'for every input the law returns true; each argument reads behind the call as it read before'; 0 by the template 'total and deterministic' (their statements: YtoojmpcpbnlkaaaTotals.lean).
  GIVEN WITH THE SEED: the statements are not yours to turn. If you find one false, say at which input.
  Laid BY PROGRAM, IN A SANDBOX (cutbox-rows.mjs): the forced cells as the released guide's own fill.sh prints them over the translation 2af8d2dcfa009aa3… (all of the seat's roots in one cut). By AI agents, Wed Nov 11 2026. No macro, syntax, notation, axiom, sorry.
-/
import Derived.Test.YtoojmpcpbnlkaaaChecked
import GoSem.Claim
import GoSem.ClaimJoined
import GoSem.ClaimMapViews
import Derived.JoinedTies
import Derived.KernelRfl
namespace Go.Proofs.Ytoojmpcpbnlkaaa
/- THE CELL 'sum', in the pinned program and in every row, IS THE sha256 OF THE DUMP (.gsa) THAT YtoojmpcpbnlkaaaProg.lean LOADS. Nothing in Lean hashes anything: it is a label: what it is worth is what the hold of that sum in a sandbox is worth. -/
noncomputable def Try.pinned : Pinned := { name := "ytoojmpcpbnlkaaa", sum := "2af8d2dcfa009aa34bd757b62edb9c32beb413703db121a3f0d9cafd3c90a69e", checked := Try.checked }
namespace Rows
def none {H : Type} : Left H := { results := [], args := [] }

/-- 'distafflaw01.ArithDoes': WHATEVER THE INPUT: true; the input reads as it did. -/
def arithDoesSpec : ChangeSpec := { name := "arithDoes", fn := fun _ => fun
  | [d1, d2, d3] => { results := [.lit (.bool true)], args := [d1, d2, d3] }
  | _ => none }
def arithDoesRow : OpenClaim := { program := "ytoojmpcpbnlkaaa", sum := "2af8d2dcfa009aa34bd757b62edb9c32beb413703db121a3f0d9cafd3c90a69e", func := "distaff/distafflaw01.ArithDoes", spec := "arithDoes", apart := false }
def ArithDoesSaid : Prop := arithDoesRow.holds Try.pinned (OpenSpec.ofChange arithDoesSpec)

/-- ITS FALSE NEIGHBOUR: 'it returns false'. Refute it at one input. -/
def arithDoesWrong : ChangeSpec := { name := "arithDoes", fn := fun _ => fun
  | [d1, d2, d3] => { results := [.lit (.bool false)], args := [d1, d2, d3] }
  | _ => none }
def ArithDoesWrongFalsely : Prop := arithDoesRow.holds Try.pinned (OpenSpec.ofChange arithDoesWrong)

/-- 'distafflaw01.ArithOnes': WHATEVER THE INPUT: true; the input reads as it did. -/
def arithOnesSpec : ChangeSpec := { name := "arithOnes", fn := fun _ => fun
  | [d1, d2] => { results := [.lit (.bool true)], args := [d1, d2] }
  | _ => none }
def arithOnesRow : OpenClaim := { program := "ytoojmpcpbnlkaaa", sum := "2af8d2dcfa009aa34bd757b62edb9c32beb413703db121a3f0d9cafd3c90a69e", func := "distaff/distafflaw01.ArithOnes", spec := "arithOnes", apart := false }
def ArithOnesSaid : Prop := arithOnesRow.holds Try.pinned (OpenSpec.ofChange arithOnesSpec)

/-- ITS FALSE NEIGHBOUR: 'it returns false'. Refute it at one input. -/
def arithOnesWrong : ChangeSpec := { name := "arithOnes", fn := fun _ => fun
  | [d1, d2] => { results := [.lit (.bool false)], args := [d1, d2] }
  | _ => none }
def ArithOnesWrongFalsely : Prop := arithOnesRow.holds Try.pinned (OpenSpec.ofChange arithOnesWrong)

/-- 'distafflaw01.ArithKinds': WHATEVER THE INPUT: true; the input reads as it did. -/
def arithKindsSpec : ChangeSpec := { name := "arithKinds", fn := fun _ => fun
  | [d] => { results := [.lit (.bool true)], args := [d] }
  | _ => none }
def arithKindsRow : OpenClaim := { program := "ytoojmpcpbnlkaaa", sum := "2af8d2dcfa009aa34bd757b62edb9c32beb413703db121a3f0d9cafd3c90a69e", func := "distaff/distafflaw01.ArithKinds", spec := "arithKinds", apart := false }
def ArithKindsSaid : Prop := arithKindsRow.holds Try.pinned (OpenSpec.ofChange arithKindsSpec)

/-- ITS FALSE NEIGHBOUR: 'it returns false'. Refute it at one input. -/
def arithKindsWrong : ChangeSpec := { name := "arithKinds", fn := fun _ => fun
  | [d] => { results := [.lit (.bool false)], args := [d] }
  | _ => none }
def ArithKindsWrongFalsely : Prop := arithKindsRow.holds Try.pinned (OpenSpec.ofChange arithKindsWrong)

/-- 'distafflaw01.ArithGcds': WHATEVER THE INPUT: true; the input reads as it did. -/
def arithGcdsSpec : ChangeSpec := { name := "arithGcds", fn := fun _ => fun
  | [d1, d2] => { results := [.lit (.bool true)], args := [d1, d2] }
  | _ => none }
def arithGcdsRow : OpenClaim := { program := "ytoojmpcpbnlkaaa", sum := "2af8d2dcfa009aa34bd757b62edb9c32beb413703db121a3f0d9cafd3c90a69e", func := "distaff/distafflaw01.ArithGcds", spec := "arithGcds", apart := false }
def ArithGcdsSaid : Prop := arithGcdsRow.holds Try.pinned (OpenSpec.ofChange arithGcdsSpec)

/-- ITS FALSE NEIGHBOUR: 'it returns false'. Refute it at one input. -/
def arithGcdsWrong : ChangeSpec := { name := "arithGcds", fn := fun _ => fun
  | [d1, d2] => { results := [.lit (.bool false)], args := [d1, d2] }
  | _ => none }
def ArithGcdsWrongFalsely : Prop := arithGcdsRow.holds Try.pinned (OpenSpec.ofChange arithGcdsWrong)

/-- 'distafflaw01.ArithFits': WHATEVER THE INPUT: true; the input reads as it did. -/
def arithFitsSpec : ChangeSpec := { name := "arithFits", fn := fun _ => fun
  | [d1, d2] => { results := [.lit (.bool true)], args := [d1, d2] }
  | _ => none }
def arithFitsRow : OpenClaim := { program := "ytoojmpcpbnlkaaa", sum := "2af8d2dcfa009aa34bd757b62edb9c32beb413703db121a3f0d9cafd3c90a69e", func := "distaff/distafflaw01.ArithFits", spec := "arithFits", apart := false }
def ArithFitsSaid : Prop := arithFitsRow.holds Try.pinned (OpenSpec.ofChange arithFitsSpec)

/-- ITS FALSE NEIGHBOUR: 'it returns false'. Refute it at one input. -/
def arithFitsWrong : ChangeSpec := { name := "arithFits", fn := fun _ => fun
  | [d1, d2] => { results := [.lit (.bool false)], args := [d1, d2] }
  | _ => none }
def ArithFitsWrongFalsely : Prop := arithFitsRow.holds Try.pinned (OpenSpec.ofChange arithFitsWrong)

/-- 'distafflaw01.ArithSums': WHATEVER THE INPUT: true; the input reads as it did. -/
def arithSumsSpec : ChangeSpec := { name := "arithSums", fn := fun _ => fun
  | [d1, d2] => { results := [.lit (.bool true)], args := [d1, d2] }
  | _ => none }
def arithSumsRow : OpenClaim := { program := "ytoojmpcpbnlkaaa", sum := "2af8d2dcfa009aa34bd757b62edb9c32beb413703db121a3f0d9cafd3c90a69e", func := "distaff/distafflaw01.ArithSums", spec := "arithSums", apart := false }
def ArithSumsSaid : Prop := arithSumsRow.holds Try.pinned (OpenSpec.ofChange arithSumsSpec)

/-- ITS FALSE NEIGHBOUR: 'it returns false'. Refute it at one input. -/
def arithSumsWrong : ChangeSpec := { name := "arithSums", fn := fun _ => fun
  | [d1, d2] => { results := [.lit (.bool false)], args := [d1, d2] }
  | _ => none }
def ArithSumsWrongFalsely : Prop := arithSumsRow.holds Try.pinned (OpenSpec.ofChange arithSumsWrong)

/-- 'distafflaw01.ArithTurns': WHATEVER THE INPUT: true; the input reads as it did. -/
def arithTurnsSpec : ChangeSpec := { name := "arithTurns", fn := fun _ => fun
  | [d1, d2, d3] => { results := [.lit (.bool true)], args := [d1, d2, d3] }
  | _ => none }
def arithTurnsRow : OpenClaim := { program := "ytoojmpcpbnlkaaa", sum := "2af8d2dcfa009aa34bd757b62edb9c32beb413703db121a3f0d9cafd3c90a69e", func := "distaff/distafflaw01.ArithTurns", spec := "arithTurns", apart := false }
def ArithTurnsSaid : Prop := arithTurnsRow.holds Try.pinned (OpenSpec.ofChange arithTurnsSpec)

/-- ITS FALSE NEIGHBOUR: 'it returns false'. Refute it at one input. -/
def arithTurnsWrong : ChangeSpec := { name := "arithTurns", fn := fun _ => fun
  | [d1, d2, d3] => { results := [.lit (.bool false)], args := [d1, d2, d3] }
  | _ => none }
def ArithTurnsWrongFalsely : Prop := arithTurnsRow.holds Try.pinned (OpenSpec.ofChange arithTurnsWrong)

/- THE SECOND FORM. 'bulk': how many values and letters a reading holds, each counted each time it is reached (what is shared counts as often as it is met; a slice's spare places count too). A statement '..UptoSaid' is the law's where the arguments, and the package variables that the reading takes, are together of bulk at most 1048576: NARROWER than '..Said'. Prove '..Said' where nothing that the law and all that it calls make is longer than what came in: it says more and counts as full. Else prove '..UptoSaid'. A law counts once. -/
mutual
def uptoBulk {H : Type} : DataW H → Nat
  | .lit (.string bytes) => bytes.length + 1
  | .lit _ => 1
  | .nil => 1
  | .ptr d => uptoBulk d + 1
  | .slice elems spare => uptoBulkAll elems + uptoBulkAll spare + 1
  | .agg parts => uptoBulkAll parts + 1
  | .iface _ d => uptoBulk d + 1
  | .map entries => uptoBulkEntries entries + 1
  | .held _ => 1
def uptoBulkAll {H : Type} : List (DataW H) → Nat
  | [] => 0
  | d :: r => uptoBulk d + uptoBulkAll r
def uptoBulkEntries {H : Type} : List (Lit × DataW H) → Nat
  | [] => 0
  | x :: r => uptoBulkEntry x + uptoBulkEntries r
def uptoBulkEntry {H : Type} : Lit × DataW H → Nat
  | (.string bytes, d) => bytes.length + uptoBulk d + 1
  | (_, d) => uptoBulk d + 1
 end
def uptoSmall : (H : Type) → List (DataW H) → Bool := fun _ ds => decide (uptoBulkAll ds ≤ 1048576)
def OpenSpec.upto (s : _root_.Go.ChangeSpec) : _root_.Go.OpenSpec := { _root_.Go.OpenSpec.ofChange s with cond := some uptoSmall }

/-- 'distafflaw01.ArithDoes', WHERE WHAT IT READS IS OF BULK AT MOST 1048576: true; the input reads as it did. -/
def arithDoesUptoRow : OpenClaim := { program := "ytoojmpcpbnlkaaa", sum := "2af8d2dcfa009aa34bd757b62edb9c32beb413703db121a3f0d9cafd3c90a69e", func := "distaff/distafflaw01.ArithDoes", spec := "arithDoes", apart := false, narrowed := true }
def ArithDoesUptoSaid : Prop := arithDoesUptoRow.holds Try.pinned (OpenSpec.upto arithDoesSpec)

/-- 'distafflaw01.ArithOnes', WHERE WHAT IT READS IS OF BULK AT MOST 1048576: true; the input reads as it did. -/
def arithOnesUptoRow : OpenClaim := { program := "ytoojmpcpbnlkaaa", sum := "2af8d2dcfa009aa34bd757b62edb9c32beb413703db121a3f0d9cafd3c90a69e", func := "distaff/distafflaw01.ArithOnes", spec := "arithOnes", apart := false, narrowed := true }
def ArithOnesUptoSaid : Prop := arithOnesUptoRow.holds Try.pinned (OpenSpec.upto arithOnesSpec)

/-- 'distafflaw01.ArithKinds', WHERE WHAT IT READS IS OF BULK AT MOST 1048576: true; the input reads as it did. -/
def arithKindsUptoRow : OpenClaim := { program := "ytoojmpcpbnlkaaa", sum := "2af8d2dcfa009aa34bd757b62edb9c32beb413703db121a3f0d9cafd3c90a69e", func := "distaff/distafflaw01.ArithKinds", spec := "arithKinds", apart := false, narrowed := true }
def ArithKindsUptoSaid : Prop := arithKindsUptoRow.holds Try.pinned (OpenSpec.upto arithKindsSpec)

/-- 'distafflaw01.ArithGcds', WHERE WHAT IT READS IS OF BULK AT MOST 1048576: true; the input reads as it did. -/
def arithGcdsUptoRow : OpenClaim := { program := "ytoojmpcpbnlkaaa", sum := "2af8d2dcfa009aa34bd757b62edb9c32beb413703db121a3f0d9cafd3c90a69e", func := "distaff/distafflaw01.ArithGcds", spec := "arithGcds", apart := false, narrowed := true }
def ArithGcdsUptoSaid : Prop := arithGcdsUptoRow.holds Try.pinned (OpenSpec.upto arithGcdsSpec)

/-- 'distafflaw01.ArithFits', WHERE WHAT IT READS IS OF BULK AT MOST 1048576: true; the input reads as it did. -/
def arithFitsUptoRow : OpenClaim := { program := "ytoojmpcpbnlkaaa", sum := "2af8d2dcfa009aa34bd757b62edb9c32beb413703db121a3f0d9cafd3c90a69e", func := "distaff/distafflaw01.ArithFits", spec := "arithFits", apart := false, narrowed := true }
def ArithFitsUptoSaid : Prop := arithFitsUptoRow.holds Try.pinned (OpenSpec.upto arithFitsSpec)

/-- 'distafflaw01.ArithSums', WHERE WHAT IT READS IS OF BULK AT MOST 1048576: true; the input reads as it did. -/
def arithSumsUptoRow : OpenClaim := { program := "ytoojmpcpbnlkaaa", sum := "2af8d2dcfa009aa34bd757b62edb9c32beb413703db121a3f0d9cafd3c90a69e", func := "distaff/distafflaw01.ArithSums", spec := "arithSums", apart := false, narrowed := true }
def ArithSumsUptoSaid : Prop := arithSumsUptoRow.holds Try.pinned (OpenSpec.upto arithSumsSpec)

/-- 'distafflaw01.ArithTurns', WHERE WHAT IT READS IS OF BULK AT MOST 1048576: true; the input reads as it did. -/
def arithTurnsUptoRow : OpenClaim := { program := "ytoojmpcpbnlkaaa", sum := "2af8d2dcfa009aa34bd757b62edb9c32beb413703db121a3f0d9cafd3c90a69e", func := "distaff/distafflaw01.ArithTurns", spec := "arithTurns", apart := false, narrowed := true }
def ArithTurnsUptoSaid : Prop := arithTurnsUptoRow.holds Try.pinned (OpenSpec.upto arithTurnsSpec)

end Rows
end Go.Proofs.Ytoojmpcpbnlkaaa
