/- Facts about symbols: sums, differences, remainders, low bits. Nothing is claimed of the program here; no condition. -/
import Derived.Test.YtdndjcofafkafaaSimJ
namespace Go.Proofs.Ytdndjcofafkafaa.Sim
set_option linter.unusedVariables false
set_option linter.unusedSimpArgs false
open Go Go.RowKit

def lowBits (a : Int) (n : Nat) : Nat := (BitVec.ofInt 64 a).toNat &&& n
theorem lowBits_le (a : Int) (n : Nat) : lowBits a n ≤ n := Nat.and_le_right

theorem wrap_there (n : Int) (h0 : -9223372036854775808 ≤ n) (h1 : n < 9223372036854775808) : IntKind.i64.wrap n = n := by
  simp only [IntKind.wrap, IntKind.bits, IntKind.signed]
  simp
  split <;> omega

section
variable {P : Program} {env : Nat → Int} {x y : Num}

theorem and_run (a : Int) (n : Nat) (hn : n < 9223372036854775808) (t : TypeId) (w : World) : (binOp .and t (.int .i64 a) (.int .i64 (n : Int))).run P w = .ok (.int .i64 (lowBits a n : Nat)) w := by
  have hle := lowBits_le a n
  have h1 : (BitVec.ofInt 64 a &&& BitVec.ofInt 64 (n : Int)).toNat = lowBits a n := by
    rw [BitVec.toNat_and]
    have : (BitVec.ofInt 64 (n : Int)).toNat = n := by
      rw [BitVec.toNat_ofInt]; omega
    rw [this]; rfl
  have h2 : IntKind.i64.wrap ((lowBits a n : Nat) : Int) = ((lowBits a n : Nat) : Int) := wrap_there _ (by omega) (by omega)
  show (Op.intBits .and .i64 a (n : Int)).run P w = _
  unfold Op.intBits
  show Result.ok (Value.int .i64 (IntKind.i64.wrap ((BitVec.ofInt 64 a &&& BitVec.ofInt 64 (n : Int)).toNat : Nat))) w = _
  rw [h1, h2]

theorem fo_and {j n : Nat} (hn : n < 9223372036854775808) (hy : numV env y = (n : Int)) (h : env j = (lowBits (numV env x) n : Nat)) : FactOk P env ⟨.and, .i64, x, y, .sym .i64 j⟩ := fo_sym fun t w => by
  rw [hy, h]; exact and_run _ n hn t w
theorem fo_and_lit {n : Nat} {m : Int} (hn : n < 9223372036854775808) (hy : numV env y = (n : Int)) (h : m = (lowBits (numV env x) n : Nat)) : FactOk P env ⟨.and, .i64, x, y, .int .i64 m⟩ := fo_lit fun t w => by
  rw [hy, h]; exact and_run _ n hn t w
theorem fo_add {j : Nat} (h : env j = numV env x + numV env y) (h0 : -9223372036854775808 ≤ numV env x + numV env y) (h1 : numV env x + numV env y < 9223372036854775808) : FactOk P env ⟨.add, .i64, x, y, .sym .i64 j⟩ := fo_sym fun t w => by
  simp [binOp, Op.intArith, wrap_there _ h0 h1, h]
theorem fo_sub {j : Nat} (h : env j = numV env x - numV env y) (h0 : -9223372036854775808 ≤ numV env x - numV env y) (h1 : numV env x - numV env y < 9223372036854775808) : FactOk P env ⟨.sub, .i64, x, y, .sym .i64 j⟩ := fo_sym fun t w => by
  simp [binOp, Op.intArith, wrap_there _ h0 h1, h]
theorem fo_rem {j : Nat} (hy : numV env y ≠ 0) (h : env j = (numV env x).tmod (numV env y)) : FactOk P env ⟨.rem, .i64, x, y, .sym .i64 j⟩ := fo_sym fun t w => by
  simp [binOp, Op.intDiv, hy, h]
theorem fo_rem_lit {m : Int} (hy : numV env y ≠ 0) (h : m = (numV env x).tmod (numV env y)) : FactOk P env ⟨.rem, .i64, x, y, .int .i64 m⟩ := fo_lit fun t w => by
  simp [binOp, Op.intDiv, hy, h]
end
end Go.Proofs.Ytdndjcofafkafaa.Sim
