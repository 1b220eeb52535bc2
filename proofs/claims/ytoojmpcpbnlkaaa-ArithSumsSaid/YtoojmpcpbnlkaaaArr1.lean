/- Plain lemmas on the bits of numbers: logic and shifts. No further condition. -/
import Derived.Test.YtoojmpcpbnlkaaaArr0
namespace Go.Proofs.Ytoojmpcpbnlkaaa.Arr
open Go.RowKit Go.Proofs.YtoojmpcpbnlkaaaW.PrintWords Go.Proofs.YtoojmpcpbnlkaaaW.PrintLast Go.Proofs.YtoojmpcpbnlkaaaW.PrintMore

theorem bits_and_i (x y : Int) : Go.bits .and .i64 x y = IntKind.i64.wrap (((x % 18446744073709551616).toNat &&& (y % 18446744073709551616).toNat : Nat) : Int) := by
  show IntKind.i64.wrap ((BitVec.ofInt 64 x &&& BitVec.ofInt 64 y).toNat : Int) = _
  rw [BitVec.toNat_and, BitVec.toNat_ofInt, BitVec.toNat_ofInt]; rfl
theorem bits_or_i (x y : Int) : Go.bits .or .i64 x y = IntKind.i64.wrap (((x % 18446744073709551616).toNat ||| (y % 18446744073709551616).toNat : Nat) : Int) := by
  show IntKind.i64.wrap ((BitVec.ofInt 64 x ||| BitVec.ofInt 64 y).toNat : Int) = _
  rw [BitVec.toNat_or, BitVec.toNat_ofInt, BitVec.toNat_ofInt]; rfl
theorem bits_xor_i (x y : Int) : Go.bits .xor .i64 x y = IntKind.i64.wrap (((x % 18446744073709551616).toNat ^^^ (y % 18446744073709551616).toNat : Nat) : Int) := by
  show IntKind.i64.wrap ((BitVec.ofInt 64 x ^^^ BitVec.ofInt 64 y).toNat : Int) = _
  rw [BitVec.toNat_xor, BitVec.toNat_ofInt, BitVec.toNat_ofInt]; rfl

theorem wrap_i (n : Int) : IntKind.i64.wrap n = wrap64 n := by rw [IntKind.wrap_i64]; unfold wrap64; rfl
theorem wrap_wrap (n : Int) : wrap64 (wrap64 n) = wrap64 n := by unfold wrap64; omega

theorem bit_nat (n : Nat) (j : Nat) : bitOf (n : Int) j = if n.testBit j then 1 else 0 := by
  unfold bitOf
  rw [Nat.testBit_eq_decide_div_mod_eq]
  have e : ((n : Int) / 2 ^ j % 2) = ((n / 2 ^ j % 2 : Nat) : Int) := by simp
  rw [e]
  by_cases h : n / 2 ^ j % 2 = 1
  · simp [h]
  · have : n / 2 ^ j % 2 = 0 := by omega
    simp [this]

theorem bit_test (a : Int) (j : Nat) (h : j < 64) : bitOf a j = if (a % 18446744073709551616).toNat.testBit j then 1 else 0 := by
  rw [← bit_nat, Int.toNat_of_nonneg (Int.emod_nonneg _ (by decide)), bit_mod a j h]

theorem bit_and (a b : Int) (j : Nat) (h : j < 64) : bitOf (Go.bits .and .i64 a b) j = bitOf a j * bitOf b j := by
  rw [bits_and_i, wrap_i, bit_wrap _ _ h, bit_nat, bit_test a j h, bit_test b j h, Nat.testBit_and]
  cases (a % 18446744073709551616).toNat.testBit j <;> cases (b % 18446744073709551616).toNat.testBit j <;> rfl
theorem bit_or (a b : Int) (j : Nat) (h : j < 64) : bitOf (Go.bits .or .i64 a b) j = bitOf a j + bitOf b j - bitOf a j * bitOf b j := by
  rw [bits_or_i, wrap_i, bit_wrap _ _ h, bit_nat, bit_test a j h, bit_test b j h, Nat.testBit_or]
  cases (a % 18446744073709551616).toNat.testBit j <;> cases (b % 18446744073709551616).toNat.testBit j <;> rfl
theorem bit_xor (a b : Int) (j : Nat) (h : j < 64) : bitOf (Go.bits .xor .i64 a b) j = (bitOf a j + bitOf b j) % 2 := by
  rw [bits_xor_i, wrap_i, bit_wrap _ _ h, bit_nat, bit_test a j h, bit_test b j h, Nat.testBit_xor]
  cases (a % 18446744073709551616).toNat.testBit j <;> cases (b % 18446744073709551616).toNat.testBit j <;> rfl
theorem wrap_and (a b : Int) : wrap64 (Go.bits .and .i64 a b) = Go.bits .and .i64 a b := by rw [bits_and_i, wrap_i, wrap_wrap]
theorem wrap_or (a b : Int) : wrap64 (Go.bits .or .i64 a b) = Go.bits .or .i64 a b := by rw [bits_or_i, wrap_i, wrap_wrap]
theorem wrap_xor (a b : Int) : wrap64 (Go.bits .xor .i64 a b) = Go.bits .xor .i64 a b := by rw [bits_xor_i, wrap_i, wrap_wrap]

/-! ### shifts -/
theorem bit_left (a : Int) (n i : Nat) : bitOf (a * 2 ^ n) i = if n ≤ i then bitOf a (i - n) else 0 := by
  unfold bitOf
  have hp : ∀ m : Nat, (0 : Int) < 2 ^ m := fun m => Int.pow_pos (by decide)
  by_cases h : n ≤ i
  · rw [if_pos h]
    have e : (2 : Int) ^ i = 2 ^ n * 2 ^ (i - n) := by rw [← Int.pow_add]; congr 1; omega
    rw [e, ← div_div _ (Int.le_of_lt (hp n)), Int.mul_ediv_cancel _ (by have := hp n; omega)]
  · rw [if_neg h]
    have e : (2 : Int) ^ n = 2 ^ i * (2 ^ (n - i - 1) * 2) := by rw [← Int.pow_succ, ← Int.pow_add]; congr 1; omega
    rw [e, ← Int.mul_assoc, Int.mul_comm a, Int.mul_assoc, Int.mul_ediv_cancel_left _ (by have := hp i; omega), ← Int.mul_assoc]
    omega

/-- a number shifted to the right, with a bit above -/
def rightOf (a : Int) (n : Nat) (above : Int) : Int := (a % 18446744073709551616) / 2 ^ n + above * (18446744073709551616 - 2 ^ (64 - n))

theorem bit_right (a : Int) (n i : Nat) (above : Int) (hn : n < 64) (hi : i < 64) (hab : above = 0 ∨ above = 1) :
    bitOf (rightOf a n above) i = if i + n < 64 then bitOf a (i + n) else above := by
  have hp : ∀ m : Nat, (0 : Int) < 2 ^ m := fun m => Int.pow_pos (by decide)
  have q0 : 0 ≤ (a % 18446744073709551616) / 2 ^ n := Int.ediv_nonneg (Int.emod_nonneg _ (by decide)) (Int.le_of_lt (hp n))
  have hPn : (2 : Int) ^ (64 - n) * 2 ^ n = 18446744073709551616 := by rw [← Int.pow_add, show 64 - n + n = 64 by omega]; rfl
  have q1 : (a % 18446744073709551616) / 2 ^ n < 2 ^ (64 - n) := by
    apply Int.ediv_lt_of_lt_mul (hp n)
    rw [hPn]; exact Int.emod_lt_of_pos _ (by decide)
  have inn : i + n < 64 → (a % 18446744073709551616) / 2 ^ n / 2 ^ i % 2 = bitOf a (i + n) := by
    intro h
    rw [div_div _ (Int.le_of_lt (hp n)), ← Int.pow_add, Nat.add_comm n i]
    exact bit_mod a (i + n) h
  unfold rightOf
  rcases hab with rfl | rfl
  · rw [Int.zero_mul, Int.add_zero]
    by_cases h : i + n < 64
    · rw [if_pos h]; exact inn h
    · rw [if_neg h]
      unfold bitOf
      have hle : (2 : Int) ^ (64 - n) ≤ 2 ^ i := by
        have : (2 : Nat) ^ (64 - n) ≤ 2 ^ i := Nat.pow_le_pow_right (by decide) (by omega)
        exact_mod_cast this
      rw [Int.ediv_eq_zero_of_lt q0 (by omega)]; rfl
  · rw [Int.one_mul]
    have e : (a % 18446744073709551616) / 2 ^ n + (18446744073709551616 - 2 ^ (64 - n)) = ((a % 18446744073709551616) / 2 ^ n - 2 ^ (64 - n)) + 18446744073709551616 * 1 := by omega
    rw [e, bit_add _ _ _ hi]
    by_cases h : i + n < 64
    · rw [if_pos h, ← inn h]
      unfold bitOf
      have e2 : (2 : Int) ^ (64 - n) = 2 ^ i * (2 ^ (63 - n - i) * 2) := by rw [← Int.pow_succ, ← Int.pow_add]; congr 1; omega
      rw [e2, Int.sub_eq_add_neg, ← Int.mul_neg, Int.add_mul_ediv_left _ _ (by have := hp i; omega)]
      generalize (2 : Int) ^ (63 - n - i) = t
      omega
    · rw [if_neg h]
      unfold bitOf
      have hle : (2 : Int) ^ (64 - n) ≤ 2 ^ i := by
        have : (2 : Nat) ^ (64 - n) ≤ 2 ^ i := Nat.pow_le_pow_right (by decide) (by omega)
        exact_mod_cast this
      have hi' := hp i
      generalize (a % 18446744073709551616) / 2 ^ n = q at *
      generalize (2 : Int) ^ (64 - n) = P at *
      generalize (2 : Int) ^ i = M at *
      have := (Int.ediv_emod_unique (a := q - P) (b := M) (r := q - P + M) (q := -1) hi').2 ⟨by omega, by omega, by omega⟩
      rw [this.1]; rfl

end Go.Proofs.Ytoojmpcpbnlkaaa.Arr
