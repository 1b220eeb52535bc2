/- Plain lemmas on arrays of 64 bits and on the numbers that they say, and how the Go code keeps such an array in memory. No further condition. -/
import Derived.Test.YtoojmpcpbnlkaaaProg
import Derived.Test.YtoojmpcpbnlkaaaWWords
import Derived.Test.YtoojmpcpbnlkaaaWLast
import Derived.Test.YtoojmpcpbnlkaaaWMore
import Derived.Laws.Rows
import Derived.Lib.Hide
import Derived.Deep.WholeRow
import Derived.Great.BuildSlice
import Derived.Great.Walk
import Derived.LoopTactic
namespace Go.Proofs.Ytoojmpcpbnlkaaa.Arr
open Go.RowKit Go.Proofs.YtoojmpcpbnlkaaaW.PrintWords Go.Proofs.YtoojmpcpbnlkaaaW.PrintLast Go.Proofs.YtoojmpcpbnlkaaaW.PrintMore

/-- the number that bits say, the lowest first, as the loop reckons it -/
def hi : List Int → Int
  | [] => 0
  | x :: t => IntKind.u64.wrap (IntKind.u64.wrap (hi t * 2) + IntKind.u64.wrap x)

/-- the same, without going round -/
def val : List Int → Int
  | [] => 0
  | x :: t => val t * 2 + x

def cellsOf (xs : List Int) : Array Value := (xs.map (Value.int .i64)).toArray

/-- the places of an array of 64 numbers of which the first k are filled -/
def mk (f : Nat → Int) (k : Nat) : List Int := (List.range 64).map fun j => if j < k then f j else 0

theorem mk_len (f : Nat → Int) (k : Nat) : (mk f k).length = 64 := by simp [mk]
theorem mk_set (f : Nat → Int) (k : Nat) : (mk f k).set k (f k) = mk f (k + 1) := by
  unfold mk
  apply List.ext_getElem
  · simp
  · intro j h1 h2
    simp only [List.getElem_set, List.getElem_map, List.getElem_range]
    by_cases c : k = j
    · subst c; rw [if_pos rfl, if_pos (by omega)]
    · rw [if_neg c]
      by_cases d : j < k
      · rw [if_pos d, if_pos (by omega)]
      · rw [if_neg d, if_neg (by omega)]
theorem mk_all (f : Nat → Int) : mk f 64 = (List.range 64).map f := by
  unfold mk
  apply List.map_congr_left
  intro j hj
  rw [if_pos (List.mem_range.1 hj)]
theorem cells_set (xs : List Int) (k : Nat) (v : Int) : (cellsOf xs).setIfInBounds k (.int .i64 v) = cellsOf (xs.set k v) := by
  simp [cellsOf, List.map_set]
theorem cells_size (xs : List Int) : (cellsOf xs).size = xs.length := by simp [cellsOf]
theorem cells_at (xs : List Int) (k : Nat) (h : k < xs.length) : (cellsOf xs)[k]? = some (.int .i64 (xs.getD k 0)) := by
  simp [cellsOf, h]

def zeros : Array Value := #[.int .i64 0, .int .i64 0, .int .i64 0, .int .i64 0, .int .i64 0, .int .i64 0, .int .i64 0, .int .i64 0, .int .i64 0, .int .i64 0, .int .i64 0, .int .i64 0, .int .i64 0, .int .i64 0, .int .i64 0, .int .i64 0, .int .i64 0, .int .i64 0, .int .i64 0, .int .i64 0, .int .i64 0, .int .i64 0, .int .i64 0, .int .i64 0, .int .i64 0, .int .i64 0, .int .i64 0, .int .i64 0, .int .i64 0, .int .i64 0, .int .i64 0, .int .i64 0, .int .i64 0, .int .i64 0, .int .i64 0, .int .i64 0, .int .i64 0, .int .i64 0, .int .i64 0, .int .i64 0, .int .i64 0, .int .i64 0, .int .i64 0, .int .i64 0, .int .i64 0, .int .i64 0, .int .i64 0, .int .i64 0, .int .i64 0, .int .i64 0, .int .i64 0, .int .i64 0, .int .i64 0, .int .i64 0, .int .i64 0, .int .i64 0, .int .i64 0, .int .i64 0, .int .i64 0, .int .i64 0, .int .i64 0, .int .i64 0, .int .i64 0, .int .i64 0]
theorem zeros_eq (f : Nat → Int) : zeros = cellsOf (mk f 0) := by
  have : mk f 0 = List.replicate 64 0 := by
    simp [mk, List.map_const']
  rw [this]; rfl

theorem hi_step (xs : List Int) (m : Nat) (h : m < xs.length) : hi (xs.drop m) = IntKind.u64.wrap (IntKind.u64.wrap (hi (xs.drop (m + 1)) * 2) + IntKind.u64.wrap (xs.getD m 0)) := by
  rw [List.drop_eq_getElem_cons h]
  simp only [hi]
  rw [show xs.getD m 0 = xs[m] by simp [h]]

theorem cell_at (xs : List Int) (w : World) (k : Nat) (h : k < xs.length) : (w.alloc (Obj.cells (cellsOf xs) 49)).cell? ⟨w.heap.size, k, none⟩ = some (.int .i64 (xs.getD k 0)) := by
  rw [blk_cell (blk_new w _) k]
  simp [cellsOf, h]

/-! ### numbers and their bits -/
theorem u64 (n : Int) : IntKind.u64.wrap n = n % 18446744073709551616 := by
  simp [IntKind.wrap, IntKind.bits, IntKind.signed]

/-- a bit of a number -/
def bitOf (a : Int) (i : Nat) : Int := a / 2 ^ i % 2

theorem bit_01 (a : Int) (i : Nat) : bitOf a i = 0 ∨ bitOf a i = 1 := by unfold bitOf; omega

theorem pow64 {i : Nat} (h : i < 64) : (18446744073709551616 : Int) = 2 ^ i * (2 * 2 ^ (63 - i)) := by
  have : (2 : Int) ^ i * (2 * 2 ^ (63 - i)) = 2 ^ 64 := by
    rw [Int.mul_comm 2, ← Int.pow_succ, ← Int.pow_add]; congr 1; omega
  rw [this]; rfl

theorem bit_add (a z : Int) (i : Nat) (h : i < 64) : bitOf (a + 18446744073709551616 * z) i = bitOf a i := by
  unfold bitOf
  have hp : (0 : Int) < 2 ^ i := Int.pow_pos (by decide)
  rw [pow64 h, Int.mul_assoc, Int.add_mul_ediv_left _ _ (by omega), Int.mul_assoc]
  generalize a / 2 ^ i = y
  generalize (2 : Int) ^ (63 - i) * z = t
  omega

theorem bit_mod (a : Int) (i : Nat) (h : i < 64) : bitOf (a % 18446744073709551616) i = bitOf a i := by
  have e : a = a % 18446744073709551616 + 18446744073709551616 * (a / 18446744073709551616) := by omega
  conv => rhs; rw [e]
  rw [bit_add _ _ _ h]

theorem bit_wrap (a : Int) (i : Nat) (h : i < 64) : bitOf (wrap64 a) i = bitOf a i := by
  have e : wrap64 a = a + 18446744073709551616 * (-((a + 9223372036854775808) / 18446744073709551616)) := by unfold wrap64; omega
  rw [e, bit_add _ _ _ h]

/-- the lowest n bits of a number -/
def bitsOf : Int → Nat → List Int
  | _, 0 => []
  | a, n + 1 => a % 2 :: bitsOf (a / 2) n

theorem div_div (a : Int) {b c : Int} (h : 0 ≤ b) : a / b / c = a / (b * c) := by
  rw [Int.ediv_ediv, if_neg (by omega), Int.sub_zero]

theorem emod_two_mul (a : Int) (M : Int) : a % (2 * M) = 2 * (a / 2 % M) + a % 2 := by
  have h1 := Int.emod_def a (2 * M)
  have h2 := Int.emod_def (a / 2) M
  have h3 : a / (2 * M) = a / 2 / M := by rw [div_div _ (by decide)]
  rw [h3] at h1
  rw [h1, h2, Int.mul_assoc]
  generalize M * (a / 2 / M) = t
  omega

theorem val_bits (n : Nat) : ∀ a : Int, val (bitsOf a n) = a % 2 ^ n := by
  induction n with
  | zero => intro a; simp [bitsOf, val, Int.emod_one]
  | succ n ih =>
    intro a
    simp only [bitsOf, val]
    rw [ih, Int.pow_succ, Int.mul_comm (2 ^ n) 2, emod_two_mul]
    omega

theorem hi_bits (n : Nat) : ∀ a : Int, n ≤ 64 → hi (bitsOf a n) = val (bitsOf a n) := by
  induction n with
  | zero => intro a _; rfl
  | succ n ih =>
    intro a h
    have e := val_bits (n + 1) a
    simp only [bitsOf, val, hi] at e ⊢
    rw [ih _ (by omega)]
    have h1 := val_bits n (a / 2)
    have hp : (0 : Int) < 2 ^ n := Int.pow_pos (by decide)
    have b1 := Int.emod_nonneg (a / 2) (show (2 : Int) ^ n ≠ 0 by omega)
    have b2 := Int.emod_lt_of_pos (a / 2) hp
    have hq : (2 : Int) ^ n ≤ 9223372036854775808 := by
      have : (2 : Nat) ^ n ≤ 2 ^ 63 := Nat.pow_le_pow_right (by decide) (by omega)
      have : ((2 ^ n : Nat) : Int) ≤ ((2 ^ 63 : Nat) : Int) := by omega
      simpa using this
    rw [h1] at e ⊢
    generalize a / 2 % 2 ^ n = v at *
    rw [u64, u64, u64]
    omega

theorem bitsOf_range (n : Nat) : ∀ a : Int, bitsOf a n = (List.range n).map (bitOf a) := by
  induction n with
  | zero => intro a; rfl
  | succ n ih =>
    intro a
    rw [List.range_succ_eq_map, List.map_cons, List.map_map, bitsOf, ih]
    congr 1
    · unfold bitOf; rw [Int.pow_zero, Int.ediv_one]
    · apply List.map_congr_left
      intro j _
      show a / 2 / 2 ^ j % 2 = a / 2 ^ (j + 1) % 2
      rw [div_div _ (by decide), Int.pow_succ, Int.mul_comm]

/-- the number of 64 bits that are those of a -/
theorem num_eq (f : Nat → Int) (a : Int) (h : ∀ j, j < 64 → f j = bitOf a j) : wrap64 (hi (mk f 64)) = wrap64 a := by
  have e : mk f 64 = bitsOf a 64 := by
    rw [mk_all, bitsOf_range]
    apply List.map_congr_left
    intro j hj
    exact h j (List.mem_range.1 hj)
  rw [e, hi_bits 64 a (by omega), val_bits, show (2 : Int) ^ 64 = 18446744073709551616 from rfl]
  unfold wrap64; omega

theorem bits_and_u64 (x y : Int) : Go.bits .and .u64 x y = IntKind.u64.wrap (((x % 18446744073709551616).toNat &&& (y % 18446744073709551616).toNat : Nat) : Int) := by
  show IntKind.u64.wrap ((BitVec.ofInt 64 x &&& BitVec.ofInt 64 y).toNat : Int) = _
  rw [BitVec.toNat_and, BitVec.toNat_ofInt, BitVec.toNat_ofInt]
  rfl

theorem and_one (x : Int) : Go.bits .and .u64 x 1 = x % 2 := by
  rw [bits_and_u64, show ((1 : Int) % 18446744073709551616).toNat = 1 from rfl, Nat.and_one_is_mod, u64]
  omega

theorem bit_expr (a : Int) (i : Nat) (h : i < 64) : wrap64 (Go.bits .and .u64 (shr .u64 (IntKind.u64.wrap a) (IntKind.u64.wrap (i : Int))) 1) = bitOf a i := by
  rw [and_one]
  have e1 : IntKind.u64.wrap (i : Int) = i := by rw [u64]; omega
  have e2 : shr .u64 (IntKind.u64.wrap a) (i : Int) = (a % 18446744073709551616) / 2 ^ i := by
    unfold shr
    rw [u64, show min (i : Int).toNat IntKind.u64.bits = i by simp [IntKind.bits]; omega]
  rw [e1, e2]
  have e3 := bit_mod a i h
  unfold bitOf at e3 ⊢
  rw [e3]
  unfold wrap64; omega

/-! ### the bits of sums, of turned numbers, of shifted ones -/
theorem bit_not (a : Int) (i : Nat) : 1 - bitOf a i = bitOf (-1 - a) i := by
  unfold bitOf
  have hp : (0 : Int) < 2 ^ i := Int.pow_pos (by decide)
  have d := Int.mul_ediv_add_emod a (2 ^ i)
  have r0 := Int.emod_nonneg a (show (2 : Int) ^ i ≠ 0 by omega)
  have r1 := Int.emod_lt_of_pos a hp
  have e : (-1 - a) / 2 ^ i = -1 - a / 2 ^ i := by
    have := (Int.ediv_emod_unique (a := -1 - a) (b := 2 ^ i) (r := 2 ^ i - 1 - a % 2 ^ i) (q := -1 - a / 2 ^ i) hp).2 ⟨by rw [Int.mul_sub, Int.mul_neg, Int.mul_one]; omega, by omega, by omega⟩
    exact this.1
  rw [e]; omega

/-- what is carried when two numbers are added -/
def carry (a b : Int) (i : Nat) : Int := (a % 2 ^ i + b % 2 ^ i) / 2 ^ i

theorem carry_zero (a b : Int) : carry a b 0 = 0 := by simp [carry, Int.emod_one]

theorem carry_01 (a b : Int) (i : Nat) : carry a b i = 0 ∨ carry a b i = 1 := by
  unfold carry
  have hp : (0 : Int) < 2 ^ i := Int.pow_pos (by decide)
  have r0 := Int.emod_nonneg a (show (2 : Int) ^ i ≠ 0 by omega)
  have r1 := Int.emod_lt_of_pos a hp
  have s0 := Int.emod_nonneg b (show (2 : Int) ^ i ≠ 0 by omega)
  have s1 := Int.emod_lt_of_pos b hp
  have h1 : 0 ≤ (a % 2 ^ i + b % 2 ^ i) / 2 ^ i := Int.ediv_nonneg (by omega) (by omega)
  have h2 : (a % 2 ^ i + b % 2 ^ i) / 2 ^ i < 2 := Int.ediv_lt_of_lt_mul hp (by omega)
  omega

theorem mod_step (a : Int) (i : Nat) : a % 2 ^ (i + 1) = 2 ^ i * bitOf a i + a % 2 ^ i := by
  have h1 := Int.emod_def a (2 ^ (i + 1))
  have h2 := Int.emod_def a (2 ^ i)
  have h3 : a / 2 ^ (i + 1) = a / 2 ^ i / 2 := by rw [Int.pow_succ, div_div _ (Int.le_of_lt (Int.pow_pos (by decide)))]
  unfold bitOf
  rw [h3, Int.pow_succ] at h1
  rw [Int.pow_succ, h1, h2]
  have h4 : a / 2 ^ i % 2 = a / 2 ^ i - 2 * (a / 2 ^ i / 2) := by omega
  rw [h4]
  grind

theorem bit_sum (a b : Int) (i : Nat) : (bitOf a i + bitOf b i + carry a b i) % 2 = bitOf (a + b) i ∧ (bitOf a i + bitOf b i + carry a b i) / 2 = carry a b (i + 1) := by
  have hp : (0 : Int) < 2 ^ i := Int.pow_pos (by decide)
  constructor
  · unfold bitOf carry
    have e : (a + b) / 2 ^ i = a / 2 ^ i + b / 2 ^ i + (a % 2 ^ i + b % 2 ^ i) / 2 ^ i := by
      have da := Int.mul_ediv_add_emod a (2 ^ i)
      have db := Int.mul_ediv_add_emod b (2 ^ i)
      have e2 : a + b = (a % 2 ^ i + b % 2 ^ i) + 2 ^ i * (a / 2 ^ i + b / 2 ^ i) := by rw [Int.mul_add]; omega
      conv => lhs; rw [e2]
      rw [Int.add_mul_ediv_left _ _ (by omega)]; omega
    rw [e]; omega
  · have : carry a b (i + 1) = (2 ^ i * bitOf a i + a % 2 ^ i + (2 ^ i * bitOf b i + b % 2 ^ i)) / (2 ^ i * 2) := by
      unfold carry
      rw [mod_step a, mod_step b, Int.pow_succ]
    rw [this, ← div_div _ (by omega)]
    have e2 : 2 ^ i * bitOf a i + a % 2 ^ i + (2 ^ i * bitOf b i + b % 2 ^ i) = (a % 2 ^ i + b % 2 ^ i) + 2 ^ i * (bitOf a i + bitOf b i) := by rw [Int.mul_add]; omega
    rw [e2, Int.add_mul_ediv_left _ _ (by omega)]
    unfold carry
    congr 1; omega

end Go.Proofs.Ytoojmpcpbnlkaaa.Arr
