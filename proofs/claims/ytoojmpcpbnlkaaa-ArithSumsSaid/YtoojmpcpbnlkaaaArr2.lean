/- Plain lemmas on a division bit by bit. No further condition. -/
import Derived.Test.YtoojmpcpbnlkaaaArr1
namespace Go.Proofs.Ytoojmpcpbnlkaaa.Arr
open Go.RowKit Go.Proofs.YtoojmpcpbnlkaaaW.PrintWords Go.Proofs.YtoojmpcpbnlkaaaW.PrintLast Go.Proofs.YtoojmpcpbnlkaaaW.PrintMore

/-- one step of a division, from the highest bit down -/
theorem div_step (A B : Int) (m : Nat) (hB : 0 < B) :
    (A / 2 ^ m) % B = (if B ≤ 2 * ((A / 2 ^ (m + 1)) % B) + bitOf A m then 2 * ((A / 2 ^ (m + 1)) % B) + bitOf A m - B else 2 * ((A / 2 ^ (m + 1)) % B) + bitOf A m) ∧
    bitOf (A / B) m = (if B ≤ 2 * ((A / 2 ^ (m + 1)) % B) + bitOf A m then 1 else 0) := by
  have hp : (0 : Int) < 2 ^ m := Int.pow_pos (by decide)
  have e1 : A / 2 ^ (m + 1) = A / 2 ^ m / 2 := by rw [Int.pow_succ, div_div _ (Int.le_of_lt hp)]
  have e2 : A / B / 2 ^ m = A / 2 ^ m / B := by rw [div_div _ (Int.le_of_lt hB), div_div _ (Int.le_of_lt hp), Int.mul_comm]
  have hb : bitOf A m = A / 2 ^ m % 2 := rfl
  have hb2 : bitOf (A / B) m = A / 2 ^ m / B % 2 := by unfold bitOf; rw [e2]
  rw [hb2, hb, e1]
  generalize A / 2 ^ m = Y
  have d := Int.mul_ediv_add_emod (Y / 2) B
  have r0 := Int.emod_nonneg (Y / 2) (show B ≠ 0 by omega)
  have r1 := Int.emod_lt_of_pos (Y / 2) hB
  generalize Y / 2 / B = Q at *
  generalize hR : Y / 2 % B = R at *
  have hY : Y = B * (2 * Q) + (2 * R + Y % 2) := by
    have : B * (2 * Q) = 2 * (B * Q) := by rw [← Int.mul_assoc, Int.mul_comm B 2, Int.mul_assoc]
    omega
  by_cases c : B ≤ 2 * R + Y % 2
  · rw [if_pos c, if_pos c]
    have := (Int.ediv_emod_unique (a := Y) (b := B) (r := 2 * R + Y % 2 - B) (q := 2 * Q + 1) hB).2 ⟨by rw [Int.mul_add, Int.mul_one]; omega, by omega, by omega⟩
    rw [this.1, this.2]
    exact ⟨rfl, by omega⟩
  · rw [if_neg c, if_neg c]
    have := (Int.ediv_emod_unique (a := Y) (b := B) (r := 2 * R + Y % 2) (q := 2 * Q) hB).2 ⟨by omega, by omega, by omega⟩
    rw [this.1, this.2]
    exact ⟨rfl, by omega⟩

/-- the places of an array of 64 numbers of which those from m on are filled -/
def mkd (f : Nat → Int) (m : Nat) : List Int := (List.range 64).map fun j => if m ≤ j then f j else 0
theorem mkd_len (f : Nat → Int) (k : Nat) : (mkd f k).length = 64 := by simp [mkd]
theorem mkd_set (f : Nat → Int) (k : Nat) : (mkd f (k + 1)).set k (f k) = mkd f k := by
  unfold mkd
  apply List.ext_getElem
  · simp
  · intro j h1 h2
    simp only [List.getElem_set, List.getElem_map, List.getElem_range]
    by_cases c : k = j
    · subst c; rw [if_pos rfl, if_pos (Nat.le_refl _)]
    · rw [if_neg c]
      by_cases d : k + 1 ≤ j
      · rw [if_pos d, if_pos (by omega)]
      · rw [if_neg d, if_neg (by omega)]
theorem mkd_zero (f : Nat → Int) (k : Nat) (h : f k = 0) : mkd f (k + 1) = mkd f k := by
  rw [← mkd_set f k, h]
  apply List.ext_getElem
  · simp
  · intro j h1 h2
    rw [List.getElem_set]
    by_cases c : k = j
    · subst c; rw [if_pos rfl]; simp [mkd, h]
    · rw [if_neg c]
theorem mkd_all (f : Nat → Int) : mkd f 0 = mk f 64 := by
  unfold mkd mk
  apply List.map_congr_left
  intro j hj
  rw [if_pos (Nat.zero_le _), if_pos (List.mem_range.1 hj)]
theorem zeros_eqd (f : Nat → Int) : zeros = cellsOf (mkd f 64) := by
  have : mkd f 64 = List.replicate 64 0 := by
    apply List.ext_getElem
    · simp [mkd]
    · intro j h1 h2
      have hj : j < 64 := by simpa [mkd] using h1
      rw [List.getElem_replicate]
      simp [mkd]
      omega
  rw [this]; rfl

theorem mod_zero (a : Int) : a % 2 ^ 0 = 0 := by rw [Int.pow_zero, Int.emod_one]

theorem cmp_step (a b : Int) (j : Nat) : (a % 2 ^ (j + 1) < b % 2 ^ (j + 1)) ↔ (if bitOf a j = bitOf b j then a % 2 ^ j < b % 2 ^ j else bitOf b j = 1) := by
  rw [mod_step a, mod_step b]
  have hp : (0 : Int) < 2 ^ j := Int.pow_pos (by decide)
  have a0 := Int.emod_nonneg a (show (2 : Int) ^ j ≠ 0 by omega)
  have a1 := Int.emod_lt_of_pos a hp
  have b0 := Int.emod_nonneg b (show (2 : Int) ^ j ≠ 0 by omega)
  have b1 := Int.emod_lt_of_pos b hp
  rcases bit_01 a j with h1 | h1 <;> rcases bit_01 b j with h2 | h2 <;> rw [h1, h2] <;> simp <;> omega

theorem high_bit (R : Int) (h0 : 0 ≤ R) (h1 : R < 18446744073709551616) : bitOf (wrap64 R) 63 = if 9223372036854775808 ≤ R then 1 else 0 := by
  rw [bit_wrap _ _ (by decide)]
  unfold bitOf
  rw [show (2 : Int) ^ 63 = 9223372036854775808 from rfl]
  split <;> omega

end Go.Proofs.Ytoojmpcpbnlkaaa.Arr
