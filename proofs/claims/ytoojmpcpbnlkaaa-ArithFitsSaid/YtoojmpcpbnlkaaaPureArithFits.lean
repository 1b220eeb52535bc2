/- The statement ArithFits over numbers and lists: the printed law answers true at every input that its kinds allow. No further condition. -/
import Derived.Test.YtoojmpcpbnlkaaaMArithFitsx2
namespace Go.Proofs.Ytoojmpcpbnlkaaa.Pure
open Go.RowKit Go.Proofs.Ytoojmpcpbnlkaaa.PArithFits Go.Proofs.YtoojmpcpbnlkaaaW.PrintWords Go.Proofs.YtoojmpcpbnlkaaaW.PrintLast Go.Proofs.YtoojmpcpbnlkaaaW.PrintMore

namespace ArithFits

theorem wf_i64 {n : Int} (h : (Lit.int .i64 n).wf = true) : -9223372036854775808 ≤ n ∧ n < 9223372036854775808 := by
  simp [Lit.wf, IntKind.min, IntKind.max, IntKind.signed, IntKind.bits] at h
  omega

theorem w64 {n : Int} (h1 : -9223372036854775808 ≤ n) (h2 : n < 9223372036854775808) : wrap64 n = n := by
  unfold wrap64; omega

theorem u64 (n : Int) : IntKind.u64.wrap n = n % 18446744073709551616 := by
  simp [IntKind.wrap, IntKind.bits, IntKind.signed]

theorem bits_and (x y : Int) : Go.bits .and .i64 x y = IntKind.i64.wrap (((x % 18446744073709551616).toNat &&& (y % 18446744073709551616).toNat : Nat) : Int) := by
  show IntKind.i64.wrap ((BitVec.ofInt 64 x &&& BitVec.ofInt 64 y).toNat : Int) = _
  rw [BitVec.toNat_and, BitVec.toNat_ofInt, BitVec.toNat_ofInt]
  rfl

theorem and_mask (x : Int) (i : Nat) (hi : i ≤ 62) : Go.bits .and .i64 x (2 ^ i - 1) = x % 2 ^ i := by
  have hp : (2 : Nat) ^ i ≤ 2 ^ 62 := Nat.pow_le_pow_right (by decide) hi
  have hpos : 0 < (2 : Nat) ^ i := Nat.two_pow_pos i
  have hc : ((2 : Int) ^ i - 1) = ((2 ^ i - 1 : Nat) : Int) := by
    rw [Int.natCast_sub hpos]; simp
  have hd : ((2 : Nat) ^ i) ∣ 2 ^ 64 := Nat.pow_dvd_pow 2 (by omega)
  rw [hc, bits_and]
  have e1 : ((((2 ^ i - 1 : Nat) : Int) % 18446744073709551616).toNat) = 2 ^ i - 1 := by omega
  rw [e1, Nat.and_two_pow_sub_one_eq_mod]
  have e2 : (((x % 18446744073709551616).toNat % 2 ^ i : Nat) : Int) = x % 2 ^ i := by
    rw [Int.natCast_emod, Int.toNat_of_nonneg (Int.emod_nonneg _ (by decide))]
    have := Int.emod_emod_of_dvd x (show (((2 : Nat) ^ i : Nat) : Int) ∣ ((2 ^ 64 : Nat) : Int) from Int.natCast_dvd_natCast.2 hd)
    simpa using this
  have h1 : (0 : Int) < 2 ^ i := Int.pow_pos (by decide)
  have h2 := Int.emod_lt_of_pos x h1
  have e3 : 0 ≤ x % 2 ^ i := Int.emod_nonneg _ (by omega)
  have h3 : (2 : Int) ^ i ≤ 2 ^ 62 := by exact_mod_cast hp
  have h4 : x % 2 ^ i < 2 ^ 62 := Int.lt_of_lt_of_le h2 h3
  rw [e2, IntKind.wrap_i64]
  generalize x % 2 ^ i = y at *
  omega

theorem nat_and_pow (n i : Nat) : n &&& 2 ^ i = n / 2 ^ i % 2 * 2 ^ i := by
  apply Nat.eq_of_testBit_eq
  intro j
  rw [Nat.testBit_and, Nat.testBit_two_pow]
  have h : n.testBit i = decide (n / 2 ^ i % 2 = 1) := Nat.testBit_eq_decide_div_mod_eq
  have hc : n / 2 ^ i % 2 = 0 ∨ n / 2 ^ i % 2 = 1 := by omega
  by_cases hj : i = j
  · subst hj
    rw [h]
    rcases hc with h0 | h0 <;> simp [h0]
  · rcases hc with h0 | h0 <;> simp [h0, hj]

theorem and_bit (x : Int) (i : Nat) (hi : i ≤ 62) : Go.bits .and .i64 x (2 ^ i) = x / 2 ^ i % 2 * 2 ^ i := by
  have hp : (2 : Nat) ^ i ≤ 2 ^ 62 := Nat.pow_le_pow_right (by decide) hi
  have hpos : 0 < (2 : Nat) ^ i := Nat.two_pow_pos i
  rw [bits_and]
  have e1 : (((2 : Int) ^ i % 18446744073709551616).toNat) = 2 ^ i := by
    rw [show ((2 : Int) ^ i) = ((2 ^ i : Nat) : Int) by simp]
    omega
  rw [e1, nat_and_pow]
  have hd : ((2 : Nat) ^ i * 2) ∣ 2 ^ 64 := by
    rw [← Nat.pow_succ]; exact Nat.pow_dvd_pow 2 (by omega)
  have e2 : (((x % 18446744073709551616).toNat / 2 ^ i % 2 : Nat) : Int) = x / 2 ^ i % 2 := by
    rw [Int.natCast_emod, Int.natCast_ediv, Int.toNat_of_nonneg (Int.emod_nonneg _ (by decide))]
    obtain ⟨c, hc⟩ := hd
    have h1 : (0 : Int) < 2 ^ i := Int.pow_pos (by decide)
    have h2 : (((2 : Nat) ^ i : Nat) : Int) = 2 ^ i := by simp
    have hc2 : ((2 ^ 64 : Nat) : Int) = ((2 ^ i * 2 * c : Nat) : Int) := congrArg _ hc
    rw [Int.natCast_mul, Int.natCast_mul, h2, show ((2 ^ 64 : Nat) : Int) = 18446744073709551616 by decide, Int.mul_assoc] at hc2
    have hc' : (18446744073709551616 : Int) = 2 ^ i * (2 * c) := hc2
    have hx : x % 18446744073709551616 = x + 2 ^ i * (2 * (c * -(x / 18446744073709551616))) := by
      have := Int.emod_def x 18446744073709551616
      rw [this]
      generalize x / 18446744073709551616 = q
      rw [hc']; grind
    rw [hx, h2, Int.add_mul_ediv_left _ _ (show (2 : Int) ^ i ≠ 0 by omega)]
    generalize x / 2 ^ i = y
    generalize (c : Int) * -(x / 18446744073709551616) = z
    omega
  have hb : x / 2 ^ i % 2 = 0 ∨ x / 2 ^ i % 2 = 1 := by omega
  have h3 : (2 : Int) ^ i ≤ 2 ^ 62 := by exact_mod_cast hp
  have h1 : (0 : Int) < 2 ^ i := Int.pow_pos (by decide)
  rcases hb with h | h
  · have : (x % 18446744073709551616).toNat / 2 ^ i % 2 = 0 := by omega
    rw [this, h, IntKind.wrap_i64]; simp
  · have : (x % 18446744073709551616).toNat / 2 ^ i % 2 = 1 := by omega
    rw [this, h, IntKind.wrap_i64]
    simp
    generalize (2 : Int) ^ i = y at *
    omega

end ArithFits

namespace ArithFits

theorem awake (k : Nat) : distafflaw01_awake.f (k + 1) = some true := by
  kernel_rfl

theorem shl_eq (x : Int) (i : Nat) (hi : i ≤ 64) : shl .i64 x (i : Int) = wrap64 (x * 2 ^ i) := by
  unfold shl wrap64
  rw [show min (i : Int).toNat IntKind.i64.bits = i by simp [IntKind.bits]; omega, IntKind.wrap_i64]

theorem shr_eq (x : Int) (i : Nat) (hi : i ≤ 64) : shr .i64 x (i : Int) = x / 2 ^ i := by
  unfold shr
  rw [show min (i : Int).toNat IntKind.i64.bits = i by simp [IntKind.bits]; omega]

/-- a number of i + 1 bits out of its lowest ones -/
theorem ext (n : Int) (i : Nat) (hi : i ≤ 62) : wrap64 (n * 2 ^ (63 - i)) / 2 ^ (63 - i) = (if n / 2 ^ i % 2 = 0 then n % 2 ^ i else n % 2 ^ i - 2 ^ i) ∧
    ((n / 2 ^ i = 0 ∨ n / 2 ^ i = -1) ↔ (if n / 2 ^ i % 2 = 0 then n % 2 ^ i else n % 2 ^ i - 2 ^ i) = n) := by
  have hT : (0 : Int) < 2 ^ i := Int.pow_pos (by decide)
  have hK : (0 : Int) < 2 ^ (63 - i) := Int.pow_pos (by decide)
  have hTK : (2 : Int) ^ i * 2 ^ (63 - i) = 9223372036854775808 := by
    rw [← Int.pow_add, show i + (63 - i) = 63 by omega]; rfl
  generalize (2 : Int) ^ i = T at *
  generalize (2 : Int) ^ (63 - i) = K at *
  have d := Int.mul_ediv_add_emod n T
  have r0 := Int.emod_nonneg n (show T ≠ 0 by omega)
  have r1 := Int.emod_lt_of_pos n hT
  generalize n / T = q at *
  generalize n % T = r at *
  have a0 : 0 ≤ r * K := Int.mul_nonneg r0 (by omega)
  have a1 : r * K ≤ 9223372036854775808 - K := by
    have := Int.mul_le_mul_of_nonneg_right (show r ≤ T - 1 by omega) (show 0 ≤ K by omega)
    rw [Int.sub_mul, hTK, Int.one_mul] at this; exact this
  have e : n * K = q * 9223372036854775808 + r * K := by rw [← d, ← hTK]; grind
  constructor
  · rw [e]
    by_cases c : q % 2 = 0
    · rw [if_pos c]
      have : wrap64 (q * 9223372036854775808 + r * K) = r * K := by unfold wrap64; omega
      rw [this, Int.mul_ediv_cancel _ (by omega)]
    · rw [if_neg c]
      have : wrap64 (q * 9223372036854775808 + r * K) = (r - T) * K := by rw [Int.sub_mul, hTK]; unfold wrap64; omega
      rw [this, Int.mul_ediv_cancel _ (by omega)]
  · constructor
    · rintro (h | h)
      · subst h; simp at d ⊢; exact d
      · subst h; simp at d ⊢; omega
    · intro h
      by_cases c : q % 2 = 0
      · rw [if_pos c] at h
        have : T * q = 0 := by omega
        rcases Int.mul_eq_zero.1 this with h | h
        · omega
        · exact Or.inl h
      · rw [if_neg c] at h
        have : T * (q + 1) = 0 := by rw [Int.mul_add]; omega
        rcases Int.mul_eq_zero.1 this with h | h
        · omega
        · exact Or.inr (by omega)

end ArithFits

open ArithFits in
theorem ArithFits : distafflaw01_ArithFits.Pure := by
  intro n w hn hw
  have hn := wf_i64 hn
  have hw := wf_i64 hw
  refine ⟨1, ?_⟩
  unfold distafflaw01_ArithFits.f
  rw [awake 0]
  by_cases h1 : w < 1
  · have e1 : arith_Extend.f n w = some 0 := by unfold arith_Extend.f; rw [if_pos h1]
    have e2 : arith_Fits.f n w = some false := by unfold arith_Fits.f; rw [if_pos h1]
    rw [e1, e2]
    simp only [Option.bind_some]
    rw [if_pos h1]; rfl
  · by_cases h2 : w ≥ 64
    · have e1 : arith_Extend.f n w = some n := by unfold arith_Extend.f; rw [if_neg h1, if_pos h2]
      have e2 : arith_Fits.f n w = some true := by unfold arith_Fits.f; rw [if_neg h1, if_pos h2]
      rw [e1, e2]
      simp only [Option.bind_some]
      rw [if_neg h1, if_pos h2]; simp
    · obtain ⟨i, rfl⟩ : ∃ i : Nat, w = i + 1 := ⟨(w - 1).toNat, by omega⟩
      have hi : i ≤ 62 := by omega
      have c1 : IntKind.u64.wrap (wrap64 ((i : Int) + 1 - 1)) = (i : Int) := by rw [w64 (by omega) (by omega), u64]; omega
      have c2 : IntKind.u64.wrap (wrap64 (64 - ((i : Int) + 1))) = ((63 - i : Nat) : Int) := by rw [w64 (by omega) (by omega), u64]; omega
      have hp : (2 : Int) ^ i ≤ 2 ^ 62 := by exact_mod_cast Nat.pow_le_pow_right (show 0 < 2 by decide) hi
      have hpos : (0 : Int) < 2 ^ i := Int.pow_pos (by decide)
      obtain ⟨x1, x2⟩ := ext n i hi
      have top : shl .i64 1 (i : Int) = 2 ^ i := by rw [shl_eq 1 i (by omega), Int.one_mul, w64 (by omega) (by omega)]
      have e1 : arith_Extend.f n ((i : Int) + 1) = some (if n / 2 ^ i % 2 = 0 then n % 2 ^ i else n % 2 ^ i - 2 ^ i) := by
        unfold arith_Extend.f
        rw [if_neg h1, if_neg h2, c2, if_pos (by omega), shl_eq _ _ (by omega), shr_eq _ _ (by omega), x1]
      have e2 : arith_Fits.f n ((i : Int) + 1) = some (decide (n / 2 ^ i = 0 ∨ n / 2 ^ i = -1)) := by
        unfold arith_Fits.f
        rw [if_neg h1, if_neg h2, c1, if_pos (by omega), shr_eq _ _ (by omega)]
        by_cases h : n / 2 ^ i = 0
        · rw [if_pos h]; simp [h]
        · rw [if_neg h]; refine congrArg some ?_; simp [h]
          by_cases h' : n / 2 ^ i = -1 <;> simp [h']
      rw [e1, e2, c1, top, w64 (n := 2 ^ i - 1) (by omega) (by omega), and_mask n i hi, and_bit n i hi]
      simp only [Option.bind_some, if_true]
      rw [if_neg h1, if_neg h2, if_pos (by omega)]
      have r0 := Int.emod_nonneg n (show (2 : Int) ^ i ≠ 0 by omega)
      have r1 := Int.emod_lt_of_pos n hpos
      by_cases c : n / 2 ^ i % 2 = 0
      · rw [if_pos (by rw [c]; simp), if_pos c, if_pos rfl]
        rw [if_pos c] at x2
        refine congrArg some ?_
        rw [beq_iff_eq, Bool.eq_iff_iff, decide_eq_true_iff, x2, beq_iff_eq]
      · have c' : n / 2 ^ i % 2 = 1 := by omega
        rw [if_neg (by rw [c']; omega), if_neg c, w64 (n := n % 2 ^ i - 2 ^ i) (by omega) (by omega), if_pos rfl]
        rw [if_neg c] at x2
        refine congrArg some ?_
        rw [beq_iff_eq, Bool.eq_iff_iff, decide_eq_true_iff, x2, beq_iff_eq]


end Go.Proofs.Ytoojmpcpbnlkaaa.Pure
