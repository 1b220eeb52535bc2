/- The statement ArithSums over numbers and lists: the printed law answers true at every input that its kinds allow. No further condition. -/
import Derived.Test.YtoojmpcpbnlkaaaMArithSumsx3
namespace Go.Proofs.Ytoojmpcpbnlkaaa.Pure
open Go.RowKit Go.Proofs.Ytoojmpcpbnlkaaa.PArithSums Go.Proofs.YtoojmpcpbnlkaaaW.PrintWords Go.Proofs.YtoojmpcpbnlkaaaW.PrintLast Go.Proofs.YtoojmpcpbnlkaaaW.PrintMore

namespace ArithSums
open Go.Proofs.Ytoojmpcpbnlkaaa.Arr

theorem wf_i64 {n : Int} (h : (Lit.int .i64 n).wf = true) : -9223372036854775808 ≤ n ∧ n < 9223372036854775808 := by
  simp [Lit.wf, IntKind.min, IntKind.max, IntKind.signed, IntKind.bits] at h
  omega

theorem w64 {n : Int} (h1 : -9223372036854775808 ≤ n) (h2 : n < 9223372036854775808) : wrap64 n = n := by
  unfold wrap64; omega

def I (a : Int) : Prop := -9223372036854775808 ≤ a ∧ a < 9223372036854775808

theorem bit_top (a : Int) (h : I a) : distaffref01_bit.f a 63 = some (if a < 0 then 1 else 0) := by
  rw [show (63 : Int) = ((63 : Nat) : Int) from rfl, distaffref01_divide.bit a 63 (by decide)]
  refine congrArg some ?_
  unfold bitOf
  unfold I at h
  rw [show (2 : Int) ^ 63 = 9223372036854775808 from rfl]
  split <;> omega

theorem size_some (a : Int) (h : I a) : distaffref01_size.f a = some (wrap64 a.natAbs) := by
  unfold distaffref01_size.f
  rw [bit_top a h]
  unfold I at h
  simp only [Option.bind_some]
  by_cases c : a < 0
  · rw [if_pos c, if_pos rfl, distaffref01_divide.neg]
    simp only [Option.bind_some]
    rw [show ((a.natAbs : Nat) : Int) = -a by omega]
  · rw [if_neg c, if_neg (by decide)]
    refine congrArg some ?_
    rw [w64 (by omega) (by omega)]; omega

theorem tdiv_sign (a b : Int) : Int.tdiv a b = (if (a < 0) ↔ (b < 0) then ((a.natAbs / b.natAbs : Nat) : Int) else -((a.natAbs / b.natAbs : Nat) : Int)) := by
  have q1 : (Int.tdiv a b).natAbs = a.natAbs / b.natAbs := Int.natAbs_tdiv a b
  generalize a.natAbs / b.natAbs = m at *
  by_cases c1 : a < 0 <;> by_cases c2 : b < 0
  · rw [if_pos (by simp [c1, c2])]
    have := Int.tdiv_nonneg_of_nonpos_of_nonpos (show a ≤ 0 by omega) (show b ≤ 0 by omega)
    omega
  · rw [if_neg (by simp [c1, c2])]
    have := Int.tdiv_nonneg (show 0 ≤ -a by omega) (show 0 ≤ b by omega)
    rw [Int.neg_tdiv] at this
    omega
  · rw [if_neg (by simp [c1, c2])]
    have := Int.tdiv_nonneg (show 0 ≤ a by omega) (show 0 ≤ -b by omega)
    rw [Int.tdiv_neg] at this
    omega
  · rw [if_pos (by simp [c1, c2])]
    have := Int.tdiv_nonneg (show 0 ≤ a by omega) (show 0 ≤ b by omega)
    omega

theorem tmod_sign (a b : Int) : Int.tmod a b = (if a < 0 then -((a.natAbs % b.natAbs : Nat) : Int) else ((a.natAbs % b.natAbs : Nat) : Int)) := by
  have m1 : (Int.tmod a b).natAbs = a.natAbs % b.natAbs := Int.natAbs_tmod a b
  generalize a.natAbs % b.natAbs = m at *
  by_cases c : a < 0
  · rw [if_pos c]
    have := Int.tmod_nonneg b (show 0 ≤ -a by omega)
    rw [Int.neg_tmod] at this
    omega
  · rw [if_neg c]
    have := Int.tmod_nonneg b (show 0 ≤ a by omega)
    omega

theorem divide_some (m n : Nat) (hm : m ≤ 9223372036854775808) (hn : n ≤ 9223372036854775808) (h0 : n ≠ 0) :
    distaffref01_divide.f (wrap64 (m : Int)) (wrap64 (n : Int)) = some (wrap64 ((m / n : Nat) : Int), wrap64 ((m % n : Nat) : Int)) := by
  unfold distaffref01_divide.f
  have ea : wrap64 (m : Int) % 18446744073709551616 = (m : Int) := by unfold wrap64; omega
  have eb : wrap64 (n : Int) % 18446744073709551616 = (n : Int) := by unfold wrap64; omega
  rw [ea, eb, if_neg (by omega), Int.natCast_ediv, Int.natCast_emod]

theorem Div_j0 (a q : Int) (m : Nat) (ha : I a) (hm : m < 9223372036854775808) (k : Nat) :
    distaffref01_Div.j0 (k + 1) a q (wrap64 (m : Int)) = some (q, if a < 0 then -(m : Int) else (m : Int)) := by
  simp only [distaffref01_Div.j0]
  rw [bit_top a ha]
  simp only [Option.bind_some]
  by_cases c : a < 0
  · rw [if_pos c, if_pos rfl, distaffref01_divide.neg, if_pos c]
    simp only [Option.bind_some]
    refine congrArg some (congrArg (Prod.mk q) ?_)
    unfold wrap64; omega
  · rw [if_neg c, if_neg (by decide), if_neg c]
    refine congrArg some (congrArg (Prod.mk q) ?_)
    unfold wrap64; omega

theorem neg_wrap (m : Nat) : distaffref01_Neg.f (wrap64 (m : Int)) = some (wrap64 (-(m : Int))) := by
  rw [distaffref01_divide.neg]
  refine congrArg some ?_
  unfold wrap64; omega

theorem Div_some (a b : Int) (ha : I a) (hb : I b) (h0 : b ≠ 0) (k : Nat) : distaffref01_Div.f (k + 1) a b = some (wrap64 (Int.tdiv a b), Int.tmod a b) := by
  have hb' : b.natAbs ≤ 9223372036854775808 := by unfold I at hb; omega
  have mb : a.natAbs % b.natAbs < 9223372036854775808 := Nat.lt_of_lt_of_le (Nat.mod_lt _ (Int.natAbs_pos.2 h0)) hb'
  unfold distaffref01_Div.f
  rw [size_some a ha, size_some b hb, Option.bind_some, Option.bind_some, divide_some a.natAbs b.natAbs (by unfold I at ha; omega) hb' (by omega), Option.bind_some,
    bit_top a ha, bit_top b hb, Option.bind_some, Option.bind_some, tdiv_sign, tmod_sign]
  generalize a.natAbs % b.natAbs = m at *
  generalize a.natAbs / b.natAbs = q at *
  rw [neg_wrap, Option.bind_some]
  by_cases c1 : a < 0 <;> by_cases c2 : b < 0
  · rw [if_pos (by simp [c1, c2]), Div_j0 a _ m ha mb]; simp [c1, c2]
  · rw [if_neg (by simp [c1, c2]), Div_j0 a _ m ha mb]; simp [c1, c2]
  · rw [if_neg (by simp [c1, c2]), Div_j0 a _ m ha mb]; simp [c1, c2]
  · rw [if_pos (by simp [c1, c2]), Div_j0 a _ m ha mb]; simp [c1, c2]

end ArithSums

namespace ArithSums
open Go.Proofs.Ytoojmpcpbnlkaaa.Arr

theorem awake' (k : Nat) (h : 0 < k) : distafflaw01_awake.f k = some true := by
  obtain ⟨m, rfl⟩ : ∃ m, k = m + 1 := ⟨k - 1, by omega⟩
  kernel_rfl

/-! ### the sum -/
theorem top_bit (a : Int) (h : I a) : bitOf a 63 = if a < 0 then 1 else 0 := by
  unfold bitOf
  unfold I at h
  rw [show (2 : Int) ^ 63 = 9223372036854775808 from rfl]
  split <;> omega

theorem wrap_I (n : Int) : I (wrap64 n) := by unfold I wrap64; omega

theorem and_I (x y : Int) : I (Go.bits .and .i64 x y) := by rw [bits_and_i, wrap_i]; exact wrap_I _

theorem sum_fine (a b : Int) (ha : I a) (hb : I b) :
    arith_Sum.f a b = some (wrap64 (a + b), !((decide (a > 0 ∧ b > 0 ∧ wrap64 (a + b) ≤ 0)) || (decide (a < 0 ∧ b < 0 ∧ wrap64 (a + b) ≥ 0)))) := by
  unfold arith_Sum.f
  refine congrArg some (Prod.ext rfl ?_)
  show decide _ = _
  have hs := wrap_I (a + b)
  have e : (Go.bits .and .i64 (Go.bits .xor .i64 a (wrap64 (a + b))) (Go.bits .xor .i64 b (wrap64 (a + b))) ≥ 0) ↔ bitOf (Go.bits .and .i64 (Go.bits .xor .i64 a (wrap64 (a + b))) (Go.bits .xor .i64 b (wrap64 (a + b)))) 63 = 0 := by
    rw [top_bit _ (and_I _ _)]
    split <;> omega
  rw [bit_and _ _ _ (by decide), bit_xor _ _ _ (by decide), bit_xor _ _ _ (by decide), top_bit a ha, top_bit b hb, top_bit _ hs] at e
  rw [Bool.eq_iff_iff, decide_eq_true_iff, e]
  have hw : wrap64 (a + b) = a + b ∨ wrap64 (a + b) = a + b - 18446744073709551616 ∨ wrap64 (a + b) = a + b + 18446744073709551616 := by
    unfold I at ha hb; unfold wrap64; omega
  unfold I at ha hb hs
  generalize wrap64 (a + b) = s at *
  clear e
  by_cases c1 : a < 0 <;> by_cases c2 : b < 0 <;> by_cases c3 : s < 0 <;> simp [c1, c2, c3] <;> omega

/-! ### the product -/
theorem mask32 (x : Int) : Go.bits .and .u64 x 4294967295 = x % 4294967296 := by
  rw [bits_and_u64, show ((4294967295 : Int) % 18446744073709551616).toNat = 2 ^ 32 - 1 from rfl, Nat.and_two_pow_sub_one_eq_mod, u64]
  omega

theorem mul64 (A B : Int) (hA : 0 ≤ A ∧ A < 18446744073709551616) (hB : 0 ≤ B ∧ B < 18446744073709551616) :
    bits_Mul64.f A B = some (A * B / 18446744073709551616, A * B % 18446744073709551616) := by
  unfold bits_Mul64.f
  rw [mask32 A, mask32 B]
  obtain ⟨a1, h1⟩ : ∃ a1, a1 = A / 4294967296 := ⟨_, rfl⟩
  obtain ⟨a0, h0⟩ : ∃ a0, a0 = A % 4294967296 := ⟨_, rfl⟩
  obtain ⟨b1, g1⟩ : ∃ b1, b1 = B / 4294967296 := ⟨_, rfl⟩
  obtain ⟨b0, g0⟩ : ∃ b0, b0 = B % 4294967296 := ⟨_, rfl⟩
  have eA : A = a1 * 4294967296 + a0 := by omega
  have eB : B = b1 * 4294967296 + b0 := by omega
  have ba1 : 0 ≤ a1 ∧ a1 ≤ 4294967295 := by omega
  have ba0 : 0 ≤ a0 ∧ a0 ≤ 4294967295 := by omega
  have bb1 : 0 ≤ b1 ∧ b1 ≤ 4294967295 := by omega
  have bb0 : 0 ≤ b0 ∧ b0 ≤ 4294967295 := by omega
  have eAB : A * B = a1 * b1 * 18446744073709551616 + (a1 * b0 + a0 * b1) * 4294967296 + a0 * b0 := by rw [eA, eB]; grind
  rw [← h1, ← h0, ← g1, ← g0, eAB]
  have bd : ∀ x y : Int, 0 ≤ x ∧ x ≤ 4294967295 → 0 ≤ y ∧ y ≤ 4294967295 → 0 ≤ x * y ∧ x * y ≤ 18446744065119617025 := by
    intro x y hx hy
    exact ⟨Int.mul_nonneg hx.1 hy.1, by have := Int.mul_le_mul hx.2 hy.2 hy.1 (show (0 : Int) ≤ 4294967295 by decide); omega⟩
  have p11 := bd a1 b1 ba1 bb1
  have p10 := bd a1 b0 ba1 bb0
  have p01 := bd a0 b1 ba0 bb1
  have p00 := bd a0 b0 ba0 bb0
  clear h1 h0 g1 g0 eA eB eAB ba1 ba0 bb1 bb0 bd
  generalize a1 * b1 = x11 at *
  generalize a1 * b0 = x10 at *
  generalize a0 * b1 = x01 at *
  generalize a0 * b0 = x00 at *
  simp only [u64]
  have t1 : x00 % 18446744073709551616 = x00 := by omega
  have t2 : x10 % 18446744073709551616 = x10 := by omega
  have t3 : (x10 + x00 / 4294967296) % 18446744073709551616 = x10 + x00 / 4294967296 := by omega
  have t4 : x11 % 18446744073709551616 = x11 := by omega
  have t5 : x01 % 18446744073709551616 = x01 := by omega
  rw [t1, t2, t3, t4, t5, mask32 _]
  refine congrArg some (Prod.ext ?_ rfl)
  show _ = _
  omega

theorem product_some (a b : Int) (ha : I a) (hb : I b) :
    arith_Product.f a b = some (wrap64 (a * b), decide (-9223372036854775808 ≤ a * b ∧ a * b < 9223372036854775808)) := by
  unfold arith_Product.f
  rw [u64, u64, mul64 _ _ ⟨Int.emod_nonneg _ (by decide), Int.emod_lt_of_pos _ (by decide)⟩ ⟨Int.emod_nonneg _ (by decide), Int.emod_lt_of_pos _ (by decide)⟩, Option.bind_some]
  have hab : (a * b).natAbs ≤ 9223372036854775808 * 9223372036854775808 := by
    rw [Int.natAbs_mul]; unfold I at ha hb; exact Nat.mul_le_mul (by omega) (by omega)
  have bab : -85070591730234615865843651857942052864 ≤ a * b ∧ a * b ≤ 85070591730234615865843651857942052864 := by omega
  clear hab
  obtain ⟨A, hA⟩ : ∃ A, A = a % 18446744073709551616 := ⟨_, rfl⟩
  obtain ⟨B, hB⟩ : ∃ B, B = b % 18446744073709551616 := ⟨_, rfl⟩
  rw [← hA, ← hB]
  have key : ∀ h : Int, (A * B - h * 18446744073709551616) = a * b → 
      (wrap64 (A * B % 18446744073709551616) = wrap64 (a * b)) ∧ ((wrap64 (A * B / 18446744073709551616 - h) == wrap64 (A * B % 18446744073709551616) / 9223372036854775808) = decide (-9223372036854775808 ≤ a * b ∧ a * b < 9223372036854775808)) := by
    intro h hh
    generalize A * B = M at *
    generalize a * b = m at *
    constructor
    · unfold wrap64; omega
    · rw [Bool.eq_iff_iff, beq_iff_eq, decide_eq_true_iff]
      have e1 : M / 18446744073709551616 - h = m / 18446744073709551616 := by
        rw [show M = m + h * 18446744073709551616 by omega, Int.add_mul_ediv_right _ _ (by decide)]; omega
      have e2 : M % 18446744073709551616 = m % 18446744073709551616 := by
        rw [show M = m + h * 18446744073709551616 by omega, Int.add_mul_emod_self_right]
      rw [e1, e2]
      clear e1 e2 hh
      have e3 : wrap64 (m / 18446744073709551616) = m / 18446744073709551616 := by unfold wrap64; omega
      rw [e3]
      unfold wrap64; omega
  unfold I at ha hb
  by_cases c1 : a < 0 <;> by_cases c2 : b < 0
  · rw [if_pos c1, if_pos c2]
    have eA : A = a + 18446744073709551616 := by omega
    have eB : B = b + 18446744073709551616 := by omega
    obtain ⟨k1, k2⟩ := key (a + b + 18446744073709551616) (by rw [eA, eB]; grind)
    rw [k1, ← k2]
    refine congrArg some (Prod.ext rfl ?_)
    show (_ == _) = (_ == _)
    rw [k1]
    refine congrArg (· == wrap64 (a * b) / 9223372036854775808) ?_
    generalize A * B / 18446744073709551616 = H
    unfold wrap64; omega
  · rw [if_pos c1, if_neg c2]
    have eA : A = a + 18446744073709551616 := by omega
    have eB : B = b := by omega
    obtain ⟨k1, k2⟩ := key b (by rw [eA, eB]; grind)
    rw [k1, ← k2]
    refine congrArg some (Prod.ext rfl ?_)
    show (_ == _) = (_ == _)
    rw [k1]
    refine congrArg (· == wrap64 (a * b) / 9223372036854775808) ?_
    generalize A * B / 18446744073709551616 = H
    unfold wrap64; omega
  · rw [if_neg c1, if_pos c2]
    have eA : A = a := by omega
    have eB : B = b + 18446744073709551616 := by omega
    obtain ⟨k1, k2⟩ := key a (by rw [eA, eB]; grind)
    rw [k1, ← k2]
    refine congrArg some (Prod.ext rfl ?_)
    show (_ == _) = (_ == _)
    rw [k1]
    refine congrArg (· == wrap64 (a * b) / 9223372036854775808) ?_
    generalize A * B / 18446744073709551616 = H
    unfold wrap64; omega
  · rw [if_neg c1, if_neg c2]
    have eA : A = a := by omega
    have eB : B = b := by omega
    obtain ⟨k1, k2⟩ := key 0 (by rw [eA, eB]; grind)
    rw [k1, ← k2]
    refine congrArg some (Prod.ext rfl ?_)
    show (_ == _) = (_ == _)
    rw [k1, Int.sub_zero]

/-- whether a product went round is whether it can't be divided again -/
theorem again (a b : Int) (ha : I a) (hb : I b) (h0 : ¬ (a = 0 ∨ b = 0)) :
    decide (-9223372036854775808 ≤ a * b ∧ a * b < 9223372036854775808) = (decide (wrap64 (Int.tdiv (wrap64 (a * b)) b) = a ∧ Int.tmod (wrap64 (a * b)) b = 0) && !((a == -1 && b == -9223372036854775808) || (b == -1 && a == -9223372036854775808))) := by
  have hI := wrap_I (a * b)
  have hp : -9223372036854775808 ≤ a * b ∧ a * b < 9223372036854775808 → wrap64 (a * b) = a * b := by intro h; unfold wrap64; omega
  generalize hP : wrap64 (a * b) = p at *
  unfold I at ha hb hI
  have hd := Int.tmod_add_mul_tdiv p b
  by_cases h : -9223372036854775808 ≤ a * b ∧ a * b < 9223372036854775808
  · have e := hp h
    rw [decide_eq_true h]
    have q : Int.tdiv p b = a := by rw [e, Int.mul_tdiv_cancel _ (by omega)]
    have r : Int.tmod p b = 0 := by rw [e, Int.mul_tmod_left]
    rw [q, r, decide_eq_true ⟨w64 ha.1 ha.2, rfl⟩]
    have n1 : ¬ (a = -1 ∧ b = -9223372036854775808) := by
      rintro ⟨rfl, rfl⟩; revert h; decide
    have n2 : ¬ (b = -1 ∧ a = -9223372036854775808) := by
      rintro ⟨rfl, rfl⟩; revert h; decide
    by_cases c1 : a = -1 <;> by_cases c2 : b = -1 <;> simp [c1, c2] at n1 n2 ⊢ <;> omega
  · rw [decide_eq_false h]
    symm
    rw [Bool.and_eq_false_iff]
    by_cases c : wrap64 (Int.tdiv p b) = a ∧ Int.tmod p b = 0
    · right
      obtain ⟨c1, c2⟩ := c
      rw [c2, Int.zero_add] at hd
      by_cases hq : -9223372036854775808 ≤ Int.tdiv p b ∧ Int.tdiv p b < 9223372036854775808
      · rw [w64 hq.1 hq.2] at c1
        rw [c1, Int.mul_comm] at hd
        omega
      · -- the one quotient that is none
        have hn := Int.natAbs_tdiv_le_natAbs p b
        have t : Int.tdiv p b = 9223372036854775808 := by omega
        have hpm : p = -9223372036854775808 := by omega
        rw [t] at hd c1
        have hb1 : b = -1 := by omega
        have ha1 : a = -9223372036854775808 := by
          rw [← c1]; unfold wrap64; rfl
        rw [hb1, ha1]; rfl
    · left
      exact decide_eq_false c

end ArithSums

namespace ArithSums
open Go.Proofs.Ytoojmpcpbnlkaaa.Arr

/-- all ends of the law are of this form -/
theorem leaf (K : Nat) (hK : 0 < K) (a b : Int) (over fits E : Bool) (hE : fits = E) :
    ((distafflaw01_awake.f K).bind fun t => (if t = true then ((distaffref01_Add.f a b).bind fun t2 => (if wrap64 (a + b) = t2 then (if ((!over) == (!over)) = true then (if True then (some (fits == E)) else (some false)) else (some false)) else (some false))) else (some false))) = some true := by
  rw [awake' K hK, Option.bind_some, if_pos rfl]
  unfold distaffref01_Add.f
  rw [Option.bind_some, if_pos rfl, if_pos (by simp), if_pos True.intro, hE]
  simp

theorem j1_some (K : Nat) (hK : 1 < K) (a b : Int) (ha : I a) (hb : I b) (over : Bool) :
    distafflaw01_ArithSums.j1 (K + 1) a b (wrap64 (a + b)) (!over) over (wrap64 (a * b)) (decide (-9223372036854775808 ≤ a * b ∧ a * b < 9223372036854775808)) (decide (a = 0 ∨ b = 0)) = some true := by
  simp only [distafflaw01_ArithSums.j1]
  by_cases h0 : a = 0 ∨ b = 0
  · rw [if_pos (decide_eq_true h0)]
    refine leaf K (by omega) a b over _ _ ?_
    rw [decide_eq_true h0]
    refine decide_eq_true ?_
    have : a * b = 0 := Int.mul_eq_zero.2 h0
    omega
  · rw [if_neg (by simpa using h0)]
    obtain ⟨M, rfl⟩ : ∃ M, K = M + 1 := ⟨K - 1, by omega⟩
    have hag := again a b ha hb h0
    rw [Div_some (wrap64 (a * b)) b (wrap_I _) hb (fun h => h0 (Or.inr h)), Option.bind_some]
    show (if wrap64 (Int.tdiv (wrap64 (a * b)) b) = a then (if Int.tmod (wrap64 (a * b)) b = 0 then _ else _) else _) = some true
    rw [hag]
    by_cases c1 : wrap64 (Int.tdiv (wrap64 (a * b)) b) = a
    · rw [if_pos c1]
      by_cases c2 : Int.tmod (wrap64 (a * b)) b = 0
      · rw [if_pos c2, decide_eq_true ⟨c1, c2⟩]
        clear hag c1 c2
        by_cases c3 : a = -1
        · rw [if_pos c3]
          by_cases c4 : b = -9223372036854775808
          · rw [if_pos c4]
            refine leaf (M + 1) (by omega) a b over _ _ ?_
            rw [c3, c4]; rfl
          · rw [if_neg c4]
            by_cases c5 : b = -1
            · rw [if_pos c5]
              refine leaf (M + 1) (by omega) a b over _ _ ?_
              rw [c3, c5]; rfl
            · rw [if_neg c5]
              refine leaf (M + 1) (by omega) a b over _ _ ?_
              simp [c3, c4]
        · rw [if_neg c3]
          by_cases c5 : b = -1
          · rw [if_pos c5]
            refine leaf (M + 1) (by omega) a b over _ _ ?_
            simp [c5]
          · rw [if_neg c5]
            refine leaf (M + 1) (by omega) a b over _ _ ?_
            simp [c3, c5]
      · rw [if_neg c2, decide_eq_false (fun h => c2 h.2), Bool.false_and]
        exact leaf (M + 1) (by omega) a b over _ _ rfl
    · rw [if_neg c1, decide_eq_false (fun h => c1 h.1), Bool.false_and]
      exact leaf (M + 1) (by omega) a b over _ _ rfl

theorem j0_some (K : Nat) (hK : 2 < K) (a b : Int) (ha : I a) (hb : I b) (over flag : Bool) (h : flag = over) :
    distafflaw01_ArithSums.j0 (K + 1) a b (wrap64 (a + b)) (!over) flag = some true := by
  subst h
  simp only [distafflaw01_ArithSums.j0]
  rw [product_some a b ha hb, Option.bind_some]
  obtain ⟨M, rfl⟩ : ∃ M, K = M + 1 := ⟨K - 1, by omega⟩
  have j := j1_some M (by omega) a b ha hb flag
  by_cases h0 : a = 0
  · rw [if_pos h0]
    rw [decide_eq_true (Or.inl h0)] at j
    exact j
  · rw [if_neg h0]
    have e : (b == 0) = decide (a = 0 ∨ b = 0) := by
      rw [Bool.eq_iff_iff, beq_iff_eq, decide_eq_true_iff]; simp [h0]
    rw [e]
    exact j

end ArithSums

open ArithSums in
theorem ArithSums : distafflaw01_ArithSums.Pure := by
  intro a b ha hb
  have ha := wf_i64 ha
  have hb := wf_i64 hb
  obtain ⟨K, hK⟩ : ∃ K : Nat, 2 < K := ⟨3, by decide⟩
  refine ⟨K + 1, ?_⟩
  unfold distafflaw01_ArithSums.f
  rw [sum_fine a b ha hb, Option.bind_some]
  have fin := fun flag h => j0_some K hK a b ha hb ((decide (a > 0 ∧ b > 0 ∧ wrap64 (a + b) ≤ 0)) || (decide (a < 0 ∧ b < 0 ∧ wrap64 (a + b) ≥ 0))) flag h
  by_cases c1 : a > 0
  · rw [if_pos c1]
    by_cases c2 : b > 0
    · rw [if_pos c2]
      by_cases c3 : wrap64 (a + b) ≤ 0
      · rw [if_pos c3]
        exact fin _ (by rw [show decide (a > 0 ∧ b > 0 ∧ wrap64 (a + b) ≤ 0) = true from decide_eq_true ⟨c1, c2, c3⟩]; rfl)
      · rw [if_neg c3, if_neg (by omega)]
        exact fin _ (by rw [show decide (a > 0 ∧ b > 0 ∧ wrap64 (a + b) ≤ 0) = false from decide_eq_false (fun h => c3 h.2.2), show decide (a < 0 ∧ b < 0 ∧ wrap64 (a + b) ≥ 0) = false from decide_eq_false (by omega)]; rfl)
    · rw [if_neg c2, if_neg (by omega)]
      exact fin _ (by rw [show decide (a > 0 ∧ b > 0 ∧ wrap64 (a + b) ≤ 0) = false from decide_eq_false (fun h => c2 h.2.1), show decide (a < 0 ∧ b < 0 ∧ wrap64 (a + b) ≥ 0) = false from decide_eq_false (by omega)]; rfl)
  · rw [if_neg c1]
    by_cases c4 : a < 0
    · rw [if_pos c4]
      by_cases c5 : b < 0
      · rw [if_pos c5]
        refine fin _ ?_
        have eA : decide (a > 0 ∧ b > 0 ∧ wrap64 (a + b) ≤ 0) = false := decide_eq_false (fun h => c1 h.1)
        rw [eA, Bool.false_or]
        show decide (wrap64 (a + b) ≥ 0) = _
        rw [Bool.eq_iff_iff, decide_eq_true_iff, decide_eq_true_iff]
        exact ⟨fun h => ⟨c4, c5, h⟩, fun h => h.2.2⟩
      · rw [if_neg c5]
        exact fin _ (by rw [show decide (a > 0 ∧ b > 0 ∧ wrap64 (a + b) ≤ 0) = false from decide_eq_false (fun h => c1 h.1), show decide (a < 0 ∧ b < 0 ∧ wrap64 (a + b) ≥ 0) = false from decide_eq_false (fun h => c5 h.2.1)]; rfl)
    · rw [if_neg c4]
      exact fin _ (by rw [show decide (a > 0 ∧ b > 0 ∧ wrap64 (a + b) ≤ 0) = false from decide_eq_false (fun h => c1 h.1), show decide (a < 0 ∧ b < 0 ∧ wrap64 (a + b) ≥ 0) = false from decide_eq_false (fun h => c4 h.1)]; rfl)


end Go.Proofs.Ytoojmpcpbnlkaaa.Pure
