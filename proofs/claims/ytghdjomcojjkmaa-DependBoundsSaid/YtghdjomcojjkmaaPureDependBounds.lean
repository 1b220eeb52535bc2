/- The statement DependBounds over numbers and lists: the printed law answers true at every input that its kinds allow. No further condition. -/
import Derived.Test.YtghdjomcojjkmaaPDependBoundsx3
namespace Go.Proofs.Ytghdjomcojjkmaa.Pure
open Go.RowKit Go.Proofs.Ytghdjomcojjkmaa.PDependBounds Go.Proofs.YtghdjomcojjkmaaW.PrintWords Go.Proofs.YtghdjomcojjkmaaW.PrintLast Go.Proofs.YtghdjomcojjkmaaW.PrintMore

namespace DependBounds
theorem floor_le {a b q : Int} (hb : 0 < b) (h0 : 0 ≤ a - q * b) (h1 : a - q * b < b) (t : Int) : t ≤ q ↔ t * b ≤ a := by
  constructor
  · intro h
    have := Int.mul_le_mul_of_nonneg_right h (Int.le_of_lt hb)
    omega
  · intro h
    apply Classical.byContradiction
    intro hn
    have := Int.mul_le_mul_of_nonneg_right (show q + 1 ≤ t by omega) (Int.le_of_lt hb)
    rw [Int.add_mul, Int.one_mul] at this
    omega

theorem floor_ge {a b q : Int} (hb : b < 0) (h0 : a - q * b ≤ 0) (h1 : b < a - q * b) (t : Int) : t ≤ q ↔ a ≤ t * b := by
  have := floor_le (a := -a) (b := -b) (q := q) (by omega) (by rw [Int.mul_neg]; omega) (by rw [Int.mul_neg]; omega) t
  rw [this, Int.mul_neg]; omega

theorem step_bd {x0 x1 x5 x7 q B : Int} (h : x7.natAbs * x0.natAbs + x5.natAbs * x1.natAbs ≤ B.natAbs)
    (hq : x0.natAbs = q.natAbs * x1.natAbs + (x0 - q * x1).natAbs) :
    (x5 - q * x7).natAbs * x1.natAbs + x7.natAbs * (x0 - q * x1).natAbs ≤ B.natAbs := by
  have t : (x5 - q * x7).natAbs ≤ x5.natAbs + q.natAbs * x7.natAbs := by
    have := Int.natAbs_sub_le x5 (q * x7)
    rwa [Int.natAbs_mul] at this
  have t2 := Nat.mul_le_mul_right x1.natAbs t
  rw [hq] at h
  grind

theorem tmod_as (a b : Int) : a - Int.tdiv a b * b = Int.tmod a b := by
  have := Int.tmod_add_mul_tdiv a b
  rw [Int.mul_comm] at this; omega

theorem tdiv_abs (a b : Int) : a.natAbs = (Int.tdiv a b).natAbs * b.natAbs + (a - Int.tdiv a b * b).natAbs := by
  rw [tmod_as, Int.natAbs_tdiv, Int.natAbs_tmod]
  have h := Nat.div_add_mod a.natAbs b.natAbs
  rw [Nat.mul_comm] at h
  exact h.symm

theorem coef_bd {x y : Int} {B : Nat} (h : x.natAbs * y.natAbs ≤ B) (hy : y ≠ 0) : x.natAbs ≤ B := by
  have := Nat.le_mul_of_pos_right x.natAbs (show 0 < y.natAbs by omega)
  omega

theorem mul_lt_bd {x y : Int} {A B : Nat} (hx : x.natAbs ≤ A) (hy : y.natAbs ≤ B) : (x * y).natAbs ≤ A * B := by
  rw [Int.natAbs_mul]; exact Nat.mul_le_mul hx hy

theorem tmod_zero_iff {a b : Int} : Int.tmod a b = 0 ↔ b ∣ a := by
  constructor
  · intro h; exact Int.dvd_of_tmod_eq_zero h
  · intro h; exact Int.tmod_eq_zero_of_dvd h

/-- all solutions of a i + b k = to, from one -/
theorem sols {a b g x y c i k : Int} (hg : g ≠ 0) (ga : g ∣ a) (gb : g ∣ b) (h1 : a * x + b * y = c) (hgcd : ∃ u v, a * u + b * v = g) :
    a * i + b * k = c ↔ ∃ t, i = x + (b / g) * t ∧ k = y - (a / g) * t := by
  obtain ⟨a', rfl⟩ := ga
  obtain ⟨b', rfl⟩ := gb
  obtain ⟨u, v, huv⟩ := hgcd
  have e1 : g * a' / g = a' := Int.mul_ediv_cancel_left _ hg
  have e2 : g * b' / g = b' := Int.mul_ediv_cancel_left _ hg
  rw [e1, e2]
  have huv' : a' * u + b' * v = 1 := by
    apply Int.eq_of_mul_eq_mul_left hg
    grind
  constructor
  · intro h
    have e : a' * (i - x) + b' * (k - y) = 0 := by
      apply Int.eq_of_mul_eq_mul_left hg
      grind
    refine ⟨v * (i - x) - u * (k - y), ?_, ?_⟩
    · grind
    · grind
  · rintro ⟨t, rfl, rfl⟩
    grind

theorem wf_i64 {n : Int} (h : (Lit.int .i64 n).wf = true) : -9223372036854775808 ≤ n ∧ n < 9223372036854775808 := by
  simp [Lit.wf, IntKind.min, IntKind.max, IntKind.signed, IntKind.bits] at h
  omega

theorem w64 {n : Int} (h1 : -9223372036854775808 ≤ n) (h2 : n < 9223372036854775808) : wrap64 n = n := by
  unfold wrap64; omega

theorem w64n {n : Int} (h : n.natAbs ≤ 9000000000000) : wrap64 n = n := by
  unfold wrap64; omega

theorem abs_bd {n : Int} {B : Nat} (h : n.natAbs ≤ B) : -(B : Int) ≤ n ∧ n ≤ B := by omega

theorem more {n k : Nat} (h : n < k) : ∃ m, k = m + 1 := ⟨k - 1, by omega⟩

theorem w64_add (x y : Int) : wrap64 (x + wrap64 y) = wrap64 (x + y) := by
  unfold wrap64; omega

theorem awake (k : Nat) : distafflaw28_awake.f (k + 10) = some true := by
  kernel_rfl

theorem may_some (s t n : Int) : depend_May.f s t n = some (decide (-1048576 ≤ s ∧ s ≤ 1048576 ∧ -1048576 ≤ t ∧ t ≤ 1048576 ∧ 0 ≤ n ∧ n ≤ 1048576)) := by
  unfold depend_May.f depend_small.f
  by_cases h1 : s ≥ -1048576 <;> by_cases h2 : s ≤ 1048576 <;> by_cases h3 : t ≥ -1048576 <;> by_cases h4 : t ≤ 1048576 <;> by_cases h5 : n ≥ 0 <;>
    simp [h1, h2, h3, h4, h5]
  all_goals omega

end DependBounds

namespace DependBounds

theorem bounds_some (a0 a1 n : Int) : depend_Bounds.f a0 a1 n = some (if (-1048576 ≤ a0 ∧ a0 ≤ 1048576 ∧ -1048576 ≤ a1 ∧ a1 ≤ 1048576 ∧ 0 ≤ n ∧ n ≤ 1048576) ∧ n ≠ 0 then
    (min a1 (a1 + a0 * (n - 1)), max a1 (a1 + a0 * (n - 1)), true) else (0, 0, false)) := by
  unfold depend_Bounds.f
  rw [may_some]
  simp only [Option.bind_some]
  by_cases c : -1048576 ≤ a0 ∧ a0 ≤ 1048576 ∧ -1048576 ≤ a1 ∧ a1 ≤ 1048576 ∧ 0 ≤ n ∧ n ≤ 1048576
  · rw [if_pos (by simpa using c)]
    by_cases h : n = 0
    · rw [if_pos h, if_neg (by simp [h])]
    · rw [if_neg h, if_pos ⟨c, h⟩]
      have m := abs_bd (mul_lt_bd (x := a0) (y := n - 1) (A := 1048576) (B := 1048576) (by omega) (by omega))
      rw [w64 (n := n - 1) (by omega) (by omega), w64_add, w64 (n := a1 + a0 * (n - 1)) (by omega) (by omega)]
      congr 2
      · unfold mn; split <;> omega
      · congr 1; unfold mx; split <;> omega
  · rw [if_neg (by simpa using c), if_neg (fun h => c h.1)]

theorem bounds_yes (a0 a1 n : Int) (h : -1048576 ≤ a0 ∧ a0 ≤ 1048576 ∧ -1048576 ≤ a1 ∧ a1 ≤ 1048576 ∧ 0 ≤ n ∧ n ≤ 1048576) (h0 : n ≠ 0) :
    depend_Bounds.f a0 a1 n = some (min a1 (a1 + a0 * (n - 1)), max a1 (a1 + a0 * (n - 1)), true) := by
  rw [bounds_some, if_pos ⟨h, h0⟩]

theorem bounds_no (a0 a1 n : Int) (h : ¬ ((-1048576 ≤ a0 ∧ a0 ≤ 1048576 ∧ -1048576 ≤ a1 ∧ a1 ≤ 1048576 ∧ 0 ≤ n ∧ n ≤ 1048576) ∧ n ≠ 0)) :
    depend_Bounds.f a0 a1 n = some (0, 0, false) := by
  rw [bounds_some, if_neg h]

end DependBounds

namespace DependBounds

theorem bits_and (x y : Int) : Go.bits .and .i64 x y = IntKind.i64.wrap (((x % 18446744073709551616).toNat &&& (y % 18446744073709551616).toNat : Nat) : Int) := by
  show IntKind.i64.wrap ((BitVec.ofInt 64 x &&& BitVec.ofInt 64 y).toNat : Int) = _
  rw [BitVec.toNat_and, BitVec.toNat_ofInt, BitVec.toNat_ofInt]
  rfl

theorem and_mask (x : Int) (i : Nat) (hi : i ≤ 62) : Go.bits .and .i64 x (2 ^ i - 1) = x % 2 ^ i := by
  have hp : (2 : Nat) ^ i ≤ 2 ^ 62 := Nat.pow_le_pow_right (by decide) hi
  have hpos : 0 < (2 : Nat) ^ i := Nat.two_pow_pos i
  have hc : ((2 : Int) ^ i - 1) = ((2 ^ i - 1 : Nat) : Int) := by
    rw [Int.natCast_sub hpos]; simp
  have hd : ((2 : Nat) ^ i) ∣ 2 ^ 64 := Nat.pow_dvd_pow 2 (by omega)
  rw [hc, bits_and]
  have e1 : ((((2 ^ i - 1 : Nat) : Int) % 18446744073709551616).toNat) = 2 ^ i - 1 := by omega
  rw [e1, Nat.and_two_pow_sub_one_eq_mod]
  have e2 : (((x % 18446744073709551616).toNat % 2 ^ i : Nat) : Int) = x % 2 ^ i := by
    rw [Int.natCast_emod, Int.toNat_of_nonneg (Int.emod_nonneg _ (by decide))]
    have := Int.emod_emod_of_dvd x (show (((2 : Nat) ^ i : Nat) : Int) ∣ ((2 ^ 64 : Nat) : Int) from Int.natCast_dvd_natCast.2 hd)
    simpa using this
  have h1 : (0 : Int) < 2 ^ i := Int.pow_pos (by decide)
  have h2 := Int.emod_lt_of_pos x h1
  have e3 : 0 ≤ x % 2 ^ i := Int.emod_nonneg _ (by omega)
  have h3 : (2 : Int) ^ i ≤ 2 ^ 62 := by exact_mod_cast hp
  have h4 : x % 2 ^ i < 2 ^ 62 := Int.lt_of_lt_of_le h2 h3
  rw [e2, IntKind.wrap_i64]
  generalize x % 2 ^ i = y at *
  omega

theorem line_some (s t : Int) : ∃ s' t', distafflaw28_line.f s t = some (s', t') ∧ -32 ≤ s' ∧ s' ≤ 31 ∧ -256 ≤ t' ∧ t' ≤ 255 := by
  unfold distafflaw28_line.f wrap64
  exact ⟨_, _, rfl, by omega, by omega, by omega, by omega⟩

end DependBounds

namespace DependBounds

theorem loop (s t n lo hi : Int) (hs : -32 ≤ s ∧ s ≤ 31) (ht : -256 ≤ t ∧ t ≤ 255) (hn : 1 ≤ n ∧ n ≤ 63)
    (hlo : lo = min t (t + s * (n - 1))) (hhi : hi = max t (t + s * (n - 1))) (d : Nat) :
    ∀ (a b i : Int), n - i = d → 1 ≤ i → a = min t (t + s * (i - 1)) → b = max t (t + s * (i - 1)) →
    distafflaw28_DependBounds.l0 (20 + d + 1) n lo hi true a b i s t = some true := by
  induction d with
  | zero =>
    intro a b i hd hi' ha hb
    have e : i = n := by omega
    subst e
    generalize hM : 20 + 0 = M
    simp only [distafflaw28_DependBounds.l0]
    subst hM
    rw [if_neg (by omega), show distafflaw28_awake.f 20 = some true from awake 10]
    have hb0 : depend_Bounds.f 1099511627776 0 i = some (0, 0, false) := by
      rw [bounds_no]; omega
    rw [hb0]
    simp only [Option.bind_some, if_true]
    rw [if_pos (by rw [hlo, ha]), if_pos (by rw [hhi, hb])]
    rfl
  | succ d ih =>
    intro a b i hd hi' ha hb
    rw [show 20 + (d + 1) + 1 = (20 + d + 1) + 1 from rfl]
    generalize hM : 20 + d + 1 = M
    simp only [distafflaw28_DependBounds.l0]
    subst hM
    have hp := abs_bd (mul_lt_bd (x := s) (y := i) (A := 32) (B := 63) (by omega) (by omega))
    have hq := abs_bd (mul_lt_bd (x := s) (y := i - 1) (A := 32) (B := 63) (by omega) (by omega))
    rw [if_pos (by omega), w64_add, Int.mul_comm i s, w64 (n := t + s * i) (by omega) (by omega), w64 (n := i + 1) (by omega) (by omega)]
    have e1 : s * (i - 1) = s * i - s := by rw [Int.mul_sub, Int.mul_one]
    rw [e1] at ha hb
    have mono : (0 ≤ s * i ∧ 0 ≤ s * i - s ∧ 0 ≤ s) ∨ (s * i ≤ 0 ∧ s * i - s ≤ 0 ∧ s ≤ 0) := by
      rcases Int.le_total 0 s with h | h
      · have := Int.mul_nonneg h (show 0 ≤ i by omega)
        have := Int.mul_nonneg h (show 0 ≤ i - 1 by omega)
        rw [e1] at this
        omega
      · have := Int.mul_nonneg (show 0 ≤ -s by omega) (show 0 ≤ i by omega)
        rw [Int.neg_mul] at this
        have := Int.mul_nonneg (show 0 ≤ -s by omega) (show 0 ≤ i - 1 by omega)
        rw [Int.neg_mul, e1] at this
        omega
    refine ih _ _ (i + 1) (by omega) (by omega) ?_ ?_
    · rw [show i + 1 - 1 = i by omega]; unfold mn; split <;> omega
    · rw [show i + 1 - 1 = i by omega]; unfold mx; split <;> omega

end DependBounds

open DependBounds in
theorem DependBounds (a0 a1 n : Int) (_ : (Lit.int .i64 a0).wf = true) (_ : (Lit.int .i64 a1).wf = true) (_ : (Lit.int .i64 n).wf = true) : ∃ k, distafflaw28_DependBounds.f k a0 a1 n = some true := by
  obtain ⟨s, t, h1, r1, r2, r3, r4⟩ := line_some a0 a1
  have hm : Go.bits .and .i64 n 63 = n % 64 := and_mask n 6 (by decide)
  unfold distafflaw28_DependBounds.f
  rw [h1, hm]
  simp only [Option.bind_some]
  by_cases h0 : n % 64 = 0
  · refine ⟨10, ?_⟩
    rw [bounds_no s t (n % 64) (fun h => h.2 h0)]
    simp only [Option.bind_some]
    rw [if_pos h0, show distafflaw28_awake.f 10 = some true from awake 0]
    rfl
  · refine ⟨22 + (n % 64 - 1).toNat, ?_⟩
    rw [bounds_yes s t (n % 64) (by omega) h0]
    simp only [Option.bind_some]
    rw [if_neg h0]
    have e : 22 + (n % 64 - 1).toNat = (20 + (n % 64 - 1).toNat + 1) + 1 := by omega
    rw [e]
    generalize hM : 20 + (n % 64 - 1).toNat + 1 = M
    simp only [distafflaw28_DependBounds.l0]
    subst hM
    rw [if_pos (by omega), Int.zero_mul, w64 (n := 0) (by decide) (by decide), Int.add_zero, w64 (n := t) (by omega) (by omega), w64 (n := 0 + 1) (by decide) (by decide)]
    refine loop s t (n % 64) _ _ ⟨r1, r2⟩ ⟨r3, r4⟩ (by omega) rfl rfl (n % 64 - 1).toNat _ _ (0 + 1) (by omega) (by omega) ?_ ?_
    · unfold mn; split <;> simp
    · unfold mx; split <;> simp


end Go.Proofs.Ytghdjomcojjkmaa.Pure
