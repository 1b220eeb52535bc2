/- The statement DependDistances over numbers and lists: the printed law answers true at every input that its kinds allow. No further condition. -/
import Derived.Test.YtghdjomcojjkmaaPDependDistancesx2
namespace Go.Proofs.Ytghdjomcojjkmaa.Pure
open Go.RowKit Go.Proofs.Ytghdjomcojjkmaa.PDependDistances Go.Proofs.YtghdjomcojjkmaaW.PrintWords Go.Proofs.YtghdjomcojjkmaaW.PrintLast Go.Proofs.YtghdjomcojjkmaaW.PrintMore

namespace DependDistances
theorem floor_le {a b q : Int} (hb : 0 < b) (h0 : 0 ≤ a - q * b) (h1 : a - q * b < b) (t : Int) : t ≤ q ↔ t * b ≤ a := by
  constructor
  · intro h
    have := Int.mul_le_mul_of_nonneg_right h (Int.le_of_lt hb)
    omega
  · intro h
    apply Classical.byContradiction
    intro hn
    have := Int.mul_le_mul_of_nonneg_right (show q + 1 ≤ t by omega) (Int.le_of_lt hb)
    rw [Int.add_mul, Int.one_mul] at this
    omega

theorem floor_ge {a b q : Int} (hb : b < 0) (h0 : a - q * b ≤ 0) (h1 : b < a - q * b) (t : Int) : t ≤ q ↔ a ≤ t * b := by
  have := floor_le (a := -a) (b := -b) (q := q) (by omega) (by rw [Int.mul_neg]; omega) (by rw [Int.mul_neg]; omega) t
  rw [this, Int.mul_neg]; omega

theorem step_bd {x0 x1 x5 x7 q B : Int} (h : x7.natAbs * x0.natAbs + x5.natAbs * x1.natAbs ≤ B.natAbs)
    (hq : x0.natAbs = q.natAbs * x1.natAbs + (x0 - q * x1).natAbs) :
    (x5 - q * x7).natAbs * x1.natAbs + x7.natAbs * (x0 - q * x1).natAbs ≤ B.natAbs := by
  have t : (x5 - q * x7).natAbs ≤ x5.natAbs + q.natAbs * x7.natAbs := by
    have := Int.natAbs_sub_le x5 (q * x7)
    rwa [Int.natAbs_mul] at this
  have t2 := Nat.mul_le_mul_right x1.natAbs t
  rw [hq] at h
  grind

theorem tmod_as (a b : Int) : a - Int.tdiv a b * b = Int.tmod a b := by
  have := Int.tmod_add_mul_tdiv a b
  rw [Int.mul_comm] at this; omega

theorem tdiv_abs (a b : Int) : a.natAbs = (Int.tdiv a b).natAbs * b.natAbs + (a - Int.tdiv a b * b).natAbs := by
  rw [tmod_as, Int.natAbs_tdiv, Int.natAbs_tmod]
  have h := Nat.div_add_mod a.natAbs b.natAbs
  rw [Nat.mul_comm] at h
  exact h.symm

theorem coef_bd {x y : Int} {B : Nat} (h : x.natAbs * y.natAbs ≤ B) (hy : y ≠ 0) : x.natAbs ≤ B := by
  have := Nat.le_mul_of_pos_right x.natAbs (show 0 < y.natAbs by omega)
  omega

theorem mul_lt_bd {x y : Int} {A B : Nat} (hx : x.natAbs ≤ A) (hy : y.natAbs ≤ B) : (x * y).natAbs ≤ A * B := by
  rw [Int.natAbs_mul]; exact Nat.mul_le_mul hx hy

theorem tmod_zero_iff {a b : Int} : Int.tmod a b = 0 ↔ b ∣ a := by
  constructor
  · intro h; exact Int.dvd_of_tmod_eq_zero h
  · intro h; exact Int.tmod_eq_zero_of_dvd h

/-- all solutions of a i + b k = to, from one -/
theorem sols {a b g x y c i k : Int} (hg : g ≠ 0) (ga : g ∣ a) (gb : g ∣ b) (h1 : a * x + b * y = c) (hgcd : ∃ u v, a * u + b * v = g) :
    a * i + b * k = c ↔ ∃ t, i = x + (b / g) * t ∧ k = y - (a / g) * t := by
  obtain ⟨a', rfl⟩ := ga
  obtain ⟨b', rfl⟩ := gb
  obtain ⟨u, v, huv⟩ := hgcd
  have e1 : g * a' / g = a' := Int.mul_ediv_cancel_left _ hg
  have e2 : g * b' / g = b' := Int.mul_ediv_cancel_left _ hg
  rw [e1, e2]
  have huv' : a' * u + b' * v = 1 := by
    apply Int.eq_of_mul_eq_mul_left hg
    grind
  constructor
  · intro h
    have e : a' * (i - x) + b' * (k - y) = 0 := by
      apply Int.eq_of_mul_eq_mul_left hg
      grind
    refine ⟨v * (i - x) - u * (k - y), ?_, ?_⟩
    · grind
    · grind
  · rintro ⟨t, rfl, rfl⟩
    grind

theorem wf_i64 {n : Int} (h : (Lit.int .i64 n).wf = true) : -9223372036854775808 ≤ n ∧ n < 9223372036854775808 := by
  simp [Lit.wf, IntKind.min, IntKind.max, IntKind.signed, IntKind.bits] at h
  omega

theorem w64 {n : Int} (h1 : -9223372036854775808 ≤ n) (h2 : n < 9223372036854775808) : wrap64 n = n := by
  unfold wrap64; omega

theorem w64n {n : Int} (h : n.natAbs ≤ 9000000000000) : wrap64 n = n := by
  unfold wrap64; omega

theorem abs_bd {n : Int} {B : Nat} (h : n.natAbs ≤ B) : -(B : Int) ≤ n ∧ n ≤ B := by omega

theorem more {n k : Nat} (h : n < k) : ∃ m, k = m + 1 := ⟨k - 1, by omega⟩

theorem w64_add (x y : Int) : wrap64 (x + wrap64 y) = wrap64 (x + y) := by
  unfold wrap64; omega

theorem awake (k : Nat) : distafflaw28_awake.f (k + 10) = some true := by
  kernel_rfl

theorem may_some (s t n : Int) : depend_May.f s t n = some (decide (-1048576 ≤ s ∧ s ≤ 1048576 ∧ -1048576 ≤ t ∧ t ≤ 1048576 ∧ 0 ≤ n ∧ n ≤ 1048576)) := by
  unfold depend_May.f depend_small.f
  by_cases h1 : s ≥ -1048576 <;> by_cases h2 : s ≤ 1048576 <;> by_cases h3 : t ≥ -1048576 <;> by_cases h4 : t ≤ 1048576 <;> by_cases h5 : n ≥ 0 <;>
    simp [h1, h2, h3, h4, h5]
  all_goals omega

end DependDistances

namespace DependDistances

theorem small_some (n : Int) (h : -1048576 ≤ n ∧ n ≤ 1048576) : depend_small.f n = some true := by
  unfold depend_small.f
  rw [if_pos (by omega)]; simp; omega

theorem dist_some (s t u : Int) (hs : s ≠ 0) (h1 : -1048576 ≤ s ∧ s ≤ 1048576) (h2 : -1048576 ≤ t ∧ t ≤ 1048576) (h3 : -1048576 ≤ u ∧ u ≤ 1048576) :
    depend_Distance.f s t s u = some (Int.tdiv (t - u) s, Int.tmod (t - u) s == 0) := by
  have hq : (Int.tdiv (t - u) s).natAbs ≤ 2097152 := Nat.le_trans (Int.natAbs_tdiv_le_natAbs _ _) (by omega)
  unfold depend_Distance.f
  rw [if_pos rfl, if_neg hs, small_some s h1, small_some t h2, small_some u h3]
  simp only [Option.bind_some, if_true]
  rw [w64 (n := t - u) (by omega) (by omega), w64n (n := Int.tdiv (t - u) s) (Nat.le_trans hq (by decide))]

theorem dist_zero (t u : Int) : depend_Distance.f 0 t 0 u = some (0, false) := by
  unfold depend_Distance.f
  rw [if_pos rfl, if_pos rfl]

theorem dist_other (s s' t u : Int) (h : s ≠ s') : depend_Distance.f s t s' u = some (0, false) := by
  unfold depend_Distance.f
  rw [if_neg h]

end DependDistances

open DependDistances in
theorem DependDistances : distafflaw28_DependDistances.Pure := by
  intro a0 a1 a2 _ _ _
  refine ⟨10, ?_⟩
  unfold distafflaw28_DependDistances.f distafflaw28_line.f
  have b0 : -32 ≤ wrap64 (a0 * 288230376151711744) / 288230376151711744 ∧ wrap64 (a0 * 288230376151711744) / 288230376151711744 ≤ 31 := by unfold wrap64; omega
  have b1 : -256 ≤ wrap64 (a1 * 36028797018963968) / 36028797018963968 ∧ wrap64 (a1 * 36028797018963968) / 36028797018963968 ≤ 255 := by unfold wrap64; omega
  have b2 : -256 ≤ wrap64 (a2 * 36028797018963968) / 36028797018963968 ∧ wrap64 (a2 * 36028797018963968) / 36028797018963968 ≤ 255 := by unfold wrap64; omega
  simp only [Option.bind_some]
  generalize wrap64 (a0 * 288230376151711744) / 288230376151711744 = s at *
  generalize wrap64 (a1 * 36028797018963968) / 36028797018963968 = t at *
  generalize wrap64 (a2 * 36028797018963968) / 36028797018963968 = u at *
  rw [show distafflaw28_awake.f 10 = some true from awake 0]
  simp only [Option.bind_some, if_true]
  by_cases hs : s = 0
  · subst hs
    rw [dist_zero]
    rfl
  · rw [dist_some s t u hs (by omega) (by omega) (by omega), w64 (n := s + 1) (by omega) (by omega), dist_other s (s + 1) t 0 (by omega)]
    simp only [Option.bind_some]
    rw [if_neg hs]
    have h := tmod_as (t - u) s
    have hw := w64 (n := t - u) (by omega) (by omega)
    rw [hw]
    by_cases hz : Int.tmod (t - u) s = 0
    · rw [hz] at h ⊢
      have e : s * Int.tdiv (t - u) s = t - u := by rw [Int.mul_comm]; omega
      rw [if_pos (by rfl), e, hw, if_pos rfl]
      rfl
    · rw [if_neg (by simpa using hz)]
      simpa using hz


end Go.Proofs.Ytghdjomcojjkmaa.Pure
