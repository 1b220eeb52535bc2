/- The statement DependMay over numbers and lists: the printed law answers true at every input that its kinds allow. No further condition. -/
import Derived.Test.YtghdjomcojjkmaaPDependMayx2
namespace Go.Proofs.Ytghdjomcojjkmaa.Pure
open Go.RowKit Go.Proofs.Ytghdjomcojjkmaa.PDependMay Go.Proofs.YtghdjomcojjkmaaW.PrintWords Go.Proofs.YtghdjomcojjkmaaW.PrintLast Go.Proofs.YtghdjomcojjkmaaW.PrintMore

namespace DependMay
theorem floor_le {a b q : Int} (hb : 0 < b) (h0 : 0 ≤ a - q * b) (h1 : a - q * b < b) (t : Int) : t ≤ q ↔ t * b ≤ a := by
  constructor
  · intro h
    have := Int.mul_le_mul_of_nonneg_right h (Int.le_of_lt hb)
    omega
  · intro h
    apply Classical.byContradiction
    intro hn
    have := Int.mul_le_mul_of_nonneg_right (show q + 1 ≤ t by omega) (Int.le_of_lt hb)
    rw [Int.add_mul, Int.one_mul] at this
    omega

theorem floor_ge {a b q : Int} (hb : b < 0) (h0 : a - q * b ≤ 0) (h1 : b < a - q * b) (t : Int) : t ≤ q ↔ a ≤ t * b := by
  have := floor_le (a := -a) (b := -b) (q := q) (by omega) (by rw [Int.mul_neg]; omega) (by rw [Int.mul_neg]; omega) t
  rw [this, Int.mul_neg]; omega

theorem step_bd {x0 x1 x5 x7 q B : Int} (h : x7.natAbs * x0.natAbs + x5.natAbs * x1.natAbs ≤ B.natAbs)
    (hq : x0.natAbs = q.natAbs * x1.natAbs + (x0 - q * x1).natAbs) :
    (x5 - q * x7).natAbs * x1.natAbs + x7.natAbs * (x0 - q * x1).natAbs ≤ B.natAbs := by
  have t : (x5 - q * x7).natAbs ≤ x5.natAbs + q.natAbs * x7.natAbs := by
    have := Int.natAbs_sub_le x5 (q * x7)
    rwa [Int.natAbs_mul] at this
  have t2 := Nat.mul_le_mul_right x1.natAbs t
  rw [hq] at h
  grind

theorem tmod_as (a b : Int) : a - Int.tdiv a b * b = Int.tmod a b := by
  have := Int.tmod_add_mul_tdiv a b
  rw [Int.mul_comm] at this; omega

theorem tdiv_abs (a b : Int) : a.natAbs = (Int.tdiv a b).natAbs * b.natAbs + (a - Int.tdiv a b * b).natAbs := by
  rw [tmod_as, Int.natAbs_tdiv, Int.natAbs_tmod]
  have h := Nat.div_add_mod a.natAbs b.natAbs
  rw [Nat.mul_comm] at h
  exact h.symm

theorem coef_bd {x y : Int} {B : Nat} (h : x.natAbs * y.natAbs ≤ B) (hy : y ≠ 0) : x.natAbs ≤ B := by
  have := Nat.le_mul_of_pos_right x.natAbs (show 0 < y.natAbs by omega)
  omega

theorem mul_lt_bd {x y : Int} {A B : Nat} (hx : x.natAbs ≤ A) (hy : y.natAbs ≤ B) : (x * y).natAbs ≤ A * B := by
  rw [Int.natAbs_mul]; exact Nat.mul_le_mul hx hy

theorem tmod_zero_iff {a b : Int} : Int.tmod a b = 0 ↔ b ∣ a := by
  constructor
  · intro h; exact Int.dvd_of_tmod_eq_zero h
  · intro h; exact Int.tmod_eq_zero_of_dvd h

/-- all solutions of a i + b k = to, from one -/
theorem sols {a b g x y c i k : Int} (hg : g ≠ 0) (ga : g ∣ a) (gb : g ∣ b) (h1 : a * x + b * y = c) (hgcd : ∃ u v, a * u + b * v = g) :
    a * i + b * k = c ↔ ∃ t, i = x + (b / g) * t ∧ k = y - (a / g) * t := by
  obtain ⟨a', rfl⟩ := ga
  obtain ⟨b', rfl⟩ := gb
  obtain ⟨u, v, huv⟩ := hgcd
  have e1 : g * a' / g = a' := Int.mul_ediv_cancel_left _ hg
  have e2 : g * b' / g = b' := Int.mul_ediv_cancel_left _ hg
  rw [e1, e2]
  have huv' : a' * u + b' * v = 1 := by
    apply Int.eq_of_mul_eq_mul_left hg
    grind
  constructor
  · intro h
    have e : a' * (i - x) + b' * (k - y) = 0 := by
      apply Int.eq_of_mul_eq_mul_left hg
      grind
    refine ⟨v * (i - x) - u * (k - y), ?_, ?_⟩
    · grind
    · grind
  · rintro ⟨t, rfl, rfl⟩
    grind

theorem wf_i64 {n : Int} (h : (Lit.int .i64 n).wf = true) : -9223372036854775808 ≤ n ∧ n < 9223372036854775808 := by
  simp [Lit.wf, IntKind.min, IntKind.max, IntKind.signed, IntKind.bits] at h
  omega

theorem w64 {n : Int} (h1 : -9223372036854775808 ≤ n) (h2 : n < 9223372036854775808) : wrap64 n = n := by
  unfold wrap64; omega

theorem w64n {n : Int} (h : n.natAbs ≤ 9000000000000) : wrap64 n = n := by
  unfold wrap64; omega

theorem abs_bd {n : Int} {B : Nat} (h : n.natAbs ≤ B) : -(B : Int) ≤ n ∧ n ≤ B := by omega

theorem more {n k : Nat} (h : n < k) : ∃ m, k = m + 1 := ⟨k - 1, by omega⟩

theorem w64_add (x y : Int) : wrap64 (x + wrap64 y) = wrap64 (x + y) := by
  unfold wrap64; omega

theorem awake (k : Nat) : distafflaw28_awake.f (k + 10) = some true := by
  kernel_rfl

theorem may_some (s t n : Int) : depend_May.f s t n = some (decide (-1048576 ≤ s ∧ s ≤ 1048576 ∧ -1048576 ≤ t ∧ t ≤ 1048576 ∧ 0 ≤ n ∧ n ≤ 1048576)) := by
  unfold depend_May.f depend_small.f
  by_cases h1 : s ≥ -1048576 <;> by_cases h2 : s ≤ 1048576 <;> by_cases h3 : t ≥ -1048576 <;> by_cases h4 : t ≤ 1048576 <;> by_cases h5 : n ≥ 0 <;>
    simp [h1, h2, h3, h4, h5]
  all_goals omega

end DependMay

open DependMay in
theorem DependMay (s t n : Int) (_ : (Lit.int .i64 s).wf = true) (_ : (Lit.int .i64 t).wf = true) (_ : (Lit.int .i64 n).wf = true) : ∃ k, distafflaw28_DependMay.f k s t n = some true := by
  refine ⟨10, ?_⟩
  unfold distafflaw28_DependMay.f
  rw [show distafflaw28_awake.f 10 = some true from awake 0, may_some]
  simp only [Option.bind_some, if_true]
  by_cases h1 : s ≥ -1048576 <;> by_cases h2 : s ≤ 1048576 <;> by_cases h3 : t ≥ -1048576 <;> by_cases h4 : t ≤ 1048576 <;> by_cases h5 : n ≥ 0 <;>
    simp [h1, h2, h3, h4, h5] <;> omega


end Go.Proofs.Ytghdjomcojjkmaa.Pure
