/- The statement DependGcds over numbers and lists: the printed law answers true at every input that its kinds allow. No further condition. -/
import Derived.Test.YtghdjomcojjkmaaMDependGcdsx3
namespace Go.Proofs.Ytghdjomcojjkmaa.Pure
open Go.RowKit Go.Proofs.Ytghdjomcojjkmaa.PDependGcds Go.Proofs.YtghdjomcojjkmaaW.PrintWords Go.Proofs.YtghdjomcojjkmaaW.PrintLast Go.Proofs.YtghdjomcojjkmaaW.PrintMore

namespace DependGcds
theorem floor_le {a b q : Int} (hb : 0 < b) (h0 : 0 ≤ a - q * b) (h1 : a - q * b < b) (t : Int) : t ≤ q ↔ t * b ≤ a := by
  constructor
  · intro h
    have := Int.mul_le_mul_of_nonneg_right h (Int.le_of_lt hb)
    omega
  · intro h
    apply Classical.byContradiction
    intro hn
    have := Int.mul_le_mul_of_nonneg_right (show q + 1 ≤ t by omega) (Int.le_of_lt hb)
    rw [Int.add_mul, Int.one_mul] at this
    omega

theorem floor_ge {a b q : Int} (hb : b < 0) (h0 : a - q * b ≤ 0) (h1 : b < a - q * b) (t : Int) : t ≤ q ↔ a ≤ t * b := by
  have := floor_le (a := -a) (b := -b) (q := q) (by omega) (by rw [Int.mul_neg]; omega) (by rw [Int.mul_neg]; omega) t
  rw [this, Int.mul_neg]; omega

theorem step_bd {x0 x1 x5 x7 q B : Int} (h : x7.natAbs * x0.natAbs + x5.natAbs * x1.natAbs ≤ B.natAbs)
    (hq : x0.natAbs = q.natAbs * x1.natAbs + (x0 - q * x1).natAbs) :
    (x5 - q * x7).natAbs * x1.natAbs + x7.natAbs * (x0 - q * x1).natAbs ≤ B.natAbs := by
  have t : (x5 - q * x7).natAbs ≤ x5.natAbs + q.natAbs * x7.natAbs := by
    have := Int.natAbs_sub_le x5 (q * x7)
    rwa [Int.natAbs_mul] at this
  have t2 := Nat.mul_le_mul_right x1.natAbs t
  rw [hq] at h
  grind

theorem tmod_as (a b : Int) : a - Int.tdiv a b * b = Int.tmod a b := by
  have := Int.tmod_add_mul_tdiv a b
  rw [Int.mul_comm] at this; omega

theorem tdiv_abs (a b : Int) : a.natAbs = (Int.tdiv a b).natAbs * b.natAbs + (a - Int.tdiv a b * b).natAbs := by
  rw [tmod_as, Int.natAbs_tdiv, Int.natAbs_tmod]
  have h := Nat.div_add_mod a.natAbs b.natAbs
  rw [Nat.mul_comm] at h
  exact h.symm

theorem coef_bd {x y : Int} {B : Nat} (h : x.natAbs * y.natAbs ≤ B) (hy : y ≠ 0) : x.natAbs ≤ B := by
  have := Nat.le_mul_of_pos_right x.natAbs (show 0 < y.natAbs by omega)
  omega

theorem mul_lt_bd {x y : Int} {A B : Nat} (hx : x.natAbs ≤ A) (hy : y.natAbs ≤ B) : (x * y).natAbs ≤ A * B := by
  rw [Int.natAbs_mul]; exact Nat.mul_le_mul hx hy

theorem tmod_zero_iff {a b : Int} : Int.tmod a b = 0 ↔ b ∣ a := by
  constructor
  · intro h; exact Int.dvd_of_tmod_eq_zero h
  · intro h; exact Int.tmod_eq_zero_of_dvd h

/-- all solutions of a i + b k = to, from one -/
theorem sols {a b g x y c i k : Int} (hg : g ≠ 0) (ga : g ∣ a) (gb : g ∣ b) (h1 : a * x + b * y = c) (hgcd : ∃ u v, a * u + b * v = g) :
    a * i + b * k = c ↔ ∃ t, i = x + (b / g) * t ∧ k = y - (a / g) * t := by
  obtain ⟨a', rfl⟩ := ga
  obtain ⟨b', rfl⟩ := gb
  obtain ⟨u, v, huv⟩ := hgcd
  have e1 : g * a' / g = a' := Int.mul_ediv_cancel_left _ hg
  have e2 : g * b' / g = b' := Int.mul_ediv_cancel_left _ hg
  rw [e1, e2]
  have huv' : a' * u + b' * v = 1 := by
    apply Int.eq_of_mul_eq_mul_left hg
    grind
  constructor
  · intro h
    have e : a' * (i - x) + b' * (k - y) = 0 := by
      apply Int.eq_of_mul_eq_mul_left hg
      grind
    refine ⟨v * (i - x) - u * (k - y), ?_, ?_⟩
    · grind
    · grind
  · rintro ⟨t, rfl, rfl⟩
    grind

theorem wf_i64 {n : Int} (h : (Lit.int .i64 n).wf = true) : -9223372036854775808 ≤ n ∧ n < 9223372036854775808 := by
  simp [Lit.wf, IntKind.min, IntKind.max, IntKind.signed, IntKind.bits] at h
  omega

theorem w64 {n : Int} (h1 : -9223372036854775808 ≤ n) (h2 : n < 9223372036854775808) : wrap64 n = n := by
  unfold wrap64; omega

theorem w64n {n : Int} (h : n.natAbs ≤ 9000000000000) : wrap64 n = n := by
  unfold wrap64; omega

theorem abs_bd {n : Int} {B : Nat} (h : n.natAbs ≤ B) : -(B : Int) ≤ n ∧ n ≤ B := by omega

theorem more {n k : Nat} (h : n < k) : ∃ m, k = m + 1 := ⟨k - 1, by omega⟩

theorem w64_add (x y : Int) : wrap64 (x + wrap64 y) = wrap64 (x + y) := by
  unfold wrap64; omega

theorem awake (k : Nat) : distafflaw28_awake.f (k + 10) = some true := by
  kernel_rfl

theorem floor_some (a b : Int) (hb : b ≠ 0) (ha : -9223372036854775807 < a ∧ a < 9223372036854775807) :
    ∃ q, depend_floor.f a b = some q ∧ q.natAbs ≤ a.natAbs + 1 ∧ (0 < b → ∀ t, t ≤ q ↔ t * b ≤ a) ∧ (b < 0 → ∀ t, t ≤ q ↔ a ≤ t * b) := by
  have hq : (Int.tdiv a b).natAbs ≤ a.natAbs := Int.natAbs_tdiv_le_natAbs a b
  have hm := tmod_as a b
  have hl : (Int.tmod a b).natAbs < b.natAbs := by
    rw [Int.natAbs_tmod]; exact Nat.mod_lt _ (Int.natAbs_pos.2 hb)
  have hs : (0 ≤ a → 0 ≤ Int.tmod a b) ∧ (a ≤ 0 → Int.tmod a b ≤ 0) := by
    constructor
    · intro h; exact Int.tmod_nonneg b h
    · intro h
      have := Int.tmod_nonneg b (show 0 ≤ -a by omega)
      rw [Int.neg_tmod] at this
      omega
  unfold depend_floor.f
  rw [if_neg hb, w64 (n := Int.tdiv a b) (by omega) (by omega)]
  by_cases hz : Int.tmod a b = 0
  · rw [if_pos hz]
    exact ⟨_, rfl, by omega, fun h => floor_le h (by omega) (by omega), fun h => floor_ge h (by omega) (by omega)⟩
  · rw [if_neg hz, w64 (n := Int.tdiv a b - 1) (by omega) (by omega)]
    have e : (Int.tdiv a b - 1) * b = Int.tdiv a b * b - b := by rw [Int.sub_mul, Int.one_mul]
    by_cases h1 : a < 0 <;> by_cases h2 : b < 0
    · rw [if_neg (by simp [h1, h2])]
      exact ⟨_, rfl, by omega, fun h => floor_le h (by omega) (by omega), fun h => floor_ge h (by omega) (by omega)⟩
    · rw [if_pos (by simp [h1, h2])]
      exact ⟨_, rfl, by omega, fun h => floor_le h (by omega) (by omega), fun h => floor_ge h (by omega) (by omega)⟩
    · rw [if_pos (by simp [h1, h2])]
      exact ⟨_, rfl, by omega, fun h => floor_le h (by omega) (by omega), fun h => floor_ge h (by omega) (by omega)⟩
    · rw [if_neg (by simp [h1, h2])]
      exact ⟨_, rfl, by omega, fun h => floor_le h (by omega) (by omega), fun h => floor_ge h (by omega) (by omega)⟩

theorem ceil_some (a b : Int) (hb : b ≠ 0) (ha : -9223372036854775800 < a ∧ a < 9223372036854775800) :
    ∃ q, depend_ceil.f a b = some q ∧ (0 < b → ∀ t, q ≤ t ↔ a ≤ t * b) ∧ (b < 0 → ∀ t, q ≤ t ↔ t * b ≤ a) := by
  obtain ⟨q, h, hn, h1, h2⟩ := floor_some (-a) b hb (by omega)
  refine ⟨-q, ?_, fun hb t => ?_, fun hb t => ?_⟩
  · unfold depend_ceil.f
    rw [w64 (n := -a) (by omega) (by omega), h]
    simp only [Option.bind_some]
    rw [w64 (n := -q) (by omega) (by omega)]
  · have := h1 hb (-t); rw [Int.neg_mul] at this; omega
  · have := h2 hb (-t); rw [Int.neg_mul] at this; omega

theorem within_some (a s m : Int) (ha : -9000000000000000000 < a ∧ a < 9000000000000000000) (hm : 0 ≤ m ∧ m ≤ 1048576) :
    ∃ f t, depend_within.f a s m = some (f, t) ∧ (s ≠ 0 → ∀ x, f ≤ x ∧ x ≤ t ↔ 0 ≤ a + s * x ∧ a + s * x ≤ m) ∧
      (s = 0 → if 0 ≤ a ∧ a ≤ m then f = -4611686018427387904 ∧ t = 4611686018427387904 else f = 1 ∧ t = 0) := by
  unfold depend_within.f
  rw [w64 (n := -a) (by omega) (by omega), w64 (n := m - a) (by omega) (by omega)]
  by_cases h1 : s > 0
  · rw [if_pos h1]
    obtain ⟨c, hc, c1, _⟩ := ceil_some (-a) s (by omega) (by omega)
    obtain ⟨f, hf, _, f1, _⟩ := floor_some (m - a) s (by omega) (by omega)
    rw [hc, hf]
    refine ⟨c, f, rfl, fun _ x => ?_, fun h => by omega⟩
    rw [c1 h1, f1 h1, Int.mul_comm x s]; omega
  · rw [if_neg h1]
    by_cases h2 : s < 0
    · rw [if_pos h2]
      obtain ⟨c, hc, _, c1⟩ := ceil_some (m - a) s (by omega) (by omega)
      obtain ⟨f, hf, _, _, f1⟩ := floor_some (-a) s (by omega) (by omega)
      rw [hc, hf]
      refine ⟨c, f, rfl, fun _ x => ?_, fun h => by omega⟩
      rw [c1 h2, f1 h2, Int.mul_comm x s]; omega
    · rw [if_neg h2]
      by_cases h3 : a < 0
      · rw [if_pos h3]
        refine ⟨_, _, rfl, fun h => by omega, fun _ => ?_⟩
        rw [if_neg (by omega)]; exact ⟨rfl, rfl⟩
      · rw [if_neg h3]
        by_cases h4 : a > m
        · rw [if_pos h4]
          refine ⟨_, _, rfl, fun h => by omega, fun _ => ?_⟩
          rw [if_neg (by omega)]; exact ⟨rfl, rfl⟩
        · rw [if_neg h4]
          refine ⟨_, _, rfl, fun h => by omega, fun _ => ?_⟩
          rw [if_pos (by omega)]; exact ⟨rfl, rfl⟩

/-- which ways two times may stand to one another, as a number -/
def told (l s g : Bool) : Int := (if l then 1 else 0) + (if s then 2 else 0) + (if g then 4 else 0)

theorem order_some (k : Nat) (f t d e : Int) (hd : -9000000000000000000 < d ∧ d < 9000000000000000000)
    (hb : f ≤ t → (-9000000000000000000 < d + e * f ∧ d + e * f < 9000000000000000000) ∧ (-9000000000000000000 < d + e * t ∧ d + e * t < 9000000000000000000)) :
    ∃ l s g : Bool, depend_order.f (k + 1) f t d e = some (told l s g) ∧ (l = true ↔ ∃ x, f ≤ x ∧ x ≤ t ∧ d + e * x < 0) ∧
      (s = true ↔ ∃ x, f ≤ x ∧ x ≤ t ∧ d + e * x = 0) ∧ (g = true ↔ ∃ x, f ≤ x ∧ x ≤ t ∧ d + e * x > 0) := by
  unfold depend_order.f depend_span_some.f
  simp only [Option.bind_some]
  by_cases hft : f ≤ t
  · rw [if_pos (by simpa using hft)]
    obtain ⟨b1, b2⟩ := hb hft
    by_cases he : e = 0
    · subst he
      rw [if_pos rfl]
      simp only [Int.zero_mul, Int.add_zero]
      have ex : ∀ P : Prop, (∃ x, f ≤ x ∧ x ≤ t ∧ P) ↔ P := fun P => ⟨fun ⟨_, _, _, h⟩ => h, fun h => ⟨f, by omega, hft, h⟩⟩
      simp only [ex]
      by_cases h1 : d < 0
      · rw [if_pos h1]; exact ⟨true, false, false, rfl, by simp; omega, by simp; omega, by simp; omega⟩
      · rw [if_neg h1]
        by_cases h2 : d > 0
        · rw [if_pos h2]; exact ⟨false, false, true, rfl, by simp; omega, by simp; omega, by simp; omega⟩
        · rw [if_neg h2]; exact ⟨false, true, false, rfl, by simp; omega, by simp; omega, by simp; omega⟩
    · rw [if_neg he, w64_add, w64_add, w64 (n := d + e * f) (by omega) (by omega), w64 (n := d + e * t) (by omega) (by omega)]
      -- between the ends
      have lo : ∀ x, f ≤ x → x ≤ t → min (d + e * f) (d + e * t) ≤ d + e * x ∧ d + e * x ≤ max (d + e * f) (d + e * t) := by
        intro x h1 h2
        rcases Int.lt_or_gt_of_ne he with h | h
        · have := Int.mul_le_mul_of_nonpos_left (Int.le_of_lt h) h1
          have := Int.mul_le_mul_of_nonpos_left (Int.le_of_lt h) h2
          omega
        · have := Int.mul_le_mul_of_nonneg_left h1 (Int.le_of_lt h)
          have := Int.mul_le_mul_of_nonneg_left h2 (Int.le_of_lt h)
          omega
      have hl : (mn (d + e * f) (d + e * t) < 0) ↔ ∃ x, f ≤ x ∧ x ≤ t ∧ d + e * x < 0 := by
        constructor
        · intro h
          by_cases h' : d + e * f < 0
          · exact ⟨f, by omega, hft, h'⟩
          · exact ⟨t, hft, by omega, by unfold mn at h; split at h <;> omega⟩
        · rintro ⟨x, h1, h2, h3⟩
          have := lo x h1 h2
          unfold mn; split <;> omega
      have hg : (mx (d + e * f) (d + e * t) > 0) ↔ ∃ x, f ≤ x ∧ x ≤ t ∧ d + e * x > 0 := by
        constructor
        · intro h
          by_cases h' : d + e * f > 0
          · exact ⟨f, by omega, hft, h'⟩
          · exact ⟨t, hft, by omega, by unfold mx at h; split at h <;> omega⟩
        · rintro ⟨x, h1, h2, h3⟩
          have := lo x h1 h2
          unfold mx; split <;> omega
      obtain ⟨q, hq, _, q1, q2⟩ := floor_some (-d) e he (by omega)
      have hs : (Int.tmod d e = 0 ∧ q ≥ f ∧ q ≤ t) ↔ ∃ x, f ≤ x ∧ x ≤ t ∧ d + e * x = 0 := by
        have key : ∀ x, d + e * x = 0 → q = x := by
          intro x hx
          have hx' : -d = x * e := by rw [Int.mul_comm]; omega
          rcases Int.lt_or_gt_of_ne he with h | h
          · have a1 := (q2 h x).2 (by omega)
            have a2 := (q2 h q).1 (by omega)
            apply Classical.byContradiction
            intro hne
            have := Int.mul_lt_mul_of_neg_right (show x < q by omega) h
            omega
          · have a1 := (q1 h x).2 (by omega)
            have a2 := (q1 h q).1 (by omega)
            have := Int.le_of_mul_le_mul_right (show q * e ≤ x * e by omega) h
            omega
        constructor
        · rintro ⟨hm, h1, h2⟩
          obtain ⟨c, hc⟩ := tmod_zero_iff.1 hm
          have hz : d + e * (-c) = 0 := by rw [hc, Int.mul_neg]; omega
          have := key _ hz
          exact ⟨-c, by omega, by omega, hz⟩
        · rintro ⟨x, h1, h2, h3⟩
          have := key x h3
          refine ⟨tmod_zero_iff.2 ⟨-x, by rw [Int.mul_neg]; omega⟩, by omega, by omega⟩
      have fin : ∀ (c : Bool), ∃ s g : Bool, depend_order.j0 (k + 1) d e (if c then 1 else 0) (d + e * f) (d + e * t) f t = some (told c s g) ∧
          (s = true ↔ ∃ x, f ≤ x ∧ x ≤ t ∧ d + e * x = 0) ∧ (g = true ↔ ∃ x, f ≤ x ∧ x ≤ t ∧ d + e * x > 0) := by
        intro c
        refine ⟨decide (Int.tmod d e = 0 ∧ q ≥ f ∧ q ≤ t), decide (mx (d + e * f) (d + e * t) > 0), ?_, by rw [decide_eq_true_iff]; exact hs, by rw [decide_eq_true_iff]; exact hg⟩
        simp only [depend_order.j0]
        rw [w64 (n := -d) (by omega) (by omega), hq]
        simp only [Option.bind_some]
        by_cases c1 : mx (d + e * f) (d + e * t) > 0 <;> by_cases c2 : Int.tmod d e = 0 <;> by_cases c3 : q ≥ f <;> by_cases c4 : q ≤ t <;>
          (simp only [he, c1, c2, c3, c4, if_true, if_false, and_self, and_true, and_false, decide_true, decide_false]; cases c <;> rfl)
      by_cases hc : mn (d + e * f) (d + e * t) < 0
      · rw [if_pos hc]
        obtain ⟨s, g, h1, h2, h3⟩ := fin true
        refine ⟨true, s, g, ?_, ?_, h2, h3⟩
        · rw [← h1]; rfl
        · simpa using hl.1 hc
      · rw [if_neg hc]
        obtain ⟨s, g, h1, h2, h3⟩ := fin false
        refine ⟨false, s, g, ?_, ?_, h2, h3⟩
        · rw [← h1]; rfl
        · rw [← hl]; simpa using hc
  · rw [if_neg (by simpa using hft)]
    refine ⟨false, false, false, rfl, ?_, ?_, ?_⟩ <;> (simp; intros; omega)

theorem bez (a b : Int) (ha : a.natAbs ≤ 1048576) (hb : b.natAbs ≤ 1048576) (N : Nat) : ∀ (k : Nat) (x0 x1 x5 x6 x7 x8 : Int), x1.natAbs = N → N < k →
    a * x5 + b * x6 = x0 → a * x7 + b * x8 = x1 → x0.natAbs ≤ 1048576 → x5.natAbs ≤ 1048576 → x6.natAbs ≤ 1048576 → x7.natAbs ≤ 1048576 → x8.natAbs ≤ 1048576 →
    x1.natAbs ≤ 1048576 → x7.natAbs * x0.natAbs + x5.natAbs * x1.natAbs ≤ b.natAbs → x8.natAbs * x0.natAbs + x6.natAbs * x1.natAbs ≤ a.natAbs →
    ∃ g x y, depend_bezout.l0 k x0 x1 x5 x6 x7 x8 = some (g, x, y) ∧ 0 ≤ g ∧ a * x + b * y = g ∧ g.natAbs = Nat.gcd x0.natAbs x1.natAbs ∧ x.natAbs ≤ 1048576 ∧ y.natAbs ≤ 1048576 := by
  induction N using Nat.strongRecOn with
  | _ N ih =>
    intro k x0 x1 x5 x6 x7 x8 hN hk e0 e1 b0 b5 b6 b7 b8 b1 i1 i2
    obtain ⟨k, rfl⟩ := more hk
    simp only [depend_bezout.l0]
    by_cases h1 : x1 = 0
    · rw [if_pos h1]
      subst h1
      by_cases h0 : x0 < 0
      · clear i1 i2 b7 b8 b1 e1
        rw [if_pos h0, w64n (n := -x0) (by rw [Int.natAbs_neg]; exact Nat.le_trans b0 (by decide)), w64n (n := -x5) (by rw [Int.natAbs_neg]; exact Nat.le_trans b5 (by decide)),
          w64n (n := -x6) (by rw [Int.natAbs_neg]; exact Nat.le_trans b6 (by decide))]
        refine ⟨_, _, _, rfl, Int.neg_nonneg_of_nonpos (Int.le_of_lt h0), by rw [Int.mul_neg, Int.mul_neg, ← Int.neg_add, e0], by simp, by rw [Int.natAbs_neg]; exact b5, by rw [Int.natAbs_neg]; exact b6⟩
      · rw [if_neg h0]
        exact ⟨_, _, _, rfl, Int.not_lt.1 h0, e0, by simp, b5, b6⟩
    · rw [if_neg h1]
      have q0 : (Int.tdiv x0 x1).natAbs ≤ 1048576 := Nat.le_trans (Int.natAbs_tdiv_le_natAbs x0 x1) b0
      have m1 := mul_lt_bd q0 b1
      have m7 := mul_lt_bd q0 b7
      have m8 := mul_lt_bd q0 b8
      have ab := tdiv_abs x0 x1
      have lt : (x0 - Int.tdiv x0 x1 * x1).natAbs < x1.natAbs := by
        rw [tmod_as, Int.natAbs_tmod]; exact Nat.mod_lt _ (Int.natAbs_pos.2 h1)
      have j1 := step_bd i1 ab
      have j2 := step_bd i2 ab
      have c7 : (x5 - Int.tdiv x0 x1 * x7).natAbs ≤ b.natAbs := coef_bd (Nat.le_trans (Nat.le_add_right _ _) j1) h1
      have c8 : (x6 - Int.tdiv x0 x1 * x8).natAbs ≤ a.natAbs := coef_bd (Nat.le_trans (Nat.le_add_right _ _) j2) h1
      have lt1 := Nat.le_trans (Nat.le_of_lt lt) b1
      have c7' := Nat.le_trans c7 hb
      have c8' := Nat.le_trans c8 ha
      rw [w64n (n := Int.tdiv x0 x1) (Nat.le_trans q0 (by decide)), w64n (n := Int.tdiv x0 x1 * x1) (Nat.le_trans m1 (by decide)), w64n (n := Int.tdiv x0 x1 * x7) (Nat.le_trans m7 (by decide)),
        w64n (n := Int.tdiv x0 x1 * x8) (Nat.le_trans m8 (by decide)), w64n (n := x0 - Int.tdiv x0 x1 * x1) (Nat.le_trans lt1 (by decide)), w64n (n := x5 - Int.tdiv x0 x1 * x7) (Nat.le_trans c7' (by decide)),
        w64n (n := x6 - Int.tdiv x0 x1 * x8) (Nat.le_trans c8' (by decide))]
      have ltN : (x0 - Int.tdiv x0 x1 * x1).natAbs < N := by rw [← hN]; exact lt
      have e2 : a * (x5 - Int.tdiv x0 x1 * x7) + b * (x6 - Int.tdiv x0 x1 * x8) = x0 - Int.tdiv x0 x1 * x1 := by
        rw [← e0, ← e1]; grind
      obtain ⟨g, x, y, hr, hg, hxy, hgcd, hx, hy⟩ := ih _ ltN k x1 (x0 - Int.tdiv x0 x1 * x1) x7 x8 (x5 - Int.tdiv x0 x1 * x7) (x6 - Int.tdiv x0 x1 * x8) rfl (Nat.lt_of_lt_of_le ltN (Nat.le_of_lt_succ hk))
        e1 e2 b1 b7 b8 c7' c8' lt1 j1 j2
      refine ⟨g, x, y, hr, hg, hxy, ?_, hx, hy⟩
      rw [hgcd, tmod_as, Int.natAbs_tmod, Nat.gcd_comm x1.natAbs, ← Nat.gcd_rec, Nat.gcd_comm]

theorem bezout_some (a b : Int) (ha : a.natAbs ≤ 1048576) (hb : b.natAbs ≤ 1048576) (hz : ¬ (a = 0 ∧ b = 0)) (k : Nat) (hk : 1048576 < k) :
    ∃ g x y, depend_bezout.f k a b = some (g, x, y) ∧ 0 < g ∧ a * x + b * y = g ∧ g ∣ a ∧ g ∣ b ∧ x.natAbs ≤ 1048576 ∧ y.natAbs ≤ 1048576 := by
  obtain ⟨g, x, y, h, h0, h1, h2, h3, h4⟩ := bez a b ha hb _ k a b 1 0 0 1 rfl (by omega) (by simp) (by simp) ha (by decide) (by decide) (by decide) (by decide) hb (by simp) (by simp)
  have d1 : g ∣ a := Int.natAbs_dvd_natAbs.1 (by rw [h2]; exact Nat.gcd_dvd_left _ _)
  have d2 : g ∣ b := Int.natAbs_dvd_natAbs.1 (by rw [h2]; exact Nat.gcd_dvd_right _ _)
  refine ⟨g, x, y, h, ?_, h1, d1, d2, h3, h4⟩
  rcases Int.lt_or_eq_of_le h0 with h | h
  · exact h
  · subst h
    exact absurd ⟨Int.zero_dvd.1 d1, Int.zero_dvd.1 d2⟩ hz

theorem may_some (s t n : Int) : depend_May.f s t n = some (decide (-1048576 ≤ s ∧ s ≤ 1048576 ∧ -1048576 ≤ t ∧ t ≤ 1048576 ∧ 0 ≤ n ∧ n ≤ 1048576)) := by
  unfold depend_May.f depend_small.f
  by_cases h1 : s ≥ -1048576 <;> by_cases h2 : s ≤ 1048576 <;> by_cases h3 : t ≥ -1048576 <;> by_cases h4 : t ≤ 1048576 <;> by_cases h5 : n ≥ 0 <;>
    simp [h1, h2, h3, h4, h5]
  all_goals omega

/-- at two times the lines are the same -/
def Sol (a0 a1 b0 b1 n i k : Int) : Prop := 0 ≤ i ∧ i < n ∧ 0 ≤ k ∧ k < n ∧ a1 + a0 * i = b1 + b0 * k

theorem meet_some (a0 a1 b0 b1 n : Int) (ha0 : -1048576 ≤ a0 ∧ a0 ≤ 1048576) (ha1 : -1048576 ≤ a1 ∧ a1 ≤ 1048576) (hb0 : -1048576 ≤ b0 ∧ b0 ≤ 1048576)
    (hb1 : -1048576 ≤ b1 ∧ b1 ≤ 1048576) (hn : 0 ≤ n ∧ n ≤ 1048576) (k : Nat) (hk : 1048576 + 10 < k) :
    ∃ l s g : Bool, depend_Meet.f k a0 a1 b0 b1 n = some (told l s g) ∧ (l = true ↔ ∃ i k, Sol a0 a1 b0 b1 n i k ∧ i < k) ∧
      (s = true ↔ ∃ i k, Sol a0 a1 b0 b1 n i k ∧ i = k) ∧ (g = true ↔ ∃ i k, Sol a0 a1 b0 b1 n i k ∧ i > k) := by
  obtain ⟨k, rfl⟩ : ∃ m, k = m + 3 := ⟨k - 3, by omega⟩
  unfold depend_Meet.f
  rw [may_some, may_some]
  simp only [Option.bind_some]
  rw [if_pos (by simp; omega), decide_eq_true (show -1048576 ≤ b0 ∧ b0 ≤ 1048576 ∧ -1048576 ≤ b1 ∧ b1 ≤ 1048576 ∧ 0 ≤ n ∧ n ≤ 1048576 by omega)]
  simp only [depend_Meet.j0]
  rw [if_neg (by decide)]
  by_cases h0 : n = 0
  · rw [if_pos h0]
    refine ⟨false, false, false, rfl, ?_, ?_, ?_⟩ <;> (simp [Sol]; omega)
  · rw [if_neg h0, w64 (n := b1 - a1) (by omega) (by omega)]
    have hz : (if a0 = 0 then depend_Meet.j1 (k + 2) n (b1 - a1) (b0 == 0) a0 a1 b0 b1 else depend_Meet.j1 (k + 2) n (b1 - a1) false a0 a1 b0 b1) = depend_Meet.j1 (k + 2) n (b1 - a1) (decide (a0 = 0 ∧ b0 = 0)) a0 a1 b0 b1 := by
      by_cases c1 : a0 = 0
      · rw [if_pos c1]; congr 1; by_cases c2 : b0 = 0 <;> simp [c1, c2]
      · rw [if_neg c1]; congr 1; simp [c1]
    rw [hz]
    simp only [depend_Meet.j1]
    by_cases c : a0 = 0 ∧ b0 = 0
    · rw [if_pos (by simpa using c)]
      obtain ⟨rfl, rfl⟩ := c
      unfold depend_flat.f
      by_cases c1 : b1 - a1 = 0
      · rw [if_pos c1]
        by_cases c2 : n = 1
        · rw [if_pos c2]
          refine ⟨false, true, false, rfl, ?_, ?_, ?_⟩
          · simp [Sol]; omega
          · simp [Sol]; exact ⟨0, by omega, by omega, by omega⟩
          · simp [Sol]; omega
        · rw [if_neg c2]
          refine ⟨true, true, true, rfl, ?_, ?_, ?_⟩
          · simp [Sol]; exact ⟨0, 1, by omega, by omega⟩
          · simp [Sol]; exact ⟨0, by omega, by omega, by omega⟩
          · simp [Sol]; exact ⟨1, 0, by omega, by omega⟩
      · rw [if_neg c1]
        refine ⟨false, false, false, rfl, ?_, ?_, ?_⟩ <;> (simp [Sol]; omega)
    · rw [if_neg (by simpa using c), w64 (n := -b0) (by omega) (by omega), w64 (n := -a0) (by omega) (by omega)]
      obtain ⟨g, x, y, hbz, hg, hxy, da, db, bx, bY⟩ := bezout_some a0 (-b0) (by omega) (by omega) (by omega) (k + 1) (by omega)
      rw [hbz]
      simp only [Option.bind_some]
      rw [if_neg (by omega)]
      by_cases hd : Int.tmod (b1 - a1) g = 0
      · rw [if_pos hd]
        have dg := tmod_zero_iff.1 hd
        have hq : (Int.tdiv (b1 - a1) g).natAbs ≤ 2097152 := Nat.le_trans (Int.natAbs_tdiv_le_natAbs _ _) (by omega)
        have hp : (Int.tdiv (-b0) g).natAbs ≤ 1048576 := Nat.le_trans (Int.natAbs_tdiv_le_natAbs _ _) (by omega)
        have hp' : (Int.tdiv (-a0) g).natAbs ≤ 1048576 := Nat.le_trans (Int.natAbs_tdiv_le_natAbs _ _) (by omega)
        have mx1 := mul_lt_bd bx hq
        have my1 := mul_lt_bd bY hq
        have ep : Int.tdiv (-b0) g = (-b0) / g := Int.tdiv_eq_ediv_of_dvd db
        have eq : Int.tdiv (-a0) g = -(a0 / g) := by rw [Int.neg_tdiv, Int.tdiv_eq_ediv_of_dvd da]
        have et : Int.tdiv (b1 - a1) g * g = b1 - a1 := Int.tdiv_mul_cancel dg
        rw [w64 (n := Int.tdiv (b1 - a1) g) (by omega) (by omega), w64 (n := Int.tdiv (-b0) g) (by omega) (by omega), w64 (n := Int.tdiv (-a0) g) (by omega) (by omega)]
        have bX := abs_bd mx1
        have bY' := abs_bd my1
        have bp := abs_bd hp
        have bq := abs_bd hp'
        generalize hX : x * Int.tdiv (b1 - a1) g = X at *
        generalize hY : y * Int.tdiv (b1 - a1) g = Y at *
        clear mx1 my1 hp hp' hq bx bY
        rw [w64 (n := X) (by omega) (by omega), w64 (n := Y) (by omega) (by omega), w64 (n := n - 1) (by omega) (by omega), w64 (n := X - Y) (by omega) (by omega)]
        have hXY : a0 * X + (-b0) * Y = b1 - a1 := by
          rw [← hX, ← hY, ← et, ← hxy]
          grind
        have all : ∀ i k, a1 + a0 * i = b1 + b0 * k ↔ ∃ t, i = X + (-b0) / g * t ∧ k = Y - a0 / g * t := by
          intro i k
          rw [← sols (show g ≠ 0 by omega) da db hXY ⟨x, y, hxy⟩, Int.neg_mul]
          omega
        rw [eq] at *
        rw [ep] at *
        generalize hP : (-b0) / g = p at *
        generalize hQ : a0 / g = q at *
        have hpq : p = 0 → q ≠ 0 := by
          intro h1 h2
          have e1 := Int.ediv_mul_cancel db
          have e2 := Int.ediv_mul_cancel da
          rw [hP, h1] at e1; rw [hQ, h2] at e2
          exact c ⟨by omega, by omega⟩
        obtain ⟨f1, t1, hw1, w1, w1'⟩ := within_some X p (n - 1) (by omega) (by omega)
        obtain ⟨f2, t2, hw2, w2, w2'⟩ := within_some Y (-q) (n - 1) (by omega) (by omega)
        rw [hw1, hw2]
        simp only [Option.bind_some, depend_both.f]
        rw [w64 (n := p - -q) (by omega) (by omega)]
        -- the span of both
        have span : ∀ t, (mx f1 f2 ≤ t ∧ t ≤ mn t1 t2) ↔ (f1 ≤ t ∧ t ≤ t1) ∧ (f2 ≤ t ∧ t ≤ t2) := by
          intro t; unfold mx mn; constructor
          · intro h; split at h <;> split at h <;> omega
          · intro h; split <;> split <;> omega
        have inn : ∀ t, (mx f1 f2 ≤ t ∧ t ≤ mn t1 t2) ↔ (0 ≤ X + p * t ∧ X + p * t ≤ n - 1) ∧ (0 ≤ Y + -q * t ∧ Y + -q * t ≤ n - 1) := by
          intro t
          rw [span]
          by_cases hp0 : p = 0
          · have hq0 := hpq hp0
            rw [w2 (by omega)]
            have := w1' hp0
            constructor
            · rintro ⟨h1, h2⟩
              refine ⟨?_, h2⟩
              rw [hp0, Int.zero_mul]
              split at this <;> omega
            · rintro ⟨h1, h2⟩
              refine ⟨?_, h2⟩
              rw [hp0, Int.zero_mul] at h1
              rw [if_pos (by omega)] at this
              have hb : t.natAbs ≤ (-q * t).natAbs := by
                rw [Int.natAbs_mul]; exact Nat.le_mul_of_pos_left _ (by omega)
              omega
          · rw [w1 hp0]
            by_cases hq0 : q = 0
            · have := w2' (by omega)
              constructor
              · rintro ⟨h1, h2⟩
                refine ⟨h1, ?_⟩
                rw [hq0, Int.neg_zero, Int.zero_mul]
                split at this <;> omega
              · rintro ⟨h1, h2⟩
                refine ⟨h1, ?_⟩
                rw [hq0, Int.neg_zero, Int.zero_mul] at h2
                rw [if_pos (by omega)] at this
                have hb : t.natAbs ≤ (p * t).natAbs := by
                  rw [Int.natAbs_mul]; exact Nat.le_mul_of_pos_left _ (by omega)
                omega
            · rw [w2 (by omega)]
        have ed : ∀ t, (X - Y) + (p - -q) * t = (X + p * t) - (Y + -q * t) := by intro t; grind
        obtain ⟨l, s, gg, ho, hl, hs, hgt⟩ := order_some k (mx f1 f2) (mn t1 t2) (X - Y) (p - -q) (by omega) (by
          intro h
          have i1 := (inn _).1 ⟨Int.le_refl _, h⟩
          have i2 := (inn _).1 ⟨h, Int.le_refl _⟩
          rw [ed, ed]
          omega)
        rw [ho]
        have conn : ∀ R : Int → Int → Prop, ((∃ i k, Sol a0 a1 b0 b1 n i k ∧ R i k) ↔ ∃ t, mx f1 f2 ≤ t ∧ t ≤ mn t1 t2 ∧ R (X + p * t) (Y + -q * t)) := by
          intro R
          constructor
          · rintro ⟨i, k, ⟨s1, s2, s3, s4, s5⟩, r⟩
            obtain ⟨t, rfl, rfl⟩ := (all i k).1 s5
            have e1 : Y - q * t = Y + -q * t := by rw [Int.neg_mul]; omega
            rw [e1] at s3 s4 r
            have := (inn t).2 ⟨⟨s1, by omega⟩, ⟨s3, by omega⟩⟩
            exact ⟨t, this.1, this.2, r⟩
          · rintro ⟨t, h1, h2, r⟩
            have := (inn t).1 ⟨h1, h2⟩
            refine ⟨X + p * t, Y + -q * t, ⟨this.1.1, by omega, this.2.1, by omega, ?_⟩, r⟩
            exact (all _ _).2 ⟨t, rfl, by rw [Int.neg_mul]; omega⟩
        refine ⟨l, s, gg, rfl, ?_, ?_, ?_⟩
        · rw [hl, conn (fun i k => i < k)]
          simp only [ed]
          exact exists_congr fun t => by omega
        · rw [hs, conn (fun i k => i = k)]
          simp only [ed]
          exact exists_congr fun t => by omega
        · rw [hgt, conn (fun i k => i > k)]
          simp only [ed]
          exact exists_congr fun t => by omega
      · rw [if_neg hd]
        have no : ∀ i k, ¬ Sol a0 a1 b0 b1 n i k := by
          rintro i k ⟨_, _, _, _, h⟩
          apply hd
          apply tmod_zero_iff.2
          have : b1 - a1 = a0 * i + (-b0) * k := by rw [Int.neg_mul]; omega
          rw [this]
          exact Int.dvd_add (Int.dvd_mul_of_dvd_left da) (Int.dvd_mul_of_dvd_left db)
        refine ⟨false, false, false, rfl, ?_, ?_, ?_⟩ <;> (simp only [Bool.false_eq_true, false_iff]; rintro ⟨i, k, h, _⟩; exact no i k h)

end DependGcds

namespace DependGcds

theorem bits_and (x y : Int) : Go.bits .and .i64 x y = IntKind.i64.wrap (((x % 18446744073709551616).toNat &&& (y % 18446744073709551616).toNat : Nat) : Int) := by
  show IntKind.i64.wrap ((BitVec.ofInt 64 x &&& BitVec.ofInt 64 y).toNat : Int) = _
  rw [BitVec.toNat_and, BitVec.toNat_ofInt, BitVec.toNat_ofInt]
  rfl

theorem and_mask (x : Int) (i : Nat) (hi : i ≤ 62) : Go.bits .and .i64 x (2 ^ i - 1) = x % 2 ^ i := by
  have hp : (2 : Nat) ^ i ≤ 2 ^ 62 := Nat.pow_le_pow_right (by decide) hi
  have hpos : 0 < (2 : Nat) ^ i := Nat.two_pow_pos i
  have hc : ((2 : Int) ^ i - 1) = ((2 ^ i - 1 : Nat) : Int) := by
    rw [Int.natCast_sub hpos]; simp
  have hd : ((2 : Nat) ^ i) ∣ 2 ^ 64 := Nat.pow_dvd_pow 2 (by omega)
  rw [hc, bits_and]
  have e1 : ((((2 ^ i - 1 : Nat) : Int) % 18446744073709551616).toNat) = 2 ^ i - 1 := by omega
  rw [e1, Nat.and_two_pow_sub_one_eq_mod]
  have e2 : (((x % 18446744073709551616).toNat % 2 ^ i : Nat) : Int) = x % 2 ^ i := by
    rw [Int.natCast_emod, Int.toNat_of_nonneg (Int.emod_nonneg _ (by decide))]
    have := Int.emod_emod_of_dvd x (show (((2 : Nat) ^ i : Nat) : Int) ∣ ((2 ^ 64 : Nat) : Int) from Int.natCast_dvd_natCast.2 hd)
    simpa using this
  have h1 : (0 : Int) < 2 ^ i := Int.pow_pos (by decide)
  have h2 := Int.emod_lt_of_pos x h1
  have e3 : 0 ≤ x % 2 ^ i := Int.emod_nonneg _ (by omega)
  have h3 : (2 : Int) ^ i ≤ 2 ^ 62 := by exact_mod_cast hp
  have h4 : x % 2 ^ i < 2 ^ 62 := Int.lt_of_lt_of_le h2 h3
  rw [e2, IntKind.wrap_i64]
  generalize x % 2 ^ i = y at *
  omega

end DependGcds

namespace DependGcds

theorem u64 (n : Int) : IntKind.u64.wrap n = n % 18446744073709551616 := by
  simp [IntKind.wrap, IntKind.bits, IntKind.signed]

theorem size_some (a : Int) (h : -9223372036854775808 ≤ a ∧ a < 9223372036854775808) : arith_size.f a = some (a.natAbs : Int) := by
  unfold arith_size.f
  simp only [u64]
  split <;> (congr 1; omega)

theorem agcd (a : Int) (h : -9223372036854775808 ≤ a ∧ a < 9223372036854775808) (k : Nat) (hk : 0 < k) : arith_Gcd.f k a 0 = some (a.natAbs : Int) := by
  obtain ⟨m, rfl⟩ := more hk
  unfold arith_Gcd.f
  rw [size_some a h, size_some 0 (by decide)]
  simp only [Option.bind_some]
  simp only [arith_Gcd.l0]
  rfl

theorem tmod_nat (x y : Nat) : Int.tmod (x : Int) (y : Int) = ((x % y : Nat) : Int) := by
  rw [Int.tmod_eq_emod_of_nonneg (by omega)]; omega

theorem l1_gcd (c : Int) (l : List Int) (n i : Int) (a : Nat) : ∀ (g k : Nat), a < k →
    ∃ k', k ≤ k' + a + 1 ∧ depend_Gcd.l1 k c (g : Int) (a : Int) l n i = depend_Gcd.l0 k' c ((Nat.gcd g a : Nat) : Int) l n (wrap64 (i + 1)) := by
  induction a using Nat.strongRecOn with
  | _ a ih =>
    intro g k hk
    obtain ⟨k, rfl⟩ := more hk
    simp only [depend_Gcd.l1]
    by_cases h : a = 0
    · subst h
      exact ⟨k, by omega, by rw [if_pos (by rfl), Nat.gcd_zero_right]⟩
    · have hm := Nat.mod_lt g (show 0 < a by omega)
      obtain ⟨k', h1, h2⟩ := ih (g % a) hm a k (by omega)
      refine ⟨k', by omega, ?_⟩
      rw [if_neg (by omega), tmod_nat, h2, Nat.gcd_comm a, ← Nat.gcd_rec, Nat.gcd_comm]

/-- the end of Gcd's loop -/
theorem l0_end (c : Int) (g : Nat) (l : List Int) (n i : Int) (hi : n ≤ i) (hc : -9223372036854775808 ≤ c ∧ c < 9223372036854775808) (k : Nat) (hk : 1 < k) :
    depend_Gcd.l0 k c (g : Int) l n i = some (decide (g ∣ c.natAbs)) := by
  obtain ⟨k, rfl⟩ : ∃ m, k = m + 1 := ⟨k - 1, by omega⟩
  simp only [depend_Gcd.l0]
  rw [if_neg (by omega)]
  by_cases h : g = 0
  · subst h
    rw [if_pos (by rfl)]
    refine congrArg some ?_
    rw [Bool.eq_iff_iff, beq_iff_eq, decide_eq_true_iff, Nat.zero_dvd]; omega
  · rw [if_neg (by omega), agcd c hc k (by omega), Option.bind_some, tmod_nat]
    refine congrArg some ?_
    rw [Bool.eq_iff_iff, beq_iff_eq, decide_eq_true_iff, Nat.dvd_iff_mod_eq_zero]; omega

theorem gcd_two (x y c : Int) (hx : -16 ≤ x ∧ x ≤ 16) (hy : -16 ≤ y ∧ y ≤ 16) (hc : -100 ≤ c ∧ c ≤ 100) (k : Nat) (hk : 60 < k) :
    depend_Gcd.f k [x, y] c = some (decide (Nat.gcd x.natAbs y.natAbs ∣ c.natAbs)) := by
  obtain ⟨k, rfl⟩ := more hk
  unfold depend_Gcd.f
  simp only [depend_Gcd.l0]
  rw [if_pos (by simp), if_pos (by decide), if_pos (by simp), show rd [x, y] 0 = x from rfl, agcd x (by omega) k (by omega), Option.bind_some]
  obtain ⟨k1, h1, h2⟩ := l1_gcd c [x, y] (([x, y] : List Int).length : Int) 0 x.natAbs 0 k (by omega)
  rw [show (0 : Int) = ((0 : Nat) : Int) from rfl] at h2 ⊢
  rw [h2, Nat.gcd_zero_left]
  obtain ⟨k1, rfl⟩ : ∃ m, k1 = m + 1 := ⟨k1 - 1, by omega⟩
  rw [show wrap64 (((0 : Nat) : Int) + 1) = 1 from w64 (by decide) (by decide)]
  simp only [depend_Gcd.l0]
  rw [if_pos (by simp), if_pos (by decide), if_pos (by simp), show rd [x, y] 1 = y from rfl, agcd y (by omega) k1 (by omega), Option.bind_some]
  obtain ⟨k2, h3, h4⟩ := l1_gcd c [x, y] (([x, y] : List Int).length : Int) 1 y.natAbs x.natAbs k1 (by omega)
  rw [h4, show wrap64 (1 + 1) = 2 from w64 (by decide) (by decide)]
  exact l0_end c _ _ _ 2 (by simp) (by omega) k2 (by omega)

theorem gcd_one (x c : Int) (hx : -100 ≤ x ∧ x ≤ 100) (hc : -1000 ≤ c ∧ c ≤ 1000) (k : Nat) (hk : 110 < k) :
    depend_Gcd.f k [x] c = some (decide (x.natAbs ∣ c.natAbs)) := by
  obtain ⟨k, rfl⟩ := more hk
  unfold depend_Gcd.f
  simp only [depend_Gcd.l0]
  rw [if_pos (by simp), if_pos (by decide), if_pos (by simp), show rd [x] 0 = x from rfl, agcd x (by omega) k (by omega), Option.bind_some]
  obtain ⟨k1, h1, h2⟩ := l1_gcd c [x] (([x] : List Int).length : Int) 0 x.natAbs 0 k (by omega)
  rw [show (0 : Int) = ((0 : Nat) : Int) from rfl] at h2 ⊢
  rw [h2, Nat.gcd_zero_left, show wrap64 (((0 : Nat) : Int) + 1) = 1 from w64 (by decide) (by decide)]
  exact l0_end c _ _ _ 1 (by simp) (by omega) k1 (by omega)

theorem gcd_nil (c : Int) (hc : -100 ≤ c ∧ c ≤ 100) (k : Nat) (hk : 2 < k) : depend_Gcd.f k [] c = some (c == 0) := by
  unfold depend_Gcd.f
  rw [show (0 : Int) = ((0 : Nat) : Int) from rfl, l0_end c 0 [] _ _ (by decide) (by omega) k (by omega)]
  refine congrArg some ?_
  rw [Bool.eq_iff_iff, decide_eq_true_iff, beq_iff_eq, Nat.zero_dvd]; omega

/-- near numbers: whether they can come to c by near times -/
theorem near (x y c : Int) (hx : -16 ≤ x ∧ x ≤ 16) (hy : -16 ≤ y ∧ y ≤ 16) (hc : -32 ≤ c ∧ c ≤ 32) :
    Nat.gcd x.natAbs y.natAbs ∣ c.natAbs ↔ ∃ i k : Int, (-80 ≤ i ∧ i ≤ 80) ∧ (-80 ≤ k ∧ k ≤ 80) ∧ x * i + y * k = c := by
  constructor
  · intro h
    by_cases hz : x = 0 ∧ y = 0
    · obtain ⟨rfl, rfl⟩ := hz
      have : c = 0 := by
        have := Nat.zero_dvd.1 h; omega
      exact ⟨0, 0, by omega, by omega, by simp [this]⟩
    · obtain ⟨g, u, v, _, hg, huv, dx, dy, _, _⟩ := bezout_some x y (by omega) (by omega) hz 1048577 (by decide)
      have hgG : g.natAbs ∣ Nat.gcd x.natAbs y.natAbs := Nat.dvd_gcd (Int.natAbs_dvd_natAbs.2 dx) (Int.natAbs_dvd_natAbs.2 dy)
      obtain ⟨e, he⟩ := Int.natAbs_dvd_natAbs.1 (Nat.dvd_trans hgG h)
      by_cases hy0 : y = 0
      · subst hy0
        -- x alone
        have hx0 : x ≠ 0 := fun h => hz ⟨h, rfl⟩
        have hdx : x ∣ c := by
          rw [Int.zero_mul, Int.add_zero] at huv
          exact ⟨u * e, by rw [he, ← huv, Int.mul_assoc]⟩
        obtain ⟨t, ht⟩ := hdx
        have hb : t.natAbs ≤ c.natAbs := by
          rw [ht, Int.natAbs_mul]; exact Nat.le_mul_of_pos_left _ (by omega)
        exact ⟨t, 0, by omega, by omega, by rw [ht]; simp⟩
      · have hya : 0 < (y.natAbs : Int) := by omega
        -- any solution, and the one near 0
        have hs : x * (u * e) + y * (v * e) = c := by rw [he, ← huv]; grind
        obtain ⟨i, hi⟩ : ∃ i, i = (u * e) % (y.natAbs : Int) := ⟨_, rfl⟩
        obtain ⟨q, hq⟩ : ∃ q, u * e = i + y * q := by
          have h1 := Int.mul_ediv_add_emod (u * e) (y.natAbs : Int)
          rcases Int.natAbs_eq y with h2 | h2
          · exact ⟨u * e / (y.natAbs : Int), by rw [hi]; rw [← h2] at h1 ⊢; omega⟩
          · exact ⟨-(u * e / (y.natAbs : Int)), by
              rw [hi, Int.mul_neg, ← Int.neg_mul]
              have h3 : -y = (y.natAbs : Int) := by omega
              rw [h3]; omega⟩
        have i0 : 0 ≤ i := by rw [hi]; exact Int.emod_nonneg _ (by omega)
        have i1 : i < (y.natAbs : Int) := by rw [hi]; exact Int.emod_lt_of_pos _ hya
        obtain ⟨k, hk⟩ : ∃ k, k = v * e + x * q := ⟨_, rfl⟩
        have hs2 : x * i + y * k = c := by rw [← hs, hq, hk]; grind
        refine ⟨i, k, by omega, ?_, hs2⟩
        have hxi : (x * i).natAbs ≤ 16 * y.natAbs := by
          rw [Int.natAbs_mul]
          have a1 : x.natAbs ≤ 16 := by omega
          have a2 : i.natAbs ≤ y.natAbs := by omega
          exact Nat.mul_le_mul a1 a2
        have hyk : y.natAbs * k.natAbs ≤ 32 + 16 * y.natAbs := by
          rw [← Int.natAbs_mul]; omega
        have hk2 : k.natAbs ≤ 48 := by
          apply Classical.byContradiction
          intro hn
          have := Nat.mul_le_mul_left y.natAbs (show 49 ≤ k.natAbs by omega)
          omega
        omega
  · rintro ⟨i, k, _, _, h⟩
    have d1 : ((Nat.gcd x.natAbs y.natAbs : Nat) : Int) ∣ x := Int.natAbs_dvd_natAbs.1 (by simpa using Nat.gcd_dvd_left _ _)
    have d2 : ((Nat.gcd x.natAbs y.natAbs : Nat) : Int) ∣ y := Int.natAbs_dvd_natAbs.1 (by simpa using Nat.gcd_dvd_right _ _)
    have d3 : ((Nat.gcd x.natAbs y.natAbs : Nat) : Int) ∣ c := by
      rw [← h]; exact Int.dvd_add (Int.dvd_mul_of_dvd_left d1) (Int.dvd_mul_of_dvd_left d2)
    have := Int.natAbs_dvd_natAbs.2 d3
    simpa using this

end DependGcds

namespace DependGcds

/-- what was tried before these two times -/
def Tried (x y c i k : Int) : Prop := ∃ i' k' : Int, (-80 ≤ i' ∧ i' ≤ 80) ∧ (-80 ≤ k' ∧ k' ≤ 80) ∧ x * i' + y * k' = c ∧ (i' < i ∨ (i' = i ∧ k' < k))

theorem tried_next {x y c i k : Int} (h1 : -80 ≤ i ∧ i ≤ 80) (h2 : -80 ≤ k ∧ k ≤ 80) : Tried x y c i (k + 1) ↔ Tried x y c i k ∨ x * i + y * k = c := by
  constructor
  · rintro ⟨i', k', a, b, e, h⟩
    by_cases q : i' = i ∧ k' = k
    · obtain ⟨rfl, rfl⟩ := q; exact Or.inr e
    · exact Or.inl ⟨i', k', a, b, e, by omega⟩
  · rintro (⟨i', k', a, b, e, h⟩ | e)
    · exact ⟨i', k', a, b, e, by omega⟩
    · exact ⟨i, k, h1, h2, e, by omega⟩

theorem tried_row {x y c i : Int} : Tried x y c (i + 1) (-80) ↔ Tried x y c i 81 := by
  constructor
  · rintro ⟨i', k', a, b, e, h⟩; exact ⟨i', k', a, b, e, by omega⟩
  · rintro ⟨i', k', a, b, e, h⟩; exact ⟨i', k', a, b, e, by omega⟩

theorem small_prod {x i : Int} (hx : -16 ≤ x ∧ x ≤ 16) (hi : -80 ≤ i ∧ i ≤ 80) : -1280 ≤ x * i ∧ x * i ≤ 1280 := by
  have := abs_bd (mul_lt_bd (x := x) (y := i) (A := 16) (B := 80) (by omega) (by omega))
  omega

theorem inner (x y c i : Int) (hx : -16 ≤ x ∧ x ≤ 16) (hy : -16 ≤ y ∧ y ≤ 16) (hi : -80 ≤ i ∧ i ≤ 80) (d : Nat) : ∀ (k : Int) (b : Bool) (K : Nat), 81 - k = d → -80 ≤ k → (b = true ↔ Tried x y c i k) →
    ∃ b', distafflaw28_DependGcds.l1 (K + d + 1) x y c b i k = distafflaw28_DependGcds.l0 K x y c b' (i + 1) ∧ (b' = true ↔ Tried x y c (i + 1) (-80)) := by
  induction d with
  | zero =>
    intro k b K hd hk hb
    refine ⟨b, ?_, ?_⟩
    · generalize hM : K + 0 = M
      simp only [distafflaw28_DependGcds.l1]
      subst hM
      rw [if_neg (by omega), w64 (n := i + 1) (by omega) (by omega)]; rfl
    · have e : k = 81 := by omega
      subst e
      rw [hb, tried_row]
  | succ d ih =>
    intro k b K hd hk hb
    show ∃ b', distafflaw28_DependGcds.l1 ((K + d + 1) + 1) x y c b i k = distafflaw28_DependGcds.l0 K x y c b' (i + 1) ∧ (b' = true ↔ Tried x y c (i + 1) (-80))
    generalize hM : K + d + 1 = M
    simp only [distafflaw28_DependGcds.l1]
    subst hM
    have p1 := small_prod hx hi
    have p2 := small_prod hy (show -80 ≤ k ∧ k ≤ 80 by omega)
    have nx := tried_next (x := x) (y := y) (c := c) hi (show -80 ≤ k ∧ k ≤ 80 by omega)
    rw [if_pos (by omega), w64 (n := x * i) (by omega) (by omega), w64 (n := y * k) (by omega) (by omega), w64 (n := x * i + y * k) (by omega) (by omega), w64 (n := k + 1) (by omega) (by omega)]
    cases b with
    | true =>
      rw [if_pos rfl]
      exact ih (k + 1) true K (by omega) (by omega) (by rw [nx]; simp [hb.1 rfl])
    | false =>
      rw [if_neg (by decide)]
      refine ih (k + 1) _ K (by omega) (by omega) ?_
      rw [nx, beq_iff_eq]
      have : ¬ Tried x y c i k := fun h => by have := hb.2 h; simp at this
      simp [this]

theorem outer (x y c : Int) (hx : -16 ≤ x ∧ x ≤ 16) (hy : -16 ≤ y ∧ y ≤ 16) (hc : -32 ≤ c ∧ c ≤ 32) (d : Nat) : ∀ (i : Int) (b : Bool), 81 - i = d → -80 ≤ i → (b = true ↔ Tried x y c i (-80)) →
    distafflaw28_DependGcds.l0 (301 + d * 163) x y c b i = some true := by
  induction d with
  | zero =>
    intro i b hd hi hb
    have ez : 301 + 0 * 163 = (290 + 10) + 1 := by omega
    rw [ez]
    generalize hM : 290 + 10 = M
    simp only [distafflaw28_DependGcds.l0]
    subst hM
    rw [if_neg (by omega), awake 290, Option.bind_some, if_pos rfl, gcd_two x y c hx hy (by omega) _ (by decide), Option.bind_some]
    have all : Tried x y c i (-80) ↔ ∃ i k : Int, (-80 ≤ i ∧ i ≤ 80) ∧ (-80 ≤ k ∧ k ≤ 80) ∧ x * i + y * k = c := by
      constructor
      · rintro ⟨i', k', a, b, e, _⟩; exact ⟨i', k', a, b, e⟩
      · rintro ⟨i', k', a, b, e⟩; exact ⟨i', k', a, b, e, by omega⟩
    have e : decide (Nat.gcd x.natAbs y.natAbs ∣ c.natAbs) = b := by
      rw [Bool.eq_iff_iff, decide_eq_true_iff, hb, all, near x y c hx hy hc]
    rw [e, if_pos (by simp), gcd_nil c (by omega) _ (by decide), Option.bind_some, if_pos (by simp), w64 (n := 3 * c) (by omega) (by omega), gcd_one c (3 * c) (by omega) (by omega) _ (by decide), Option.bind_some]
    refine congrArg some (decide_eq_true ?_)
    rw [Int.natAbs_mul]
    exact Nat.dvd_mul_left _ _
  | succ d ih =>
    intro i b hd hi hb
    have ez : 301 + (d + 1) * 163 = ((301 + d * 163) + 161 + 1) + 1 := by omega
    rw [ez]
    generalize hM : (301 + d * 163) + 161 + 1 = M
    simp only [distafflaw28_DependGcds.l0]
    subst hM
    rw [if_pos (by omega)]
    obtain ⟨b', h1, h2⟩ := inner x y c i hx hy (by omega) 161 (-80) b (301 + d * 163) (by omega) (by omega) hb
    rw [h1]
    exact ih (i + 1) b' (by omega) (by omega) h2

end DependGcds

open DependGcds in
theorem DependGcds : distafflaw28_DependGcds.Pure := by
  intro a b c _ _ _
  have h1 : Go.bits .and .i64 a 31 = a % 32 := and_mask a 5 (by decide)
  have h2 : Go.bits .and .i64 b 31 = b % 32 := and_mask b 5 (by decide)
  have h3 : Go.bits .and .i64 c 63 = c % 64 := and_mask c 6 (by decide)
  refine ⟨301 + 161 * 163, ?_⟩
  unfold distafflaw28_DependGcds.f
  rw [h1, h2, h3, w64 (n := a % 32 - 15) (by omega) (by omega), w64 (n := b % 32 - 15) (by omega) (by omega), w64 (n := c % 64 - 31) (by omega) (by omega)]
  refine outer (a % 32 - 15) (b % 32 - 15) (c % 64 - 31) (by omega) (by omega) (by omega) 161 (-80) false (by decide) (by decide) ?_
  simp only [Bool.false_eq_true, false_iff]
  rintro ⟨i', k', _, _, _, h⟩
  omega


end Go.Proofs.Ytghdjomcojjkmaa.Pure
