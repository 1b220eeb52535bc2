/- The statement GraphPlaces over numbers and lists: the printed law answers true at every input that its kinds allow. No further condition. -/
import Derived.Test.YtdndjcofafkafaaMGraphPlacesx8
namespace Go.Proofs.Ytdndjcofafkafaa.Pure
open Go.RowKit Go.Proofs.Ytdndjcofafkafaa.PGraphPlaces Go.Proofs.YtdndjcofafkafaaW.PrintWords Go.Proofs.YtdndjcofafkafaaW.PrintLast Go.Proofs.YtdndjcofafkafaaW.PrintMore

namespace Places
theorem bits_and (x y : Int) : Go.bits .and .i64 x y = IntKind.i64.wrap (((x % 18446744073709551616).toNat &&& (y % 18446744073709551616).toNat : Nat) : Int) := by
  show IntKind.i64.wrap ((BitVec.ofInt 64 x &&& BitVec.ofInt 64 y).toNat : Int) = _
  rw [BitVec.toNat_and, BitVec.toNat_ofInt, BitVec.toNat_ofInt]
  rfl
theorem and31 (x : Int) : ∃ n : Nat, n ≤ 31 ∧ Go.bits .and .i64 x 31 = (n : Int) := by
  refine ⟨(x % 18446744073709551616).toNat &&& 31, Nat.and_le_right, ?_⟩
  rw [bits_and]
  have e1 : ((31 : Int) % 18446744073709551616).toNat = 31 := by decide
  rw [e1]
  have h : (x % 18446744073709551616).toNat &&& 31 ≤ 31 := Nat.and_le_right
  rw [IntKind.wrap_i64]
  omega

theorem w64 (n : Int) (h0 : -1000 ≤ n) (h1 : n ≤ 1000) : wrap64 n = n := by unfold wrap64; omega

/-- Where a number was last seen among the first so many. -/
def want (l : List Int) (b : Int) : Nat → Int
  | 0 => -1
  | i + 1 => if rd l (i : Int) = b then (i : Int) else want l b i

theorem rd_nat (l : List Int) (i : Nat) (h : i < l.length) : rd l (i : Int) = l[i] := by
  unfold rd
  rw [List.getD_eq_getElem?_getD, Int.toNat_natCast, List.getElem?_eq_getElem h]
  rfl

def holds (p l : List Int) (n i : Nat) : Prop := p.length = n ∧ ∀ b : Nat, b < n → rd p (b : Int) = want l b i

theorem step_holds {p l : List Int} {n i : Nat} (_ : i < l.length) (h : holds p l n i) :
    holds (if 0 ≤ rd l (i : Int) ∧ rd l (i : Int) < (n : Int) then p.set (rd l (i : Int)).toNat (i : Int) else p) l n (i + 1) := by
  obtain ⟨h1, h2⟩ := h
  by_cases hc : 0 ≤ rd l (i : Int) ∧ rd l (i : Int) < (n : Int)
  · rw [if_pos hc]
    refine ⟨by rw [List.length_set]; exact h1, fun b hb => ?_⟩
    simp only [want]
    have hb2 := h2 b hb
    rw [rd_nat _ _ (by omega)] at hb2
    rw [rd_nat _ _ (by rw [List.length_set]; omega), List.getElem_set]
    by_cases e : rd l (i : Int) = (b : Int)
    · rw [if_pos e, if_pos (by omega)]
    · rw [if_neg e, if_neg (by omega)]; exact hb2
  · rw [if_neg hc]
    refine ⟨h1, fun b hb => ?_⟩
    simp only [want]
    rw [if_neg (by omega)]; exact h2 b hb

theorem l1_ok (l : List Int) (n : Nat) (hl : l.length ≤ 40) : ∀ (j i : Nat) (k : Nat) (p : List Int), i + j = l.length → j < k → holds p l n i → ∃ p', graph_Places.l1 k p l (l.length : Int) (i : Int) = some p' ∧ holds p' l n l.length := by
  intro j
  induction j with
  | zero =>
    intro i k p hi hk hp
    obtain ⟨k, rfl⟩ : ∃ k', k = k' + 1 := ⟨k - 1, by omega⟩
    have hi' : i = l.length := by omega
    subst hi'
    exact ⟨p, by simp only [graph_Places.l1]; rw [if_neg (by omega)], hp⟩
  | succ j ih =>
    intro i k p hi hk hp
    obtain ⟨k, rfl⟩ : ∃ k', k = k' + 1 := ⟨k - 1, by omega⟩
    have hlt : i < l.length := by omega
    have hs := step_holds hlt hp
    have e : wrap64 ((i : Int) + 1) = ((i + 1 : Nat) : Int) := by rw [w64 _ (by omega) (by omega)]; omega
    simp only [graph_Places.l1]
    rw [if_pos (by omega), if_pos (by omega), if_pos (by omega), e, hp.1]
    by_cases h0 : rd l (i : Int) ≥ 0
    · rw [if_pos h0]
      by_cases h1 : rd l (i : Int) < (n : Int)
      · rw [if_pos h1, if_pos h0]
        rw [if_pos ⟨h0, h1⟩] at hs
        exact ih (i + 1) k _ (by omega) (by omega) hs
      · rw [if_neg h1]
        rw [if_neg (by omega)] at hs
        exact ih (i + 1) k _ (by omega) (by omega) hs
    · rw [if_neg h0]
      rw [if_neg (by omega)] at hs
      exact ih (i + 1) k _ (by omega) (by omega) hs

theorem l0_ok (l : List Int) (n : Nat) (hl : l.length ≤ 40) (hn : n ≤ 31) : ∀ (j i : Nat) (k : Nat) (p : List Int), i + j = n → j + l.length + 1 < k → p.length = n → (∀ b : Nat, b < i → rd p (b : Int) = -1) → ∃ p', graph_Places.l0 k l p (n : Int) (i : Int) = some p' ∧ holds p' l n l.length := by
  intro j
  induction j with
  | zero =>
    intro i k p hi hk hp hb
    obtain ⟨k, rfl⟩ : ∃ k', k = k' + 1 := ⟨k - 1, by omega⟩
    have hi' : i = n := by omega
    subst hi'
    simp only [graph_Places.l0]
    rw [if_neg (by omega)]
    exact l1_ok l i hl l.length 0 k p (by omega) (by omega) ⟨hp, fun b hb' => by rw [hb b hb']; rfl⟩
  | succ j ih =>
    intro i k p hi hk hp hb
    obtain ⟨k, rfl⟩ : ∃ k', k = k' + 1 := ⟨k - 1, by omega⟩
    have e : wrap64 ((i : Int) + 1) = ((i + 1 : Nat) : Int) := by rw [w64 _ (by omega) (by omega)]; omega
    simp only [graph_Places.l0]
    rw [if_pos (by omega), if_pos (by omega), if_pos (by omega), e]
    refine ih (i + 1) k _ (by omega) (by omega) (by rw [List.length_set]; exact hp) fun b hb' => ?_
    rw [rd_nat _ _ (by rw [List.length_set]; omega), List.getElem_set]
    by_cases e2 : ((i : Int)).toNat = b
    · rw [if_pos e2]
    · rw [if_neg e2]
      have := hb b (by omega)
      rwa [rd_nat _ _ (by omega)] at this

theorem places_ok (l : List Int) (n : Nat) (a : Int) (hl : l.length ≤ 40) (hn : n ≤ 31) (ha : mx a 0 = (n : Int)) (k : Nat) (hk : n + l.length + 1 < k) : ∃ p, graph_Places.f k l a = some p ∧ holds p l n l.length := by
  unfold graph_Places.f
  rw [ha, if_pos (by omega), if_pos (by omega)]
  simp only [Option.bind_some, List.length_replicate, Int.toNat_natCast]
  exact l0_ok l n hl hn n 0 k _ (by omega) (by omega) (by simp) (fun b hb => by omega)

theorem law_l1 (l p : List Int) (n : Nat) (hl : l.length ≤ 40) (hn : n ≤ 31) (hp : holds p l n l.length) (b : Nat) (hb : b < n) : ∀ (j i k : Nat), i + j = l.length →
    distafflaw08_GraphPlaces.l1 (j + 1 + k) (n : Int) l p (b : Int) (want l b i) (i : Int) = distafflaw08_GraphPlaces.l0 k (n : Int) l p ((b + 1 : Nat) : Int) := by
  intro j
  induction j with
  | zero =>
    intro i k hi
    have hi' : i = l.length := by omega
    subst hi'
    rw [show 0 + 1 + k = k + 1 by omega]
    have e : wrap64 ((b : Int) + 1) = ((b + 1 : Nat) : Int) := by rw [w64 _ (by omega) (by omega)]; omega
    have h1 := hp.1
    simp only [distafflaw08_GraphPlaces.l1]
    rw [if_neg (by omega), if_pos (by omega), if_pos (by omega), if_pos (hp.2 b hb), e]
  | succ j ih =>
    intro i k hi
    rw [show j + 1 + 1 + k = (j + 1 + k) + 1 by omega]
    have e : wrap64 ((i : Int) + 1) = ((i + 1 : Nat) : Int) := by rw [w64 _ (by omega) (by omega)]; omega
    have hih := ih (i + 1) k (by omega)
    simp only [distafflaw08_GraphPlaces.l1]
    rw [if_pos (by omega), if_pos (by omega), e]
    simp only [want] at hih
    by_cases e2 : rd l (i : Int) = (b : Int)
    · rw [if_pos e2] at hih ⊢; exact hih
    · rw [if_neg e2] at hih ⊢; exact hih

theorem law_l0 (l p : List Int) (n : Nat) (hl : l.length ≤ 40) (hn : n ≤ 31) (hp : holds p l n l.length) : ∀ (j b k : Nat), b + j = n →
    distafflaw08_GraphPlaces.l0 (j * (l.length + 2) + 1 + k) (n : Int) l p (b : Int) = some true := by
  intro j
  induction j with
  | zero =>
    intro b k hb
    rw [show 0 * (l.length + 2) + 1 + k = k + 1 by omega]
    simp only [distafflaw08_GraphPlaces.l0]
    rw [if_neg (by omega)]
  | succ j ih =>
    intro b k hb
    rw [show (j + 1) * (l.length + 2) + 1 + k = (l.length + 1 + (j * (l.length + 2) + 1 + k)) + 1 by rw [Nat.succ_mul]; omega]
    simp only [distafflaw08_GraphPlaces.l0]
    rw [if_pos (by omega)]
    have h := law_l1 l p n hl hn hp b (by omega) l.length 0 (j * (l.length + 2) + 1 + k) (by omega)
    simp only [want] at h
    have h' : distafflaw08_GraphPlaces.l1 (l.length + 1 + (j * (l.length + 2) + 1 + k)) (n : Int) l p (b : Int) (-1) 0 = distafflaw08_GraphPlaces.l0 (j * (l.length + 2) + 1 + k) (n : Int) l p ((b + 1 : Nat) : Int) := h
    rw [h']
    exact ih (b + 1) k (by omega)

theorem all (l0 : List Int) (a1 : Int) : ∃ k, distafflaw08_GraphPlaces.f k l0 a1 = some true := by
  obtain ⟨n, hn, ha⟩ := and31 a1
  obtain ⟨m, hm⟩ : ∃ m : Nat, mn (l0.length : Int) 40 = (m : Int) := by
    unfold mn; split
    · exact ⟨40, rfl⟩
    · exact ⟨l0.length, rfl⟩
  have hm2 : (m : Int) ≤ (l0.length : Int) ∧ m ≤ 40 := by
    unfold mn at hm; split at hm <;> omega
  obtain ⟨l, hl⟩ : ∃ l, l0.take m = l := ⟨_, rfl⟩
  have hl1 : l.length ≤ 40 := by rw [← hl, List.length_take]; omega
  refine ⟨n * (l.length + 2) + 1 + 100 + 1, ?_⟩
  obtain ⟨p, hp1, hp2⟩ := places_ok l n (n : Int) hl1 hn (by unfold mx; rw [if_neg (by omega)]) (n * (l.length + 2) + 1 + 100 + 1) (by omega)
  have e1 : wrap64 (-1 - (n : Int)) = -1 - (n : Int) := w64 _ (by omega) (by omega)
  obtain ⟨q, hq1, hq2⟩ := places_ok l 0 (-1 - (n : Int)) hl1 (by omega) (by unfold mx; rw [if_pos (by omega)]; rfl) (n * (l.length + 2) + 1 + 100 + 1) (by omega)
  unfold distafflaw08_GraphPlaces.f
  rw [ha, hm, if_pos (by omega), if_pos hm2.1, Int.toNat_natCast, hl, e1, hp1]
  simp only [Option.bind_some, distafflaw08_awake.f, if_true]
  rw [if_pos (by rw [hp2.1]), hq1]
  simp only [Option.bind_some, hq2.1]
  simp only [distafflaw08_GraphPlaces.j0]
  rw [if_neg (by decide)]
  exact law_l0 l p n hl1 hn hp2 n 0 100 (by omega)
end Places
theorem GraphPlaces : distafflaw08_GraphPlaces.Pure := fun l0 a1 _ _ _ _ => Places.all l0 a1


end Go.Proofs.Ytdndjcofafkafaa.Pure
