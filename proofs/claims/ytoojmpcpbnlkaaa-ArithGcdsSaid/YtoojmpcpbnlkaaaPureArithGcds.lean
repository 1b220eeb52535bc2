/- The statement ArithGcds of the seat, over numbers: the printed law answers true at any two numbers of 64 bits. No further condition. -/
import Derived.Test.YtoojmpcpbnlkaaaPArithGcdsx2
namespace Go.Proofs.Ytoojmpcpbnlkaaa.Pure
open Go.RowKit Go.Proofs.Ytoojmpcpbnlkaaa.PArithGcds Go.Proofs.YtoojmpcpbnlkaaaW.PrintWords Go.Proofs.YtoojmpcpbnlkaaaW.PrintLast

namespace Gcds

theorem u64 (n : Int) : IntKind.u64.wrap n = n % 18446744073709551616 := by
  simp [IntKind.wrap, IntKind.bits, IntKind.signed]

theorem wf_i64 {n : Int} (h : (Lit.int .i64 n).wf = true) : -9223372036854775808 ≤ n ∧ n < 9223372036854775808 := by
  simp [Lit.wf, IntKind.min, IntKind.max, IntKind.signed, IntKind.bits] at h
  omega

theorem awake (k : Nat) : distafflaw01_awake.f (k + 1) = some true := by
  kernel_rfl

theorem size_some (a : Int) (h : -9223372036854775808 ≤ a ∧ a < 9223372036854775808) : arith_size.f a = some (a.natAbs : Int) := by
  unfold arith_size.f
  simp only [u64]
  split <;> (congr 1; omega)

theorem tmod_nat (x y : Nat) : Int.tmod (x : Int) (y : Int) = ((x % y : Nat) : Int) := by
  rw [Int.tmod_eq_emod_of_nonneg (by omega)]; omega

theorem loop (y : Nat) : ∀ (x k : Nat), y < k → arith_Gcd.l0 k (x : Int) (y : Int) = some ((Nat.gcd x y : Nat) : Int) := by
  induction y using Nat.strongRecOn with
  | _ y ih =>
    intro x k hk
    obtain ⟨k, rfl⟩ : ∃ m, k = m + 1 := ⟨k - 1, by omega⟩
    simp only [arith_Gcd.l0]
    by_cases h : y = 0
    · subst h; rw [if_pos (by rfl), Nat.gcd_zero_right]
    · rw [if_neg (by omega), tmod_nat, ih (x % y) (Nat.mod_lt _ (by omega)) y k (by have := Nat.mod_lt x (show y > 0 by omega); omega)]
      congr 2
      rw [Nat.gcd_comm, ← Nat.gcd_rec, Nat.gcd_comm]

theorem loop2 (y : Nat) : ∀ (x k : Nat), Nat.gcd x y = 1 → y + 1 < k → distafflaw01_ArithGcds.l0 k (x : Int) (y : Int) = some true := by
  induction y using Nat.strongRecOn with
  | _ y ih =>
    intro x k hg hk
    obtain ⟨k, rfl⟩ : ∃ m, k = m + 1 := ⟨k - 1, by omega⟩
    simp only [distafflaw01_ArithGcds.l0]
    by_cases h : y = 0
    · subst h
      rw [Nat.gcd_zero_right] at hg; subst hg
      obtain ⟨k, rfl⟩ : ∃ m, k = m + 1 := ⟨k - 1, by omega⟩
      rw [if_pos (by rfl), awake]; rfl
    · rw [if_neg (by omega), tmod_nat]
      have hm := Nat.mod_lt x (show y > 0 by omega)
      exact ih (x % y) hm y k (by rw [Nat.gcd_comm, ← Nat.gcd_rec, Nat.gcd_comm]; exact hg) (by omega)

theorem gcd_some (a b : Int) (ha : -9223372036854775808 ≤ a ∧ a < 9223372036854775808) (hb : -9223372036854775808 ≤ b ∧ b < 9223372036854775808)
    (k : Nat) (hk : b.natAbs < k) : arith_Gcd.f k a b = some ((Nat.gcd a.natAbs b.natAbs : Nat) : Int) := by
  unfold arith_Gcd.f
  rw [size_some a ha, size_some b hb]
  simp only [Option.bind_some]
  exact loop _ _ _ hk

end Gcds
open Gcds

theorem ArithGcds : distafflaw01_ArithGcds.Pure := by
  intro a b wa wb
  have ha := wf_i64 wa
  have hb := wf_i64 wb
  refine ⟨a.natAbs + b.natAbs + 20, ?_⟩
  generalize hK : a.natAbs + b.natAbs + 20 = K
  obtain ⟨k, rfl⟩ : ∃ m, K = m + 5 := ⟨K - 5, by omega⟩
  unfold distafflaw01_ArithGcds.f
  rw [gcd_some a b ha hb _ (by omega)]
  simp only [Option.bind_some]
  by_cases hz : a = 0 ∧ b = 0
  · obtain ⟨rfl, rfl⟩ := hz
    rw [if_pos rfl]
    simp only [distafflaw01_ArithGcds.j0]
    rw [if_pos (by rfl), awake]; rfl
  · have e : (if a = 0 then distafflaw01_ArithGcds.j0 (k + 5) a b ((Nat.gcd a.natAbs b.natAbs : Nat) : Int) (b == 0) else distafflaw01_ArithGcds.j0 (k + 5) a b ((Nat.gcd a.natAbs b.natAbs : Nat) : Int) false) = distafflaw01_ArithGcds.j0 (k + 5) a b ((Nat.gcd a.natAbs b.natAbs : Nat) : Int) false := by
      by_cases h0 : a = 0
      · rw [if_pos h0, show (b == 0) = false by simp; omega]
      · rw [if_neg h0]
    rw [e]
    have hg : 0 < Nat.gcd a.natAbs b.natAbs := by
      rcases Nat.eq_zero_or_pos (Nat.gcd a.natAbs b.natAbs) with h | h
      · have := Nat.gcd_eq_zero_iff.1 h; omega
      · exact h
    have e0 : distafflaw01_ArithGcds.j0 (k + 5) a b ((Nat.gcd a.natAbs b.natAbs : Nat) : Int) false = distafflaw01_ArithGcds.j1 (k + 4) a b ((Nat.gcd a.natAbs b.natAbs : Nat) : Int) (a.natAbs : Int) (IntKind.u64.wrap b) := by
      simp only [distafflaw01_ArithGcds.j0]
      rw [if_neg (by decide)]
      simp only [u64]
      split <;> (congr 1; omega)
    rw [e0]
    have e1 : distafflaw01_ArithGcds.j1 (k + 4) a b ((Nat.gcd a.natAbs b.natAbs : Nat) : Int) (a.natAbs : Int) (IntKind.u64.wrap b) = distafflaw01_ArithGcds.j2 (k + 3) a b ((Nat.gcd a.natAbs b.natAbs : Nat) : Int) (a.natAbs : Int) (b.natAbs : Int) := by
      simp only [distafflaw01_ArithGcds.j1, u64]
      split <;> (congr 1; omega)
    rw [e1]
    simp only [distafflaw01_ArithGcds.j2]
    have d1 : a.natAbs % Nat.gcd a.natAbs b.natAbs = 0 := Nat.mod_eq_zero_of_dvd (Nat.gcd_dvd_left _ _)
    have d2 : b.natAbs % Nat.gcd a.natAbs b.natAbs = 0 := Nat.mod_eq_zero_of_dvd (Nat.gcd_dvd_right _ _)
    rw [if_neg (by omega), tmod_nat, tmod_nat, d1, d2, if_pos (by rfl), if_pos (by rfl), gcd_some b a hb ha _ (by omega)]
    simp only [Option.bind_some]
    rw [Nat.gcd_comm b.natAbs a.natAbs, show (((Nat.gcd a.natAbs b.natAbs : Nat) : Int) != ((Nat.gcd a.natAbs b.natAbs : Nat) : Int)) = false by simp]
    simp only [distafflaw01_ArithGcds.j3]
    rw [if_neg (by decide), if_neg (by omega)]
    have q1 : IntKind.u64.wrap (Int.tdiv (a.natAbs : Int) ((Nat.gcd a.natAbs b.natAbs : Nat) : Int)) = ((a.natAbs / Nat.gcd a.natAbs b.natAbs : Nat) : Int) := by
      rw [Int.tdiv_eq_ediv_of_nonneg (by omega), u64, ← Int.natCast_ediv]
      have := Nat.div_le_self a.natAbs (Nat.gcd a.natAbs b.natAbs)
      exact Int.emod_eq_of_lt (Int.natCast_nonneg _) (by omega)
    have q2 : IntKind.u64.wrap (Int.tdiv (b.natAbs : Int) ((Nat.gcd a.natAbs b.natAbs : Nat) : Int)) = ((b.natAbs / Nat.gcd a.natAbs b.natAbs : Nat) : Int) := by
      rw [Int.tdiv_eq_ediv_of_nonneg (by omega), u64, ← Int.natCast_ediv]
      have := Nat.div_le_self b.natAbs (Nat.gcd a.natAbs b.natAbs)
      exact Int.emod_eq_of_lt (Int.natCast_nonneg _) (by omega)
    rw [q1, q2]
    apply loop2
    · exact Nat.coprime_div_gcd_div_gcd hg
    · have := Nat.div_le_self b.natAbs (Nat.gcd a.natAbs b.natAbs)
      omega

end Go.Proofs.Ytoojmpcpbnlkaaa.Pure
