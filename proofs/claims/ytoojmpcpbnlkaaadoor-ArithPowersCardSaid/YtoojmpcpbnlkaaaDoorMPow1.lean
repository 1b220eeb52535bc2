/- What math/bits.TrailingZeros64 and arith.Power answer: for any number, given that the table reads as the program lays it. -/
import Derived.Test.YtoojmpcpbnlkaaaDoorPArithPowersx1
import Derived.Lib.Hide
namespace Go.Proofs.YtoojmpcpbnlkaaaDoor.Pow
open Go.RowKit Go.Proofs.YtoojmpcpbnlkaaaDoorW.PrintWords Go.Proofs.YtoojmpcpbnlkaaaDoorW.PrintLast Go.Proofs.YtoojmpcpbnlkaaaDoorW.PrintMore

/-- the place in the table, as the walk spells it -/
def place (x : Int) : Int := IntKind.u64.wrap (Go.bits .and .u64 x (IntKind.u64.wrap (-x)) * 285870213051353865) / 288230376151711744

set_option maxHeartbeats 400000 in
theorem tz_calls (x : Int) (hx : x ≠ 0) (j : Nat) (hj : j < 64) (v : Int) (hv0 : 0 ≤ v) (hv1 : v < 256) (w : World) (hE : place x = (j : Int)) (hc : w.cell? ⟨0, j, none⟩ = some (.int .u8 v)) :
    Calls Tryd.prog 6 #[.int .u64 x] w fun e w' => e = .returned (.int .i64 v) ∧ w = w' := by
  have h0 : (x == 0) = false := by simpa using hx
  clear hx
  unfold place at hE
  have h1 : 0 ≤ IntKind.u64.wrap (Go.bits .and .u64 x (IntKind.u64.wrap (-x)) * 285870213051353865) / 288230376151711744 := by rw [hE]; omega
  have h2 : IntKind.u64.wrap (Go.bits .and .u64 x (IntKind.u64.wrap (-x)) * 285870213051353865) / 288230376151711744 < 64 := by rw [hE]; omega
  have h3 : w.cell? ⟨0, (IntKind.u64.wrap (Go.bits .and .u64 x (IntKind.u64.wrap (-x)) * 285870213051353865) / 288230376151711744).toNat, none⟩ = some (.int .u8 v) := by rw [hE]; exact hc
  clear hE hc
  go_enter Tryd.func6, Tryd.ntmps6
  go_wp2
  go_ret
  exact ⟨rfl, rfl⟩

def tabL : List Int := [0, 1, 56, 2, 57, 49, 28, 3, 61, 58, 42, 50, 38, 29, 17, 4, 62, 47, 59, 36, 45, 43, 51, 22, 53, 39, 33, 30, 24, 18, 12, 5, 63, 55, 48, 27, 60, 41, 37, 16, 46, 35, 44, 21, 52, 32, 23, 11, 54, 26, 40, 15, 34, 20, 31, 10, 25, 14, 19, 9, 13, 8, 7, 6]

theorem table_ok : ∀ i : Fin 63, ∃ j : Fin 64, place (2 ^ i.val) = (j.val : Int) ∧ tabL.getD j.val 0 = (i.val : Int) := by decide +kernel

theorem tab_bd : ∀ j : Fin 64, 0 ≤ tabL.getD j.val 0 ∧ tabL.getD j.val 0 < 256 := by decide +kernel

theorem nat_power (n : Nat) : 0 < n → n &&& (n - 1) = 0 → ∃ i, n = 2 ^ i := by
  induction n using Nat.strongRecOn with
  | _ n ih =>
    intro h0 h
    have hd := congrArg (· / 2) h
    simp only [Nat.and_div_two, Nat.zero_div] at hd
    by_cases c : n % 2 = 0
    · have e : (n - 1) / 2 = n / 2 - 1 := by omega
      rw [e] at hd
      obtain ⟨i, hi⟩ := ih (n / 2) (by omega) (by omega) hd
      exact ⟨i + 1, by rw [Nat.pow_succ]; omega⟩
    · have e : (n - 1) / 2 = n / 2 := by omega
      rw [e, Nat.and_self] at hd
      exact ⟨0, by omega⟩

theorem bits_nat_and (a b : Nat) (ha : a < 9223372036854775808) (hb : b < 9223372036854775808) : Go.bits .and .i64 (a : Int) (b : Int) = ((a &&& b : Nat) : Int) :=
  (Go.bits_nat .i64 63 (by decide) (fun n h0 h1 => by
    have h1' : n < 9223372036854775808 := h1
    rw [IntKind.wrap_i64]; omega) a b ha hb).1

/-- a power of two, told by the test -/
theorem test_iff (n : Int) (h0 : 0 < n) (hn : n < 9223372036854775808) : Go.bits .and .i64 n (n - 1) = 0 ↔ ∃ i : Nat, i < 63 ∧ n = 2 ^ i := by
  obtain ⟨m, rfl⟩ := Int.eq_ofNat_of_zero_le (Int.le_of_lt h0)
  have e : ((m : Int) - 1) = ((m - 1 : Nat) : Int) := by omega
  rw [e, bits_nat_and m (m - 1) (by omega) (by omega)]
  constructor
  · intro h
    obtain ⟨i, hi⟩ := nat_power m (by omega) (by omega)
    refine ⟨i, ?_, by rw [hi]; simp⟩
    apply Classical.byContradiction
    intro hc
    have : 2 ^ 63 ≤ 2 ^ i := Nat.pow_le_pow_right (by decide) (by omega)
    omega
  · rintro ⟨i, _, hi⟩
    have hi' : m = 2 ^ i := by
      have : ((m : Nat) : Int) = ((2 ^ i : Nat) : Int) := by rw [hi]; simp
      omega
    rw [hi', Nat.and_two_pow_sub_one_eq_mod, Nat.mod_self]; rfl

set_option maxHeartbeats 400000 in
theorem power_yes (n : Int) (h0 : 0 < n) (hn : n < 9223372036854775808) (ha : Go.bits .and .i64 n (n - 1) = 0) (j : Nat) (hj : j < 64) (v : Int) (hv0 : 0 ≤ v) (hv1 : v < 256) (w : World) (hE : place n = (j : Int)) (hc : w.cell? ⟨0, j, none⟩ = some (.int .u8 v)) :
    Calls Tryd.prog 4 #[.int .i64 n] w fun e w' => e = .returned (.tuple #[.int .i64 v, .bool true]) ∧ Drawn0 w w' := by
  have b1 : decide (n ≤ 0) = false := by simp; omega
  have b2 : (Go.bits .and .i64 n (n - 1) != 0) = false := by simp [ha]
  have hu : IntKind.u64.wrap n = n := by simp [IntKind.wrap, IntKind.bits, IntKind.signed]; omega
  have ht := Lib.hid (tz_calls n (by omega) j hj v hv0 hv1 w hE hc)
  have hne : n - 1 < 9223372036854775808 := by omega
  have hlo : 0 ≤ n - 1 := by omega
  clear hE hc ha
  go_enter Tryd.func4, Tryd.ntmps4
  go_wp2_with (first | ((go_at_call 6); refine ht.out.mono ?_; rintro e w' ⟨rfl, rfl⟩))
  go_ret2
  exact ⟨rfl, Drawn0.refl _⟩

set_option maxHeartbeats 400000 in
theorem power_low (n : Int) (h0 : n ≤ 0) (w : World) :
    Calls Tryd.prog 4 #[.int .i64 n] w fun e w' => e = .returned (.tuple #[.int .i64 0, .bool false]) ∧ Drawn0 w w' := by
  have b1 : decide (n ≤ 0) = true := by simp; omega
  go_enter Tryd.func4, Tryd.ntmps4
  go_wp2
  go_ret2
  exact ⟨rfl, Drawn0.refl _⟩

set_option maxHeartbeats 400000 in
theorem power_no (n : Int) (h0 : 0 < n) (hn : n < 9223372036854775808) (ha : Go.bits .and .i64 n (n - 1) ≠ 0) (w : World) :
    Calls Tryd.prog 4 #[.int .i64 n] w fun e w' => e = .returned (.tuple #[.int .i64 0, .bool false]) ∧ Drawn0 w w' := by
  have b1 : decide (n ≤ 0) = false := by simp; omega
  have b2 : (Go.bits .and .i64 n (n - 1) != 0) = true := by simp [ha]
  have hne : n - 1 < 9223372036854775808 := by omega
  have hlo : 0 ≤ n - 1 := by omega
  clear ha
  go_enter Tryd.func4, Tryd.ntmps4
  go_wp2
  go_ret2
  exact ⟨rfl, Drawn0.refl _⟩
end Go.Proofs.YtoojmpcpbnlkaaaDoor.Pow
