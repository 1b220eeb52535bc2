/- What the law ArithPowers answers: true, at any number, given that the table reads as the program lays it. -/
import Derived.Test.YtoojmpcpbnlkaaaDoorMPow1
namespace Go.Proofs.YtoojmpcpbnlkaaaDoor.Pow
open Go.RowKit Go.Proofs.YtoojmpcpbnlkaaaDoorW.PrintWords Go.Proofs.YtoojmpcpbnlkaaaDoorW.PrintLast Go.Proofs.YtoojmpcpbnlkaaaDoorW.PrintMore

theorem awake_calls (w : World) : Calls Tryd.prog 5 #[] w fun e w' => e = .returned (.bool true) ∧ Drawn0 w w' :=
  Go.Proofs.YtoojmpcpbnlkaaaDoor.PArithPowers.distafflaw01_awake.calls 1 true w (by kernel_rfl)

theorem pow_wrap (k : Nat) (h : k < 63) : wrap64 (2 ^ k) = 2 ^ k := by
  have h1 : (0 : Int) < 2 ^ k := Int.pow_pos (by decide)
  have h2 : (2 : Nat) ^ k ≤ 2 ^ 62 := Nat.pow_le_pow_right (by decide) (by omega)
  have h3 : (2 : Int) ^ k ≤ 2 ^ 62 := by exact_mod_cast h2
  unfold wrap64
  omega

set_option maxHeartbeats 400000 in
theorem law_yes (n : Int) (i0 : Nat) (hi : i0 < 63) (hn : n = 2 ^ i0) (w : World) (hp : Calls Tryd.prog 4 #[.int .i64 n] w fun e w' => e = .returned (.tuple #[.int .i64 (i0 : Int), .bool true]) ∧ Drawn0 w w') :
    Calls Tryd.prog 3 #[.int .i64 n] w fun e w' => e = .returned (.bool true) ∧ Drawn0 w w' := by
  have HP := Lib.hid hp
  have HN := Lib.hid (show ∀ k, k < 63 → ((n == wrap64 (2 ^ k)) = decide (k = i0)) from fun k hk => by
    rw [pow_wrap k hk, hn, Bool.eq_iff_iff, beq_iff_eq, decide_eq_true_iff]
    constructor
    · intro h
      have h' : (2 : Nat) ^ i0 = 2 ^ k := by exact_mod_cast h
      exact ((Nat.pow_right_inj (by decide)).1 h').symm
    · intro h; rw [h])
  clear hp hn
  go_enter Tryd.func3, Tryd.ntmps3
  go_wp2_with (first | ((go_at_call 4); refine HP.out.mono ?_; rintro e w' ⟨rfl, ⟨nd, rfl⟩⟩))
  go_loopw [5] (fun i wr => ∃ k : Nat, k ≤ i0 ∧ i = .int .i64 k ∧ ∃ nd, wr = w.drewN nd) (fun i _ => (63 - intOf i).toNat)
  case atStart => exact ⟨0, by omega, rfl, _, rfl⟩
  case round =>
    obtain ⟨k, hk, rfl, nd, rfl⟩ := hrel
    by_cases hlt : k = i0
    · subst hlt
      have ht : (n == wrap64 (2 ^ k)) = true := by rw [HN.out k hi]; simp
      go_wp2_with (first | ((go_at_call 5); refine (awake_calls _).mono ?_; rintro e w' ⟨rfl, ⟨nd2, rfl⟩⟩))
      go_ret
      exact ⟨rfl, ⟨_, rfl⟩⟩
    · have ht : (n == wrap64 (2 ^ k)) = false := by rw [HN.out k (by omega)]; simpa using hlt
      have hk2 : k < 63 := by omega
      have hk3 : k + 1 ≤ i0 := by omega
      clear hlt
      go_wp2
      go_roundw
      case rel => exact ⟨k + 1, by omega, by go_num, nd, rfl⟩
      case measure => simp [intOf]; omega

set_option maxHeartbeats 400000 in
theorem law_no (n : Int) (hn : ∀ k, k < 63 → n ≠ 2 ^ k) (w : World) (hp : Calls Tryd.prog 4 #[.int .i64 n] w fun e w' => e = .returned (.tuple #[.int .i64 0, .bool false]) ∧ Drawn0 w w') :
    Calls Tryd.prog 3 #[.int .i64 n] w fun e w' => e = .returned (.bool true) ∧ Drawn0 w w' := by
  have HP := Lib.hid hp
  have HN := Lib.hid (show ∀ k, k < 63 → ((n == wrap64 (2 ^ k)) = false) from fun k hk => by
    rw [pow_wrap k hk]; simpa using hn k hk)
  clear hp hn
  go_enter Tryd.func3, Tryd.ntmps3
  go_wp2_with (first | ((go_at_call 4); refine HP.out.mono ?_; rintro e w' ⟨rfl, ⟨nd, rfl⟩⟩))
  go_loopw [5] (fun i wr => ∃ k : Nat, k ≤ 63 ∧ i = .int .i64 k ∧ ∃ nd, wr = w.drewN nd) (fun i _ => (63 - intOf i).toNat)
  case atStart => exact ⟨0, by omega, rfl, _, rfl⟩
  case round =>
    obtain ⟨k, hk, rfl, nd, rfl⟩ := hrel
    by_cases hlt : k < 63
    · have ht := HN.out k hlt
      go_wp2
      go_roundw
      case rel => exact ⟨k + 1, by omega, by go_num, nd, rfl⟩
      case measure => simp [intOf]; omega
    · go_wp2_with (first | ((go_at_call 5); refine (awake_calls _).mono ?_; rintro e w' ⟨rfl, ⟨nd2, rfl⟩⟩))
      go_ret
      exact ⟨rfl, ⟨_, rfl⟩⟩

/-- the whole law, given the table -/
theorem law_calls (n : Int) (h : -9223372036854775808 ≤ n ∧ n < 9223372036854775808) (w : World) (hT : ∀ j, j < 64 → w.cell? ⟨0, j, none⟩ = some (.int .u8 (tabL.getD j 0))) :
    Calls Tryd.prog 3 #[.int .i64 n] w fun e w' => e = .returned (.bool true) ∧ Drawn0 w w' := by
  by_cases h0 : n ≤ 0
  · refine law_no n (fun k _ => ?_) w (power_low n h0 w)
    have : (0 : Int) < 2 ^ k := Int.pow_pos (by decide)
    omega
  · have h0' : 0 < n := by omega
    by_cases ha : Go.bits .and .i64 n (n - 1) = 0
    · obtain ⟨i, hi, hn⟩ := (test_iff n h0' h.2).1 ha
      obtain ⟨j, hj1, hj2⟩ := table_ok ⟨i, hi⟩
      have hb := tab_bd j
      have hp := power_yes n h0' h.2 ha j.val j.isLt (tabL.getD j.val 0) hb.1 hb.2 w (by rw [hn]; exact hj1) (hT j.val j.isLt)
      rw [hj2] at hp
      exact law_yes n i hi hn w hp
    · exact law_no n (fun k hk he => ha ((test_iff n h0' h.2).2 ⟨k, hk, he⟩)) w (power_no n h0' h.2 ha w)
end Go.Proofs.YtoojmpcpbnlkaaaDoor.Pow
