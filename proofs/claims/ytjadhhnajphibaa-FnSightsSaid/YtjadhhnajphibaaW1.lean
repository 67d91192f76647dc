/- The smallest functions: ranges, codes, sizes, powers. -/
import Derived.Test.YtjadhhnajphibaaB
set_option linter.unusedVariables false
set_option linter.unusedSimpArgs false
namespace Go.Proofs.Ytjadhhnajphibaa
open Go.RowKit Go.Proofs.YtjadhhnajphibaaW.PrintWords

theorem within_ok (a lo hi : Int) (w : World) : Calls Try.prog 54 #[.int .i64 a, .int .i64 lo, .int .i64 hi] w fun e w' => e = .returned (.bool (inB a lo hi)) ∧ w = w' := by
  by_cases h1 : lo ≤ a
  · by_cases h2 : a ≤ hi
    · have h := Lib.hid (inB_yes h1 h2)
      go_enter Try.func54, Try.ntmps54
      go_wp2
      go_ret
      exact ⟨ret_bool h.out.symm, rfl⟩
    · have h := Lib.hid (inB_no (n := a) (low := lo) (high := hi) (by omega))
      go_enter Try.func54, Try.ntmps54
      go_wp2
      go_ret
      exact ⟨ret_bool h.out.symm, rfl⟩
  · have h := Lib.hid (inB_no (n := a) (low := lo) (high := hi) (by omega))
    go_enter Try.func54, Try.ntmps54
    go_wp2
    go_ret
    exact ⟨ret_bool h.out.symm, rfl⟩

theorem l00In_ok (a lo hi : Int) (w : World) : Calls Try.prog 62 #[.int .i64 a, .int .i64 lo, .int .i64 hi] w fun e w' => e = .returned (.bool (inB a lo hi)) ∧ w = w' := by
  by_cases h1 : lo ≤ a
  · by_cases h2 : a ≤ hi
    · have h := Lib.hid (inB_yes h1 h2)
      go_enter Try.func62, Try.ntmps62
      go_wp2
      go_ret
      exact ⟨ret_bool h.out.symm, rfl⟩
    · have h := Lib.hid (inB_no (n := a) (low := lo) (high := hi) (by omega))
      go_enter Try.func62, Try.ntmps62
      go_wp2
      go_ret
      exact ⟨ret_bool h.out.symm, rfl⟩
  · have h := Lib.hid (inB_no (n := a) (low := lo) (high := hi) (by omega))
    go_enter Try.func62, Try.ntmps62
    go_wp2
    go_ret
    exact ⟨ret_bool h.out.symm, rfl⟩

theorem unless_ok (b : Bool) (c : Int) (w : World) : Calls Try.prog 53 #[.bool b, .int .i64 c] w fun e w' => e = .returned (.int .i64 (unlessV b c)) ∧ w = w' := by
  rcases b with _ | _
  all_goals
    go_enter Try.func53, Try.ntmps53
    go_wp2
    go_ret
    exact ⟨rfl, rfl⟩

/-- the code of letters, a length and a distance. -/
def apartV (q n d : Int) : Int := unlessV (inB q 2 37 && inB n 1 8 && inB d 1 n) 2
theorem apartCode_ok (q n d : Int) (w : World) : Calls Try.prog 52 #[.int .i64 q, .int .i64 n, .int .i64 d] w fun e w' => e = .returned (.int .i64 (apartV q n d)) ∧ w = w' := by
  rcases h1 : inB q 2 37 with _ | _
  · have h := Lib.hid (show apartV q n d = unlessV false 2 by simp [apartV, h1])
    go_enter Try.func52, Try.ntmps52
    go_wp2_with (first | (go_at_call 54; refine (within_ok _ _ _ _).mono ?_; rintro e w' ⟨rfl, rfl⟩) | (go_at_call 53; refine (unless_ok _ _ _).mono ?_; rintro e w' ⟨rfl, rfl⟩))
    go_ret
    exact ⟨ret_int h.out.symm, rfl⟩
  · rcases h2 : inB n 1 8 with _ | _
    · have h := Lib.hid (show apartV q n d = unlessV false 2 by simp [apartV, h1, h2])
      go_enter Try.func52, Try.ntmps52
      go_wp2_with (first | (go_at_call 54; refine (within_ok _ _ _ _).mono ?_; rintro e w' ⟨rfl, rfl⟩) | (go_at_call 53; refine (unless_ok _ _ _).mono ?_; rintro e w' ⟨rfl, rfl⟩))
      go_ret
      exact ⟨ret_int h.out.symm, rfl⟩
    · have h := Lib.hid (show apartV q n d = unlessV (inB d 1 n) 2 by simp [apartV, h1, h2])
      go_enter Try.func52, Try.ntmps52
      go_wp2_with (first | (go_at_call 54; refine (within_ok _ _ _ _).mono ?_; rintro e w' ⟨rfl, rfl⟩) | (go_at_call 53; refine (unless_ok _ _ _).mono ?_; rintro e w' ⟨rfl, rfl⟩))
      go_ret
      exact ⟨ret_int h.out.symm, rfl⟩

/-- powers. -/
def pw (q k : Nat) : Nat := q ^ k
theorem pw_succ (q k : Nat) : pw q (k + 1) = pw q k * q := Nat.pow_succ ..
theorem pw_bd {q k : Nat} (hq : q ≤ 37) (hk : k ≤ 8) : pw q k ≤ 3512479453921 := by
  have h1 : q ^ k ≤ 37 ^ k := Nat.pow_le_pow_left hq k
  have h2 : 37 ^ k ≤ 37 ^ 8 := Nat.pow_le_pow_right (by omega) hk
  exact Nat.le_trans h1 h2
theorem pw_step {q k : Nat} (hq : q ≤ 37) (hk : k + 1 ≤ 8) : (0 : Int) ≤ (pw q k : Int) * q ∧ (pw q k : Int) * q ≤ 3512479453921 := by
  have h := pw_bd hq hk
  rw [pw_succ] at h
  have h3 : ((pw q k * q : Nat) : Int) = (pw q k : Int) * q := by push_cast; rfl
  omega

set_option maxHeartbeats 1000000 in
theorem power_ok (a n : Int) (ha : 0 ≤ a) (ha' : a ≤ 37) (hn : 0 ≤ n) (hn' : n ≤ 8) (w : World) : Calls Try.prog 55 #[.int .i64 a, .int .i64 n] w fun e w' => e = .returned (.int .i64 (pw a.toNat n.toNat)) ∧ w = w' := by
  obtain ⟨q, rfl⟩ := Int.eq_ofNat_of_zero_le ha
  obtain ⟨m, rfl⟩ := Int.eq_ofNat_of_zero_le hn
  rw [Int.toNat_natCast, Int.toNat_natCast]
  go_enter Try.func55, Try.ntmps55
  go_wp2
  go_loop [5, 7] (fun x i => ∃ k : Nat, k ≤ m ∧ i = .int .i64 k ∧ x = .int .i64 (pw q k)) (fun _ i => m - (intOf i).toNat)
  case atStart => exact ⟨0, Nat.zero_le _, rfl, rfl⟩
  case round =>
    obtain ⟨k, hk, rfl, rfl⟩ := hrel
    by_cases hlt : k < m
    · have hp := pw_step (q := q) (k := k) (by omega) (by omega)
      obtain ⟨hp1, hp2⟩ := hp
      have HS := Lib.hid (pw_succ q k)
      go_wp2
      go_round
      case rel => exact ⟨k + 1, by omega, by go_num, by rw [HS.out]; go_num⟩
      case measure => simp [intOf]; omega
    · go_wp2
      go_ret
      obtain rfl : k = m := by omega
      exact ⟨rfl, rfl⟩

set_option maxHeartbeats 1000000 in
theorem l05Power_ok (a n : Int) (ha : 0 ≤ a) (ha' : a ≤ 37) (hn : 0 ≤ n) (hn' : n ≤ 8) (w : World) : Calls Try.prog 63 #[.int .i64 a, .int .i64 n] w fun e w' => e = .returned (.int .i64 (pw a.toNat n.toNat)) ∧ w = w' := by
  obtain ⟨q, rfl⟩ := Int.eq_ofNat_of_zero_le ha
  obtain ⟨m, rfl⟩ := Int.eq_ofNat_of_zero_le hn
  rw [Int.toNat_natCast, Int.toNat_natCast]
  go_enter Try.func63, Try.ntmps63
  go_wp2
  go_loop [1, 5] (fun i x => ∃ k d : Nat, k + d = m ∧ i = .int .i64 d ∧ x = .int .i64 (pw q k)) (fun i _ => (intOf i).toNat)
  case atStart => exact ⟨0, m, by omega, rfl, rfl⟩
  case round =>
    obtain ⟨k, d, hk, rfl, rfl⟩ := hrel
    have HK := Lib.hid hk
    have hk1 : k + d ≤ m := by omega
    clear hk
    by_cases hlt : 0 < d
    · have hp := pw_step (q := q) (k := k) (by omega) (by omega)
      obtain ⟨hp1, hp2⟩ := hp
      have HS := Lib.hid (pw_succ q k)
      go_wp2
      go_round
      case rel => exact ⟨k + 1, d - 1, by have := HK.out; omega, by go_num, by rw [HS.out]; go_num⟩
      case measure => simp [intOf]; omega
    · go_wp2
      go_ret
      obtain rfl : k = m := by have := HK.out; omega
      exact ⟨rfl, rfl⟩
end Go.Proofs.Ytjadhhnajphibaa
