/- The bound of the spheres. -/
import Derived.Test.YtjadhhnajphibaaW8
set_option linter.unusedVariables false
set_option linter.unusedSimpArgs false
namespace Go.Proofs.Ytjadhhnajphibaa
open Go.RowKit Go.Proofs.YtjadhhnajphibaaW.PrintWords

/-- how many words of m letters there can be, by the words that lie near each. -/
def nearV (q m d : Nat) : Nat := if d ≤ 2 then 1 else 1 + m * (q - 1)
def sphV (q m d : Nat) : Nat := pw q m / nearV q m d

set_option maxHeartbeats 2000000 in
theorem sph1 (q m : Nat) (hq : 2 ≤ q) (hq' : q ≤ 4) (hm : 1 ≤ m) (hm' : m ≤ 4) (w : World) :
    Calls Try.prog 13 #[.int .i64 q, .int .i64 m, .int .i64 1] w fun e w' => e = .returned (.tuple #[.int .i64 (sphV q m 1), .int .i64 0]) ∧ w = w' := by
  have HAP : Hid (∀ W, Calls Try.prog 52 #[.int .i64 q, .int .i64 m, .int .i64 1] W fun e w' => e = .returned (.int .i64 0) ∧ W = w') := fun W => by
    have := apartCode_ok q m 1 W
    rwa [show apartV q m 1 = 0 from apartV_0 (d := 1) hq (by omega) (by omega) (by omega) (by omega) (by omega)] at this
  have HP1 : Hid (∀ W, Calls Try.prog 55 #[.int .i64 ((q : Int) - 1), .int .i64 0] W fun e w' => e = .returned (.int .i64 1) ∧ W = w') := fun W => by
    have := power_ok ((q : Int) - 1) 0 (by omega) (by omega) (by omega) (by omega) W
    simpa [pw] using this
  have HP2 : Hid (∀ W, Calls Try.prog 55 #[.int .i64 ((q : Int) - 1), .int .i64 1] W fun e w' => e = .returned (.int .i64 ((q : Int) - 1)) ∧ W = w') := fun W => by
    have := power_ok ((q : Int) - 1) 1 (by omega) (by omega) (by omega) (by omega) W
    have e1 : ((pw ((q : Int) - 1).toNat (1 : Int).toNat : Nat) : Int) = (q : Int) - 1 := by simp [pw]; omega
    rwa [e1] at this
  have hpq : ∃ N, pw q m = N := ⟨_, rfl⟩
  obtain ⟨N, hN⟩ := hpq
  have hNs : N ≤ 256 := by rw [← hN]; exact pw_small hq' hm'
  have HP3 : Hid (∀ W, Calls Try.prog 55 #[.int .i64 q, .int .i64 m] W fun e w' => e = .returned (.int .i64 N) ∧ W = w') := fun W => by
    have := power_ok q m (by omega) (by omega) (by omega) (by omega) W
    rwa [Int.toNat_natCast, Int.toNat_natCast, hN] at this
  have HV := Lib.hid (show sphV q m 1 = N / nearV q m 1 by unfold sphV; rw [hN])
  clear hN
  have hprod : 0 ≤ (m : Int) * ((q : Int) - 1) ∧ (m : Int) * ((q : Int) - 1) ≤ 12 := by
    have h1 : m = 1 ∨ m = 2 ∨ m = 3 ∨ m = 4 := by omega
    rcases h1 with rfl | rfl | rfl | rfl <;> omega
  obtain ⟨hp0, hp1⟩ := hprod
  have hprod2 : 0 ≤ (m : Int) * ((m : Int) - 1) ∧ (m : Int) * ((m : Int) - 1) ≤ 12 := by
    have h1 : m = 1 ∨ m = 2 ∨ m = 3 ∨ m = 4 := by omega
    rcases h1 with rfl | rfl | rfl | rfl <;> omega
  obtain ⟨hp2, hp3⟩ := hprod2
  go_enter Try.func13, Try.ntmps13
  go_wp2_with fail
  refine (HAP.out _).mono ?_
  rintro e w' ⟨rfl, rfl⟩
  go_wp2_with fail
  go_loop [9, 10, 11] (fun nr wy i => (i = .int .i64 0 ∧ nr = .int .i64 0 ∧ wy = .int .i64 1) ∨ (i = .int .i64 1 ∧ nr = .int .i64 1 ∧ wy = .int .i64 m) ∨ (i = .int .i64 2 ∧ nr = .int .i64 (1 + (m : Int) * ((q : Int) - 1)) ∧ ∃ x, wy = .int .i64 x ∧ Hid (3 ≤ 1))) (fun _ _ i => 3 - (intOf i).toNat)
  case atStart => exact .inl ⟨rfl, rfl, rfl⟩
  case round =>
    rcases hrel with ⟨rfl, rfl, rfl⟩ | ⟨rfl, rfl, rfl⟩ | ⟨rfl, rfl, x, rfl, H3⟩
    · go_wp2_with fail
      refine (HP1.out _).mono ?_
      rintro e w' ⟨rfl, rfl⟩
      go_wp2_with fail
      go_round
      case rel => exact .inr (.inl ⟨rfl, rfl, by go_num⟩)
      case measure => first|(simp [intOf]; done)|(simp [intOf]; omega)
    · go_wp2_with fail
      refine (HP3.out _).mono ?_
      rintro e w' ⟨rfl, rfl⟩
      go_wp2_with fail
      go_ret2
      exact ⟨by rw [HV.out]; simp [nearV], rfl⟩
    · exact absurd H3.out (by omega)

set_option maxHeartbeats 2000000 in
theorem sph2 (q m : Nat) (hq : 2 ≤ q) (hq' : q ≤ 4) (hm : 2 ≤ m) (hm' : m ≤ 4) (w : World) :
    Calls Try.prog 13 #[.int .i64 q, .int .i64 m, .int .i64 2] w fun e w' => e = .returned (.tuple #[.int .i64 (sphV q m 2), .int .i64 0]) ∧ w = w' := by
  have HAP : Hid (∀ W, Calls Try.prog 52 #[.int .i64 q, .int .i64 m, .int .i64 2] W fun e w' => e = .returned (.int .i64 0) ∧ W = w') := fun W => by
    have := apartCode_ok q m 2 W
    rwa [show apartV q m 2 = 0 from apartV_0 (d := 2) hq (by omega) (by omega) (by omega) (by omega) (by omega)] at this
  have HP1 : Hid (∀ W, Calls Try.prog 55 #[.int .i64 ((q : Int) - 1), .int .i64 0] W fun e w' => e = .returned (.int .i64 1) ∧ W = w') := fun W => by
    have := power_ok ((q : Int) - 1) 0 (by omega) (by omega) (by omega) (by omega) W
    simpa [pw] using this
  have HP2 : Hid (∀ W, Calls Try.prog 55 #[.int .i64 ((q : Int) - 1), .int .i64 1] W fun e w' => e = .returned (.int .i64 ((q : Int) - 1)) ∧ W = w') := fun W => by
    have := power_ok ((q : Int) - 1) 1 (by omega) (by omega) (by omega) (by omega) W
    have e1 : ((pw ((q : Int) - 1).toNat (1 : Int).toNat : Nat) : Int) = (q : Int) - 1 := by simp [pw]; omega
    rwa [e1] at this
  have hpq : ∃ N, pw q m = N := ⟨_, rfl⟩
  obtain ⟨N, hN⟩ := hpq
  have hNs : N ≤ 256 := by rw [← hN]; exact pw_small hq' hm'
  have HP3 : Hid (∀ W, Calls Try.prog 55 #[.int .i64 q, .int .i64 m] W fun e w' => e = .returned (.int .i64 N) ∧ W = w') := fun W => by
    have := power_ok q m (by omega) (by omega) (by omega) (by omega) W
    rwa [Int.toNat_natCast, Int.toNat_natCast, hN] at this
  have HV := Lib.hid (show sphV q m 2 = N / nearV q m 2 by unfold sphV; rw [hN])
  clear hN
  have hprod : 0 ≤ (m : Int) * ((q : Int) - 1) ∧ (m : Int) * ((q : Int) - 1) ≤ 12 := by
    have h1 : m = 1 ∨ m = 2 ∨ m = 3 ∨ m = 4 := by omega
    rcases h1 with rfl | rfl | rfl | rfl <;> omega
  obtain ⟨hp0, hp1⟩ := hprod
  have hprod2 : 0 ≤ (m : Int) * ((m : Int) - 1) ∧ (m : Int) * ((m : Int) - 1) ≤ 12 := by
    have h1 : m = 1 ∨ m = 2 ∨ m = 3 ∨ m = 4 := by omega
    rcases h1 with rfl | rfl | rfl | rfl <;> omega
  obtain ⟨hp2, hp3⟩ := hprod2
  go_enter Try.func13, Try.ntmps13
  go_wp2_with fail
  refine (HAP.out _).mono ?_
  rintro e w' ⟨rfl, rfl⟩
  go_wp2_with fail
  go_loop [9, 10, 11] (fun nr wy i => (i = .int .i64 0 ∧ nr = .int .i64 0 ∧ wy = .int .i64 1) ∨ (i = .int .i64 1 ∧ nr = .int .i64 1 ∧ wy = .int .i64 m) ∨ (i = .int .i64 2 ∧ nr = .int .i64 (1 + (m : Int) * ((q : Int) - 1)) ∧ ∃ x, wy = .int .i64 x ∧ Hid (3 ≤ 2))) (fun _ _ i => 3 - (intOf i).toNat)
  case atStart => exact .inl ⟨rfl, rfl, rfl⟩
  case round =>
    rcases hrel with ⟨rfl, rfl, rfl⟩ | ⟨rfl, rfl, rfl⟩ | ⟨rfl, rfl, x, rfl, H3⟩
    · go_wp2_with fail
      refine (HP1.out _).mono ?_
      rintro e w' ⟨rfl, rfl⟩
      go_wp2_with fail
      go_round
      case rel => exact .inr (.inl ⟨rfl, rfl, by go_num⟩)
      case measure => first|(simp [intOf]; done)|(simp [intOf]; omega)
    · go_wp2_with fail
      refine (HP3.out _).mono ?_
      rintro e w' ⟨rfl, rfl⟩
      go_wp2_with fail
      go_ret2
      exact ⟨by rw [HV.out]; simp [nearV], rfl⟩
    · exact absurd H3.out (by omega)

set_option maxHeartbeats 2000000 in
theorem sph3 (q m : Nat) (hq : 2 ≤ q) (hq' : q ≤ 4) (hm : 3 ≤ m) (hm' : m ≤ 4) (w : World) :
    Calls Try.prog 13 #[.int .i64 q, .int .i64 m, .int .i64 3] w fun e w' => e = .returned (.tuple #[.int .i64 (sphV q m 3), .int .i64 0]) ∧ w = w' := by
  have HAP : Hid (∀ W, Calls Try.prog 52 #[.int .i64 q, .int .i64 m, .int .i64 3] W fun e w' => e = .returned (.int .i64 0) ∧ W = w') := fun W => by
    have := apartCode_ok q m 3 W
    rwa [show apartV q m 3 = 0 from apartV_0 (d := 3) hq (by omega) (by omega) (by omega) (by omega) (by omega)] at this
  have HP1 : Hid (∀ W, Calls Try.prog 55 #[.int .i64 ((q : Int) - 1), .int .i64 0] W fun e w' => e = .returned (.int .i64 1) ∧ W = w') := fun W => by
    have := power_ok ((q : Int) - 1) 0 (by omega) (by omega) (by omega) (by omega) W
    simpa [pw] using this
  have HP2 : Hid (∀ W, Calls Try.prog 55 #[.int .i64 ((q : Int) - 1), .int .i64 1] W fun e w' => e = .returned (.int .i64 ((q : Int) - 1)) ∧ W = w') := fun W => by
    have := power_ok ((q : Int) - 1) 1 (by omega) (by omega) (by omega) (by omega) W
    have e1 : ((pw ((q : Int) - 1).toNat (1 : Int).toNat : Nat) : Int) = (q : Int) - 1 := by simp [pw]; omega
    rwa [e1] at this
  have hpq : ∃ N, pw q m = N := ⟨_, rfl⟩
  obtain ⟨N, hN⟩ := hpq
  have hNs : N ≤ 256 := by rw [← hN]; exact pw_small hq' hm'
  have HP3 : Hid (∀ W, Calls Try.prog 55 #[.int .i64 q, .int .i64 m] W fun e w' => e = .returned (.int .i64 N) ∧ W = w') := fun W => by
    have := power_ok q m (by omega) (by omega) (by omega) (by omega) W
    rwa [Int.toNat_natCast, Int.toNat_natCast, hN] at this
  have HV := Lib.hid (show sphV q m 3 = N / nearV q m 3 by unfold sphV; rw [hN])
  clear hN
  have hprod : 0 ≤ (m : Int) * ((q : Int) - 1) ∧ (m : Int) * ((q : Int) - 1) ≤ 12 := by
    have h1 : m = 1 ∨ m = 2 ∨ m = 3 ∨ m = 4 := by omega
    rcases h1 with rfl | rfl | rfl | rfl <;> omega
  obtain ⟨hp0, hp1⟩ := hprod
  have hprod2 : 0 ≤ (m : Int) * ((m : Int) - 1) ∧ (m : Int) * ((m : Int) - 1) ≤ 12 := by
    have h1 : m = 1 ∨ m = 2 ∨ m = 3 ∨ m = 4 := by omega
    rcases h1 with rfl | rfl | rfl | rfl <;> omega
  obtain ⟨hp2, hp3⟩ := hprod2
  go_enter Try.func13, Try.ntmps13
  go_wp2_with fail
  refine (HAP.out _).mono ?_
  rintro e w' ⟨rfl, rfl⟩
  go_wp2_with fail
  go_loop [9, 10, 11] (fun nr wy i => (i = .int .i64 0 ∧ nr = .int .i64 0 ∧ wy = .int .i64 1) ∨ (i = .int .i64 1 ∧ nr = .int .i64 1 ∧ wy = .int .i64 m) ∨ (i = .int .i64 2 ∧ nr = .int .i64 (1 + (m : Int) * ((q : Int) - 1)) ∧ ∃ x, wy = .int .i64 x ∧ Hid (3 ≤ 3))) (fun _ _ i => 3 - (intOf i).toNat)
  case atStart => exact .inl ⟨rfl, rfl, rfl⟩
  case round =>
    rcases hrel with ⟨rfl, rfl, rfl⟩ | ⟨rfl, rfl, rfl⟩ | ⟨rfl, rfl, x, rfl, H3⟩
    · go_wp2_with fail
      refine (HP1.out _).mono ?_
      rintro e w' ⟨rfl, rfl⟩
      go_wp2_with fail
      go_round
      case rel => exact .inr (.inl ⟨rfl, rfl, by go_num⟩)
      case measure => first|(simp [intOf]; done)|(simp [intOf]; omega)
    · go_wp2_with fail
      refine (HP2.out _).mono ?_
      rintro e w' ⟨rfl, rfl⟩
      have hx2 : 0 ≤ (m : Int) * ((m : Int) - 1) / 2 ∧ (m : Int) * ((m : Int) - 1) / 2 ≤ 12 := by omega
      obtain ⟨hx3, hx4⟩ := hx2
      go_wp2_with fail
      go_round
      case rel => exact .inr (.inr ⟨rfl, rfl, _, rfl, by show 3 ≤ _; omega⟩)
      case measure => first|(simp [intOf]; done)|(simp [intOf]; omega)
    · have hz : (((1 : Int) + (m : Int) * ((q : Int) - 1)) == 0) = false := by simp; omega
      have HQ := Lib.hid (show (N : Int) / (1 + (m : Int) * ((q : Int) - 1)) = ((N / nearV q m 3 : Nat) : Int) by
        have : (1 + (m : Int) * ((q : Int) - 1)) = ((1 + m * (q - 1) : Nat) : Int) := by
          push_cast
          rw [show ((q - 1 : Nat) : Int) = (q : Int) - 1 by omega]
        rw [this]
        simp [nearV])
      have hdv0 : 0 ≤ (N : Int) / (1 + (m : Int) * ((q : Int) - 1)) := Int.ediv_nonneg (by omega) (by omega)
      have hdv1 : (N : Int) / (1 + (m : Int) * ((q : Int) - 1)) ≤ 256 := Int.le_trans (Int.ediv_le_self _ (by omega)) (by omega)
      go_wp2_with fail
      refine (HP3.out _).mono ?_
      rintro e w' ⟨rfl, rfl⟩
      go_wp2_with fail
      go_ret2
      exact ⟨by rw [HV.out, ← HQ.out]; rfl, rfl⟩

set_option maxHeartbeats 2000000 in
theorem sph4 (q m : Nat) (hq : 2 ≤ q) (hq' : q ≤ 4) (hm : 4 ≤ m) (hm' : m ≤ 4) (w : World) :
    Calls Try.prog 13 #[.int .i64 q, .int .i64 m, .int .i64 4] w fun e w' => e = .returned (.tuple #[.int .i64 (sphV q m 4), .int .i64 0]) ∧ w = w' := by
  have HAP : Hid (∀ W, Calls Try.prog 52 #[.int .i64 q, .int .i64 m, .int .i64 4] W fun e w' => e = .returned (.int .i64 0) ∧ W = w') := fun W => by
    have := apartCode_ok q m 4 W
    rwa [show apartV q m 4 = 0 from apartV_0 (d := 4) hq (by omega) (by omega) (by omega) (by omega) (by omega)] at this
  have HP1 : Hid (∀ W, Calls Try.prog 55 #[.int .i64 ((q : Int) - 1), .int .i64 0] W fun e w' => e = .returned (.int .i64 1) ∧ W = w') := fun W => by
    have := power_ok ((q : Int) - 1) 0 (by omega) (by omega) (by omega) (by omega) W
    simpa [pw] using this
  have HP2 : Hid (∀ W, Calls Try.prog 55 #[.int .i64 ((q : Int) - 1), .int .i64 1] W fun e w' => e = .returned (.int .i64 ((q : Int) - 1)) ∧ W = w') := fun W => by
    have := power_ok ((q : Int) - 1) 1 (by omega) (by omega) (by omega) (by omega) W
    have e1 : ((pw ((q : Int) - 1).toNat (1 : Int).toNat : Nat) : Int) = (q : Int) - 1 := by simp [pw]; omega
    rwa [e1] at this
  have hpq : ∃ N, pw q m = N := ⟨_, rfl⟩
  obtain ⟨N, hN⟩ := hpq
  have hNs : N ≤ 256 := by rw [← hN]; exact pw_small hq' hm'
  have HP3 : Hid (∀ W, Calls Try.prog 55 #[.int .i64 q, .int .i64 m] W fun e w' => e = .returned (.int .i64 N) ∧ W = w') := fun W => by
    have := power_ok q m (by omega) (by omega) (by omega) (by omega) W
    rwa [Int.toNat_natCast, Int.toNat_natCast, hN] at this
  have HV := Lib.hid (show sphV q m 4 = N / nearV q m 4 by unfold sphV; rw [hN])
  clear hN
  have hprod : 0 ≤ (m : Int) * ((q : Int) - 1) ∧ (m : Int) * ((q : Int) - 1) ≤ 12 := by
    have h1 : m = 1 ∨ m = 2 ∨ m = 3 ∨ m = 4 := by omega
    rcases h1 with rfl | rfl | rfl | rfl <;> omega
  obtain ⟨hp0, hp1⟩ := hprod
  have hprod2 : 0 ≤ (m : Int) * ((m : Int) - 1) ∧ (m : Int) * ((m : Int) - 1) ≤ 12 := by
    have h1 : m = 1 ∨ m = 2 ∨ m = 3 ∨ m = 4 := by omega
    rcases h1 with rfl | rfl | rfl | rfl <;> omega
  obtain ⟨hp2, hp3⟩ := hprod2
  go_enter Try.func13, Try.ntmps13
  go_wp2_with fail
  refine (HAP.out _).mono ?_
  rintro e w' ⟨rfl, rfl⟩
  go_wp2_with fail
  go_loop [9, 10, 11] (fun nr wy i => (i = .int .i64 0 ∧ nr = .int .i64 0 ∧ wy = .int .i64 1) ∨ (i = .int .i64 1 ∧ nr = .int .i64 1 ∧ wy = .int .i64 m) ∨ (i = .int .i64 2 ∧ nr = .int .i64 (1 + (m : Int) * ((q : Int) - 1)) ∧ ∃ x, wy = .int .i64 x ∧ Hid (3 ≤ 4))) (fun _ _ i => 3 - (intOf i).toNat)
  case atStart => exact .inl ⟨rfl, rfl, rfl⟩
  case round =>
    rcases hrel with ⟨rfl, rfl, rfl⟩ | ⟨rfl, rfl, rfl⟩ | ⟨rfl, rfl, x, rfl, H3⟩
    · go_wp2_with fail
      refine (HP1.out _).mono ?_
      rintro e w' ⟨rfl, rfl⟩
      go_wp2_with fail
      go_round
      case rel => exact .inr (.inl ⟨rfl, rfl, by go_num⟩)
      case measure => first|(simp [intOf]; done)|(simp [intOf]; omega)
    · go_wp2_with fail
      refine (HP2.out _).mono ?_
      rintro e w' ⟨rfl, rfl⟩
      have hx2 : 0 ≤ (m : Int) * ((m : Int) - 1) / 2 ∧ (m : Int) * ((m : Int) - 1) / 2 ≤ 12 := by omega
      obtain ⟨hx3, hx4⟩ := hx2
      go_wp2_with fail
      go_round
      case rel => exact .inr (.inr ⟨rfl, rfl, _, rfl, by show 3 ≤ _; omega⟩)
      case measure => first|(simp [intOf]; done)|(simp [intOf]; omega)
    · have hz : (((1 : Int) + (m : Int) * ((q : Int) - 1)) == 0) = false := by simp; omega
      have HQ := Lib.hid (show (N : Int) / (1 + (m : Int) * ((q : Int) - 1)) = ((N / nearV q m 4 : Nat) : Int) by
        have : (1 + (m : Int) * ((q : Int) - 1)) = ((1 + m * (q - 1) : Nat) : Int) := by
          push_cast
          rw [show ((q - 1 : Nat) : Int) = (q : Int) - 1 by omega]
        rw [this]
        simp [nearV])
      have hdv0 : 0 ≤ (N : Int) / (1 + (m : Int) * ((q : Int) - 1)) := Int.ediv_nonneg (by omega) (by omega)
      have hdv1 : (N : Int) / (1 + (m : Int) * ((q : Int) - 1)) ≤ 256 := Int.le_trans (Int.ediv_le_self _ (by omega)) (by omega)
      go_wp2_with fail
      refine (HP3.out _).mono ?_
      rintro e w' ⟨rfl, rfl⟩
      go_wp2_with fail
      go_ret2
      exact ⟨by rw [HV.out, ← HQ.out]; rfl, rfl⟩

theorem SphereBound_ok (q m d : Nat) (hq : 2 ≤ q) (hq' : q ≤ 4) (hd : 1 ≤ d) (hd' : d ≤ m) (hm' : m ≤ 4) (w : World) :
    Calls Try.prog 13 #[.int .i64 q, .int .i64 m, .int .i64 d] w fun e w' => e = .returned (.tuple #[.int .i64 (sphV q m d), .int .i64 0]) ∧ w = w' := by
  have h1 : d = 1 ∨ d = 2 ∨ d = 3 ∨ d = 4 := by omega
  rcases h1 with rfl | rfl | rfl | rfl
  · exact sph1 q m hq hq' hd' hm' w
  · exact sph2 q m hq hq' hd' hm' w
  · exact sph3 q m hq hq' hd' hm' w
  · exact sph4 q m hq hq' hd' hm' w
end Go.Proofs.Ytjadhhnajphibaa
