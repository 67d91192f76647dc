/- Contracts of functions and plain lemmas that the row stands on: The bound of the spheres. The source of choices: what it gives lies in its range; its own block alone turns. Words that are drawn. Plain: words that have been taken are far apart, no more than the bound, and no other word could be added. No conditions beyond those that each theorem names. -/
import Derived.Test.YtjadhhnajphibaaGC9
import Derived.Test.YtjadhhnajphibaaGC1
import Derived.Test.YtjadhhnajphibaaGC2
import Derived.Test.YtjadhhnajphibaaGC4
import Derived.Test.YtjadhhnajphibaaGC6
set_option linter.unusedVariables false
set_option linter.unusedSimpArgs false
namespace Go.Proofs.Ytjadhhnajphibaa
open Go.RowKit Go.Proofs.YtjadhhnajphibaaW.PrintWords

/-- how many words of m letters there can be, by the words that lie near each. -/
def nearV (q m d : Nat) : Nat := if d ≤ 2 then 1 else 1 + m * (q - 1)
def sphV (q m d : Nat) : Nat := pw q m / nearV q m d

set_option maxHeartbeats 2000000 in
theorem sph1 (q m : Nat) (hq : 2 ≤ q) (hq' : q ≤ 4) (hm : 1 ≤ m) (hm' : m ≤ 4) (w : World) :
    Calls Try.prog 13 #[.int .i64 q, .int .i64 m, .int .i64 1] w fun e w' => e = .returned (.tuple #[.int .i64 (sphV q m 1), .int .i64 0]) ∧ w = w' := by
  have HAP : Hid (∀ W, Calls Try.prog 52 #[.int .i64 q, .int .i64 m, .int .i64 1] W fun e w' => e = .returned (.int .i64 0) ∧ W = w') := fun W => by
    have := apartCode_ok q m 1 W
    rwa [show apartV q m 1 = 0 from apartV_0 (d := 1) hq (by omega) (by omega) (by omega) (by omega) (by omega)] at this
  have HP1 : Hid (∀ W, Calls Try.prog 55 #[.int .i64 ((q : Int) - 1), .int .i64 0] W fun e w' => e = .returned (.int .i64 1) ∧ W = w') := fun W => by
    have := power_ok ((q : Int) - 1) 0 (by omega) (by omega) (by omega) (by omega) W
    simpa [pw] using this
  have HP2 : Hid (∀ W, Calls Try.prog 55 #[.int .i64 ((q : Int) - 1), .int .i64 1] W fun e w' => e = .returned (.int .i64 ((q : Int) - 1)) ∧ W = w') := fun W => by
    have := power_ok ((q : Int) - 1) 1 (by omega) (by omega) (by omega) (by omega) W
    have e1 : ((pw ((q : Int) - 1).toNat (1 : Int).toNat : Nat) : Int) = (q : Int) - 1 := by simp [pw]; omega
    rwa [e1] at this
  have hpq : ∃ N, pw q m = N := ⟨_, rfl⟩
  obtain ⟨N, hN⟩ := hpq
  have hNs : N ≤ 256 := by rw [← hN]; exact pw_small hq' hm'
  have HP3 : Hid (∀ W, Calls Try.prog 55 #[.int .i64 q, .int .i64 m] W fun e w' => e = .returned (.int .i64 N) ∧ W = w') := fun W => by
    have := power_ok q m (by omega) (by omega) (by omega) (by omega) W
    rwa [Int.toNat_natCast, Int.toNat_natCast, hN] at this
  have HV := Lib.hid (show sphV q m 1 = N / nearV q m 1 by unfold sphV; rw [hN])
  clear hN
  have hprod : 0 ≤ (m : Int) * ((q : Int) - 1) ∧ (m : Int) * ((q : Int) - 1) ≤ 12 := by
    have h1 : m = 1 ∨ m = 2 ∨ m = 3 ∨ m = 4 := by omega
    rcases h1 with rfl | rfl | rfl | rfl <;> omega
  obtain ⟨hp0, hp1⟩ := hprod
  have hprod2 : 0 ≤ (m : Int) * ((m : Int) - 1) ∧ (m : Int) * ((m : Int) - 1) ≤ 12 := by
    have h1 : m = 1 ∨ m = 2 ∨ m = 3 ∨ m = 4 := by omega
    rcases h1 with rfl | rfl | rfl | rfl <;> omega
  obtain ⟨hp2, hp3⟩ := hprod2
  go_enter Try.func13, Try.ntmps13
  go_wp2_with fail
  refine (HAP.out _).mono ?_
  rintro e w' ⟨rfl, rfl⟩
  go_wp2_with fail
  go_loop [9, 10, 11] (fun nr wy i => (i = .int .i64 0 ∧ nr = .int .i64 0 ∧ wy = .int .i64 1) ∨ (i = .int .i64 1 ∧ nr = .int .i64 1 ∧ wy = .int .i64 m) ∨ (i = .int .i64 2 ∧ nr = .int .i64 (1 + (m : Int) * ((q : Int) - 1)) ∧ ∃ x, wy = .int .i64 x ∧ Hid (3 ≤ 1))) (fun _ _ i => 3 - (intOf i).toNat)
  case atStart => exact .inl ⟨rfl, rfl, rfl⟩
  case round =>
    rcases hrel with ⟨rfl, rfl, rfl⟩ | ⟨rfl, rfl, rfl⟩ | ⟨rfl, rfl, x, rfl, H3⟩
    · go_wp2_with fail
      refine (HP1.out _).mono ?_
      rintro e w' ⟨rfl, rfl⟩
      go_wp2_with fail
      go_round
      case rel => exact .inr (.inl ⟨rfl, rfl, by go_num⟩)
      case measure => first|(simp [intOf]; done)|(simp [intOf]; omega)
    · go_wp2_with fail
      refine (HP3.out _).mono ?_
      rintro e w' ⟨rfl, rfl⟩
      go_wp2_with fail
      go_ret2
      exact ⟨by rw [HV.out]; simp [nearV], rfl⟩
    · exact absurd H3.out (by omega)

set_option maxHeartbeats 2000000 in
theorem sph2 (q m : Nat) (hq : 2 ≤ q) (hq' : q ≤ 4) (hm : 2 ≤ m) (hm' : m ≤ 4) (w : World) :
    Calls Try.prog 13 #[.int .i64 q, .int .i64 m, .int .i64 2] w fun e w' => e = .returned (.tuple #[.int .i64 (sphV q m 2), .int .i64 0]) ∧ w = w' := by
  have HAP : Hid (∀ W, Calls Try.prog 52 #[.int .i64 q, .int .i64 m, .int .i64 2] W fun e w' => e = .returned (.int .i64 0) ∧ W = w') := fun W => by
    have := apartCode_ok q m 2 W
    rwa [show apartV q m 2 = 0 from apartV_0 (d := 2) hq (by omega) (by omega) (by omega) (by omega) (by omega)] at this
  have HP1 : Hid (∀ W, Calls Try.prog 55 #[.int .i64 ((q : Int) - 1), .int .i64 0] W fun e w' => e = .returned (.int .i64 1) ∧ W = w') := fun W => by
    have := power_ok ((q : Int) - 1) 0 (by omega) (by omega) (by omega) (by omega) W
    simpa [pw] using this
  have HP2 : Hid (∀ W, Calls Try.prog 55 #[.int .i64 ((q : Int) - 1), .int .i64 1] W fun e w' => e = .returned (.int .i64 ((q : Int) - 1)) ∧ W = w') := fun W => by
    have := power_ok ((q : Int) - 1) 1 (by omega) (by omega) (by omega) (by omega) W
    have e1 : ((pw ((q : Int) - 1).toNat (1 : Int).toNat : Nat) : Int) = (q : Int) - 1 := by simp [pw]; omega
    rwa [e1] at this
  have hpq : ∃ N, pw q m = N := ⟨_, rfl⟩
  obtain ⟨N, hN⟩ := hpq
  have hNs : N ≤ 256 := by rw [← hN]; exact pw_small hq' hm'
  have HP3 : Hid (∀ W, Calls Try.prog 55 #[.int .i64 q, .int .i64 m] W fun e w' => e = .returned (.int .i64 N) ∧ W = w') := fun W => by
    have := power_ok q m (by omega) (by omega) (by omega) (by omega) W
    rwa [Int.toNat_natCast, Int.toNat_natCast, hN] at this
  have HV := Lib.hid (show sphV q m 2 = N / nearV q m 2 by unfold sphV; rw [hN])
  clear hN
  have hprod : 0 ≤ (m : Int) * ((q : Int) - 1) ∧ (m : Int) * ((q : Int) - 1) ≤ 12 := by
    have h1 : m = 1 ∨ m = 2 ∨ m = 3 ∨ m = 4 := by omega
    rcases h1 with rfl | rfl | rfl | rfl <;> omega
  obtain ⟨hp0, hp1⟩ := hprod
  have hprod2 : 0 ≤ (m : Int) * ((m : Int) - 1) ∧ (m : Int) * ((m : Int) - 1) ≤ 12 := by
    have h1 : m = 1 ∨ m = 2 ∨ m = 3 ∨ m = 4 := by omega
    rcases h1 with rfl | rfl | rfl | rfl <;> omega
  obtain ⟨hp2, hp3⟩ := hprod2
  go_enter Try.func13, Try.ntmps13
  go_wp2_with fail
  refine (HAP.out _).mono ?_
  rintro e w' ⟨rfl, rfl⟩
  go_wp2_with fail
  go_loop [9, 10, 11] (fun nr wy i => (i = .int .i64 0 ∧ nr = .int .i64 0 ∧ wy = .int .i64 1) ∨ (i = .int .i64 1 ∧ nr = .int .i64 1 ∧ wy = .int .i64 m) ∨ (i = .int .i64 2 ∧ nr = .int .i64 (1 + (m : Int) * ((q : Int) - 1)) ∧ ∃ x, wy = .int .i64 x ∧ Hid (3 ≤ 2))) (fun _ _ i => 3 - (intOf i).toNat)
  case atStart => exact .inl ⟨rfl, rfl, rfl⟩
  case round =>
    rcases hrel with ⟨rfl, rfl, rfl⟩ | ⟨rfl, rfl, rfl⟩ | ⟨rfl, rfl, x, rfl, H3⟩
    · go_wp2_with fail
      refine (HP1.out _).mono ?_
      rintro e w' ⟨rfl, rfl⟩
      go_wp2_with fail
      go_round
      case rel => exact .inr (.inl ⟨rfl, rfl, by go_num⟩)
      case measure => first|(simp [intOf]; done)|(simp [intOf]; omega)
    · go_wp2_with fail
      refine (HP3.out _).mono ?_
      rintro e w' ⟨rfl, rfl⟩
      go_wp2_with fail
      go_ret2
      exact ⟨by rw [HV.out]; simp [nearV], rfl⟩
    · exact absurd H3.out (by omega)

set_option maxHeartbeats 2000000 in
theorem sph3 (q m : Nat) (hq : 2 ≤ q) (hq' : q ≤ 4) (hm : 3 ≤ m) (hm' : m ≤ 4) (w : World) :
    Calls Try.prog 13 #[.int .i64 q, .int .i64 m, .int .i64 3] w fun e w' => e = .returned (.tuple #[.int .i64 (sphV q m 3), .int .i64 0]) ∧ w = w' := by
  have HAP : Hid (∀ W, Calls Try.prog 52 #[.int .i64 q, .int .i64 m, .int .i64 3] W fun e w' => e = .returned (.int .i64 0) ∧ W = w') := fun W => by
    have := apartCode_ok q m 3 W
    rwa [show apartV q m 3 = 0 from apartV_0 (d := 3) hq (by omega) (by omega) (by omega) (by omega) (by omega)] at this
  have HP1 : Hid (∀ W, Calls Try.prog 55 #[.int .i64 ((q : Int) - 1), .int .i64 0] W fun e w' => e = .returned (.int .i64 1) ∧ W = w') := fun W => by
    have := power_ok ((q : Int) - 1) 0 (by omega) (by omega) (by omega) (by omega) W
    simpa [pw] using this
  have HP2 : Hid (∀ W, Calls Try.prog 55 #[.int .i64 ((q : Int) - 1), .int .i64 1] W fun e w' => e = .returned (.int .i64 ((q : Int) - 1)) ∧ W = w') := fun W => by
    have := power_ok ((q : Int) - 1) 1 (by omega) (by omega) (by omega) (by omega) W
    have e1 : ((pw ((q : Int) - 1).toNat (1 : Int).toNat : Nat) : Int) = (q : Int) - 1 := by simp [pw]; omega
    rwa [e1] at this
  have hpq : ∃ N, pw q m = N := ⟨_, rfl⟩
  obtain ⟨N, hN⟩ := hpq
  have hNs : N ≤ 256 := by rw [← hN]; exact pw_small hq' hm'
  have HP3 : Hid (∀ W, Calls Try.prog 55 #[.int .i64 q, .int .i64 m] W fun e w' => e = .returned (.int .i64 N) ∧ W = w') := fun W => by
    have := power_ok q m (by omega) (by omega) (by omega) (by omega) W
    rwa [Int.toNat_natCast, Int.toNat_natCast, hN] at this
  have HV := Lib.hid (show sphV q m 3 = N / nearV q m 3 by unfold sphV; rw [hN])
  clear hN
  have hprod : 0 ≤ (m : Int) * ((q : Int) - 1) ∧ (m : Int) * ((q : Int) - 1) ≤ 12 := by
    have h1 : m = 1 ∨ m = 2 ∨ m = 3 ∨ m = 4 := by omega
    rcases h1 with rfl | rfl | rfl | rfl <;> omega
  obtain ⟨hp0, hp1⟩ := hprod
  have hprod2 : 0 ≤ (m : Int) * ((m : Int) - 1) ∧ (m : Int) * ((m : Int) - 1) ≤ 12 := by
    have h1 : m = 1 ∨ m = 2 ∨ m = 3 ∨ m = 4 := by omega
    rcases h1 with rfl | rfl | rfl | rfl <;> omega
  obtain ⟨hp2, hp3⟩ := hprod2
  go_enter Try.func13, Try.ntmps13
  go_wp2_with fail
  refine (HAP.out _).mono ?_
  rintro e w' ⟨rfl, rfl⟩
  go_wp2_with fail
  go_loop [9, 10, 11] (fun nr wy i => (i = .int .i64 0 ∧ nr = .int .i64 0 ∧ wy = .int .i64 1) ∨ (i = .int .i64 1 ∧ nr = .int .i64 1 ∧ wy = .int .i64 m) ∨ (i = .int .i64 2 ∧ nr = .int .i64 (1 + (m : Int) * ((q : Int) - 1)) ∧ ∃ x, wy = .int .i64 x ∧ Hid (3 ≤ 3))) (fun _ _ i => 3 - (intOf i).toNat)
  case atStart => exact .inl ⟨rfl, rfl, rfl⟩
  case round =>
    rcases hrel with ⟨rfl, rfl, rfl⟩ | ⟨rfl, rfl, rfl⟩ | ⟨rfl, rfl, x, rfl, H3⟩
    · go_wp2_with fail
      refine (HP1.out _).mono ?_
      rintro e w' ⟨rfl, rfl⟩
      go_wp2_with fail
      go_round
      case rel => exact .inr (.inl ⟨rfl, rfl, by go_num⟩)
      case measure => first|(simp [intOf]; done)|(simp [intOf]; omega)
    · go_wp2_with fail
      refine (HP2.out _).mono ?_
      rintro e w' ⟨rfl, rfl⟩
      have hx2 : 0 ≤ (m : Int) * ((m : Int) - 1) / 2 ∧ (m : Int) * ((m : Int) - 1) / 2 ≤ 12 := by omega
      obtain ⟨hx3, hx4⟩ := hx2
      go_wp2_with fail
      go_round
      case rel => exact .inr (.inr ⟨rfl, rfl, _, rfl, by show 3 ≤ _; omega⟩)
      case measure => first|(simp [intOf]; done)|(simp [intOf]; omega)
    · have hz : (((1 : Int) + (m : Int) * ((q : Int) - 1)) == 0) = false := by simp; omega
      have HQ := Lib.hid (show (N : Int) / (1 + (m : Int) * ((q : Int) - 1)) = ((N / nearV q m 3 : Nat) : Int) by
        have : (1 + (m : Int) * ((q : Int) - 1)) = ((1 + m * (q - 1) : Nat) : Int) := by
          push_cast
          rw [show ((q - 1 : Nat) : Int) = (q : Int) - 1 by omega]
        rw [this]
        simp [nearV])
      have hdv0 : 0 ≤ (N : Int) / (1 + (m : Int) * ((q : Int) - 1)) := Int.ediv_nonneg (by omega) (by omega)
      have hdv1 : (N : Int) / (1 + (m : Int) * ((q : Int) - 1)) ≤ 256 := Int.le_trans (Int.ediv_le_self _ (by omega)) (by omega)
      go_wp2_with fail
      refine (HP3.out _).mono ?_
      rintro e w' ⟨rfl, rfl⟩
      go_wp2_with fail
      go_ret2
      exact ⟨by rw [HV.out, ← HQ.out]; rfl, rfl⟩

set_option maxHeartbeats 2000000 in
theorem sph4 (q m : Nat) (hq : 2 ≤ q) (hq' : q ≤ 4) (hm : 4 ≤ m) (hm' : m ≤ 4) (w : World) :
    Calls Try.prog 13 #[.int .i64 q, .int .i64 m, .int .i64 4] w fun e w' => e = .returned (.tuple #[.int .i64 (sphV q m 4), .int .i64 0]) ∧ w = w' := by
  have HAP : Hid (∀ W, Calls Try.prog 52 #[.int .i64 q, .int .i64 m, .int .i64 4] W fun e w' => e = .returned (.int .i64 0) ∧ W = w') := fun W => by
    have := apartCode_ok q m 4 W
    rwa [show apartV q m 4 = 0 from apartV_0 (d := 4) hq (by omega) (by omega) (by omega) (by omega) (by omega)] at this
  have HP1 : Hid (∀ W, Calls Try.prog 55 #[.int .i64 ((q : Int) - 1), .int .i64 0] W fun e w' => e = .returned (.int .i64 1) ∧ W = w') := fun W => by
    have := power_ok ((q : Int) - 1) 0 (by omega) (by omega) (by omega) (by omega) W
    simpa [pw] using this
  have HP2 : Hid (∀ W, Calls Try.prog 55 #[.int .i64 ((q : Int) - 1), .int .i64 1] W fun e w' => e = .returned (.int .i64 ((q : Int) - 1)) ∧ W = w') := fun W => by
    have := power_ok ((q : Int) - 1) 1 (by omega) (by omega) (by omega) (by omega) W
    have e1 : ((pw ((q : Int) - 1).toNat (1 : Int).toNat : Nat) : Int) = (q : Int) - 1 := by simp [pw]; omega
    rwa [e1] at this
  have hpq : ∃ N, pw q m = N := ⟨_, rfl⟩
  obtain ⟨N, hN⟩ := hpq
  have hNs : N ≤ 256 := by rw [← hN]; exact pw_small hq' hm'
  have HP3 : Hid (∀ W, Calls Try.prog 55 #[.int .i64 q, .int .i64 m] W fun e w' => e = .returned (.int .i64 N) ∧ W = w') := fun W => by
    have := power_ok q m (by omega) (by omega) (by omega) (by omega) W
    rwa [Int.toNat_natCast, Int.toNat_natCast, hN] at this
  have HV := Lib.hid (show sphV q m 4 = N / nearV q m 4 by unfold sphV; rw [hN])
  clear hN
  have hprod : 0 ≤ (m : Int) * ((q : Int) - 1) ∧ (m : Int) * ((q : Int) - 1) ≤ 12 := by
    have h1 : m = 1 ∨ m = 2 ∨ m = 3 ∨ m = 4 := by omega
    rcases h1 with rfl | rfl | rfl | rfl <;> omega
  obtain ⟨hp0, hp1⟩ := hprod
  have hprod2 : 0 ≤ (m : Int) * ((m : Int) - 1) ∧ (m : Int) * ((m : Int) - 1) ≤ 12 := by
    have h1 : m = 1 ∨ m = 2 ∨ m = 3 ∨ m = 4 := by omega
    rcases h1 with rfl | rfl | rfl | rfl <;> omega
  obtain ⟨hp2, hp3⟩ := hprod2
  go_enter Try.func13, Try.ntmps13
  go_wp2_with fail
  refine (HAP.out _).mono ?_
  rintro e w' ⟨rfl, rfl⟩
  go_wp2_with fail
  go_loop [9, 10, 11] (fun nr wy i => (i = .int .i64 0 ∧ nr = .int .i64 0 ∧ wy = .int .i64 1) ∨ (i = .int .i64 1 ∧ nr = .int .i64 1 ∧ wy = .int .i64 m) ∨ (i = .int .i64 2 ∧ nr = .int .i64 (1 + (m : Int) * ((q : Int) - 1)) ∧ ∃ x, wy = .int .i64 x ∧ Hid (3 ≤ 4))) (fun _ _ i => 3 - (intOf i).toNat)
  case atStart => exact .inl ⟨rfl, rfl, rfl⟩
  case round =>
    rcases hrel with ⟨rfl, rfl, rfl⟩ | ⟨rfl, rfl, rfl⟩ | ⟨rfl, rfl, x, rfl, H3⟩
    · go_wp2_with fail
      refine (HP1.out _).mono ?_
      rintro e w' ⟨rfl, rfl⟩
      go_wp2_with fail
      go_round
      case rel => exact .inr (.inl ⟨rfl, rfl, by go_num⟩)
      case measure => first|(simp [intOf]; done)|(simp [intOf]; omega)
    · go_wp2_with fail
      refine (HP2.out _).mono ?_
      rintro e w' ⟨rfl, rfl⟩
      have hx2 : 0 ≤ (m : Int) * ((m : Int) - 1) / 2 ∧ (m : Int) * ((m : Int) - 1) / 2 ≤ 12 := by omega
      obtain ⟨hx3, hx4⟩ := hx2
      go_wp2_with fail
      go_round
      case rel => exact .inr (.inr ⟨rfl, rfl, _, rfl, by show 3 ≤ _; omega⟩)
      case measure => first|(simp [intOf]; done)|(simp [intOf]; omega)
    · have hz : (((1 : Int) + (m : Int) * ((q : Int) - 1)) == 0) = false := by simp; omega
      have HQ := Lib.hid (show (N : Int) / (1 + (m : Int) * ((q : Int) - 1)) = ((N / nearV q m 4 : Nat) : Int) by
        have : (1 + (m : Int) * ((q : Int) - 1)) = ((1 + m * (q - 1) : Nat) : Int) := by
          push_cast
          rw [show ((q - 1 : Nat) : Int) = (q : Int) - 1 by omega]
        rw [this]
        simp [nearV])
      have hdv0 : 0 ≤ (N : Int) / (1 + (m : Int) * ((q : Int) - 1)) := Int.ediv_nonneg (by omega) (by omega)
      have hdv1 : (N : Int) / (1 + (m : Int) * ((q : Int) - 1)) ≤ 256 := Int.le_trans (Int.ediv_le_self _ (by omega)) (by omega)
      go_wp2_with fail
      refine (HP3.out _).mono ?_
      rintro e w' ⟨rfl, rfl⟩
      go_wp2_with fail
      go_ret2
      exact ⟨by rw [HV.out, ← HQ.out]; rfl, rfl⟩

theorem SphereBound_ok (q m d : Nat) (hq : 2 ≤ q) (hq' : q ≤ 4) (hd : 1 ≤ d) (hd' : d ≤ m) (hm' : m ≤ 4) (w : World) :
    Calls Try.prog 13 #[.int .i64 q, .int .i64 m, .int .i64 d] w fun e w' => e = .returned (.tuple #[.int .i64 (sphV q m d), .int .i64 0]) ∧ w = w' := by
  have h1 : d = 1 ∨ d = 2 ∨ d = 3 ∨ d = 4 := by omega
  rcases h1 with rfl | rfl | rfl | rfl
  · exact sph1 q m hq hq' hd' hm' w
  · exact sph2 q m hq hq' hd' hm' w
  · exact sph3 q m hq hq' hd' hm' w
  · exact sph4 q m hq hq' hd' hm' w
end Go.Proofs.Ytjadhhnajphibaa
namespace Go.Proofs.Ytjadhhnajphibaa
open Go.RowKit Go.Proofs.YtjadhhnajphibaaW.PrintWords

/-- a source at block g: made behind w0, its bytes came in by w0, at most n have been asked for. -/
def Src (w0 w : World) (g n : Nat) : Prop := ∃ (A : Option Addr) (c : Nat) (xs : List Int) (at_ : Nat) (seed : Int),
  w.heap[g]? = some (.cells #[.slice A xs.length c, .int .i64 at_, .int .u64 seed] 128 (0, 0)) ∧ w0.heap.size ≤ g ∧ (Kd.int .u8).C w0 A xs.length xs ∧ Bytes xs ∧ at_ ≤ n
theorem Src.grown {w0 w w1 : World} {g n : Nat} {row : Option Nat} (h : Src w0 w g n) (hg : w.grownBy w1 row) (hne : some g ≠ row) : Src w0 w1 g n := by
  obtain ⟨A, c, xs, at_, seed, hb, h⟩ := h
  exact ⟨A, c, xs, at_, seed, blk_grown hb hg hne, h⟩
theorem Src.below {w0 w w1 : World} {g n : Nat} (h : Src w0 w g n) (hb : Below w.heap.size w w1) : Src w0 w1 g n := h.grown (grown_of_below hb none) (by simp)
theorem Src.more {w0 w : World} {g n m : Nat} (h : Src w0 w g n) (hm : n ≤ m) : Src w0 w g m := by
  obtain ⟨A, c, xs, at_, seed, h1, h2, h3, h4, h5⟩ := h
  exact ⟨A, c, xs, at_, seed, h1, h2, h3, h4, by omega⟩
theorem Src.lt {w0 w : World} {g n : Nat} (h : Src w0 w g n) : g < w.heap.size := by
  obtain ⟨A, c, xs, at_, seed, h1, _⟩ := h
  exact blk_lt h1
theorem Src.ge {w0 w : World} {g n : Nat} (h : Src w0 w g n) : w0.heap.size ≤ g := by
  obtain ⟨A, c, xs, at_, seed, _, h1, _⟩ := h
  exact h1
theorem own_ne_src {w0 w : World} {g n : Nat} {base e size m : Nat} {v : Value} {xs : List Value} (h : Src w0 w g n) (ho : w.ownsRow base e size v m xs) (he : e ≠ 128) : v.ownBlock ≠ some g := by
  obtain ⟨A, c, ys, at_, seed, h1, _⟩ := h
  intro hk
  obtain ⟨cells, hc⟩ := own_typed ho g hk
  rw [hc] at h1
  injection h1 with h1
  injection h1 with _ h1
  exact he h1
theorem and255 (x : Int) : 0 ≤ bits .and .u64 x 255 ∧ bits .and .u64 x 255 ≤ 255 := by
  have h : bits .and .u64 x 255 = IntKind.u64.wrap ((BitVec.ofInt 64 x &&& BitVec.ofInt 64 255).toNat : Int) := rfl
  have h2 : (BitVec.ofInt 64 x &&& BitVec.ofInt 64 255).toNat ≤ 255 := by
    rw [BitVec.toNat_and]
    exact Nat.and_le_right
  rw [h, IntKind.wrap_u64]
  omega
theorem wrap_small {x : Int} (h : 0 ≤ x ∧ x ≤ 255) : 0 ≤ wrap64 x ∧ wrap64 x ≤ 255 := by
  unfold wrap64
  omega
theorem grown_set (w : World) (g i : Nat) (v : Value) : w.grownBy (w.setCell ⟨g, i, none⟩ v) (some g) :=
  ⟨rfl, rfl, rfl, by simp [World.setCell], fun k _ hne => Below.heap_setCell w ⟨g, i, none⟩ v k (fun e => hne (by rw [e]))⟩
theorem grown_drew (w : World) (n : Nat) (row : Option Nat) : w.grownBy (w.drewN n) row := ⟨rfl, rfl, rfl, Nat.le_refl _, fun _ _ _ => rfl⟩
theorem src_after {w0 w : World} {g n : Nat} {A : Option Addr} {c : Nat} {xs : List Int} {at_ : Nat} {seed : Int} (hg : w.heap[g]? = some (.cells #[.slice A xs.length c, .int .i64 at_, .int .u64 seed] 128 (0, 0))) (hge : w0.heap.size ≤ g) (hC : (Kd.int .u8).C w0 A xs.length xs) (hB : Bytes xs) (hat : at_ ≤ n) (n1 n2 : Nat) (s2 : Int) :
    Src w0 ((((w.drewN n1).setCell ⟨g, 1, none⟩ (.int .i64 ((at_ : Int) + 1))).setCell ⟨g, 2, none⟩ (.int .u64 s2)).drewN n2) g (n + 1) ∧ w.grownBy ((((w.drewN n1).setCell ⟨g, 1, none⟩ (.int .i64 ((at_ : Int) + 1))).setCell ⟨g, 2, none⟩ (.int .u64 s2)).drewN n2) (some g) := by
  constructor
  · refine ⟨A, c, xs, at_ + 1, s2, ?_, hge, hC, hB, by omega⟩
    have h1 := blk_set (blk_drewN hg n1) 1 (.int .i64 ((at_ : Int) + 1))
    have h2 := blk_set h1 2 (.int .u64 s2)
    have h3 := blk_drewN h2 n2
    simpa using h3
  · exact (((grown_drew w n1 _).trans (grown_set _ g 1 _)).trans (grown_set _ g 2 _)).trans (grown_drew _ n2 _)

set_option maxHeartbeats 2000000 in
theorem next_ok (w0 w : World) (g n : Nat) (hn : n ≤ 1000000000000000) (hs : Src w0 w g n) (hb : Below w0.heap.size w0 w) :
    Calls Try.prog 104 #[.pointer (some ⟨g, 0, none⟩)] w fun e w' => ∃ b : Int, e = .returned (.int .i64 b) ∧ 0 ≤ b ∧ b ≤ 255 ∧ Src w0 w' g (n + 1) ∧ w.grownBy w' (some g) := by
  obtain ⟨A, c, xs, at_, seed, hg, hge, hC, hB, hat⟩ := hs
  have hm : xs.length ≤ 9223372036854775807 := hC.2.1
  have hc0 : w.cell? ⟨g, 0, none⟩ = some (.slice A xs.length c) := (blk_cell hg 0).trans rfl
  have hc1 : w.cell? ⟨g, 1, none⟩ = some (.int .i64 at_) := (blk_cell hg 1).trans rfl
  have hc2 : w.cell? ⟨g, 2, none⟩ = some (.int .u64 seed) := (blk_cell hg 2).trans rfl
  have hf1 := blk_frozen hg 1
  have hf2 := blk_frozen hg 2
  have HG := Lib.hid hg
  have HC := Lib.hid hC
  have HBY := Lib.hid hB
  clear hg hC hB
  by_cases hlt : at_ < xs.length
  · obtain ⟨ad, rfl, hx⟩ := at_nat (C_below' HC.out hb) hlt
    obtain ⟨hb0, hb1⟩ := HBY.out at_
    have hlti : (at_ : Int) < (xs.length : Int) := by omega
    have hle : (at_ : Int) + 1 ≤ (xs.length : Int) := by omega
    clear hb
    go_enter Try.func104, Try.ntmps104
    go_wp2
    go_quiet (fail)
    go_wp2
    go_quiet (fail)
    go_wp2
    go_quiet (fail)
    go_wp2
    go_ret
    obtain ⟨h1, h2⟩ := src_after (n := n) HG.out hge HC.out HBY.out hat _ _ _
    exact ⟨_, rfl, hb0, hb1, h1, h2⟩
  · have hlti : ¬ (at_ : Int) < (xs.length : Int) := by omega
    have hle : ¬ (at_ : Int) + 1 ≤ (xs.length : Int) := by omega
    clear hb
    go_enter Try.func104, Try.ntmps104
    go_wp2
    go_quiet (fail)
    go_wp2
    go_quiet (fail)
    go_wp2
    go_ret
    obtain ⟨h1, h2⟩ := src_after (n := n) HG.out hge HC.out HBY.out hat _ _ _
    obtain ⟨h3, h4⟩ := wrap_small (and255 _)
    exact ⟨_, rfl, h3, h4, h1, h2⟩

theorem grown_below {w0 w w1 : World} {row : Option Nat} (hb : Below w0.heap.size w0 w) (hg : w.grownBy w1 row) (hr : ∀ k, row = some k → w0.heap.size ≤ k) : Below w0.heap.size w0 w1 := hb.grown hg hb.size hr

set_option maxHeartbeats 2000000 in
theorem pick_ok (w0 w : World) (g n : Nat) (m : Int) (hm : m ≤ 9223372036854775807) (hn : n ≤ 100000000000000) (hs : Src w0 w g n) (hb : Below w0.heap.size w0 w) :
    Calls Try.prog 50 #[.pointer (some ⟨g, 0, none⟩), .int .i64 m] w fun e w' => ∃ r : Int, e = .returned (.int .i64 r) ∧ 0 ≤ r ∧ (1 < m → r < m) ∧ (m ≤ 1 → r = 0) ∧ Src w0 w' g (n + 2) ∧ w.grownBy w' (some g) := by
  have HS := Lib.hid hs
  have HB := Lib.hid hb
  have hge : w0.heap.size ≤ g := hs.ge
  clear hs hb
  by_cases h1 : m ≤ 1
  · have H1 := Lib.hid h1
    go_enter Try.func50, Try.ntmps50
    go_wp2
    go_ret
    exact ⟨0, rfl, by omega, fun h => by have := H1.out; omega, fun _ => rfl, HS.out.more (by omega), World.grownBy.refl _ _⟩
  · by_cases h2 : 200 < m
    · have H1 := Lib.hid h1
      go_enter Try.func50, Try.ntmps50
      go_wp2_with fail
      refine (next_ok w0 w g n (by omega) HS.out HB.out).mono ?_
      rintro e w1 ⟨b, rfl, hb0, hb1, hs1, hg1⟩
      have HS1 := Lib.hid hs1
      have HG1 := Lib.hid hg1
      have HB1 := Lib.hid (grown_below HB.out hg1 (by intro k hk; injection hk with hk; omega))
      clear hs1 hg1
      go_wp2_with fail
      refine (next_ok w0 w1 g (n + 1) (by omega) HS1.out HB1.out).mono ?_
      rintro e w2 ⟨b2, rfl, hb2, hb3, hs2, hg2⟩
      have HS2 := Lib.hid hs2
      have HG2 := Lib.hid (HG1.out.trans hg2)
      clear hs2 hg2
      have hr0 : 0 ≤ (b * 256 + b2) % m := Int.emod_nonneg _ (by omega)
      have hr1 : (b * 256 + b2) % m < m := Int.emod_lt_of_pos _ (by omega)
      go_wp2
      go_ret
      exact ⟨_, rfl, hr0, fun _ => hr1, fun h => absurd H1.out (by omega), HS2.out, HG2.out⟩
    · have H1 := Lib.hid h1
      go_enter Try.func50, Try.ntmps50
      go_wp2_with fail
      refine (next_ok w0 w g n (by omega) HS.out HB.out).mono ?_
      rintro e w1 ⟨b, rfl, hb0, hb1, hs1, hg1⟩
      have HS1 := Lib.hid hs1
      have HG1 := Lib.hid hg1
      clear hs1 hg1
      have hr0 : 0 ≤ b % m := Int.emod_nonneg _ (by omega)
      have hr1 : b % m < m := Int.emod_lt_of_pos _ (by omega)
      go_wp2
      go_ret
      exact ⟨_, rfl, hr0, fun _ => hr1, fun h => absurd H1.out (by omega), HS1.out.more (by omega), HG1.out⟩

set_option maxHeartbeats 1000000 in
theorem l00From_ok (w0 w : World) (A : Option Addr) (c : Nat) (xs : List Int) (hC : (Kd.int .u8).C w0 A xs.length xs) (hx : Bytes xs) (hb : Below w0.heap.size w0 w) :
    Calls Try.prog 49 #[.slice A xs.length c] w fun e w' => ∃ g : Nat, e = .returned (.pointer (some ⟨g, 0, none⟩)) ∧ Src w0 w' g 0 ∧ Below w.heap.size w w' ∧ w.heap.size ≤ g := by
  have HC := Lib.hid hC
  have HX := Lib.hid hx
  have HB := Lib.hid hb
  clear hC hx hb
  go_enter Try.func49, Try.ntmps49
  go_wp2
  go_ret
  refine ⟨w.heap.size, rfl, ⟨A, c, xs, 0, 0, ?_, HB.out.size, HC.out, HX.out, by omega⟩, below_box _ _, Nat.le_refl _⟩
  exact heap_alloc_new w _

set_option maxHeartbeats 1000000 in
theorem P6Pick_ok (w : World) (A : Option Addr) (c : Nat) (xs : List Int) (m : Int) (hm : m ≤ 9223372036854775807) (hC : (Kd.int .u8).C w A xs.length xs) (hx : Bytes xs) :
    Calls Try.prog 10 #[.slice A xs.length c, .int .i64 m] w fun e w' => ∃ r : Int, e = .returned (.int .i64 r) ∧ 0 ≤ r ∧ (1 < m → r < m) ∧ (m ≤ 1 → r = 0) ∧ Below w.heap.size w w' := by
  have HF := Lib.hid (l00From_ok w w A c xs hC hx (Below.refl _ _))
  clear hC hx
  go_enter Try.func10, Try.ntmps10
  go_wp2_with fail
  refine HF.out.mono ?_
  rintro e w1 ⟨g, rfl, hs, hb, hge⟩
  have HB := Lib.hid hb
  have HP := Lib.hid (pick_ok w w1 g 0 m hm (by omega) hs hb)
  clear hs hb
  go_wp2_with fail
  refine HP.out.mono ?_
  rintro e w2 ⟨r, rfl, h0, h1, h2, hs2, hg2⟩
  have H1 := Lib.hid h1
  have H2 := Lib.hid h2
  have HB2 := Lib.hid (grown_below HB.out hg2 (by intro k hk; injection hk with hk; omega))
  clear h1 h2 hs2 hg2
  go_wp2_with fail
  go_ret
  exact ⟨r, rfl, h0, H1.out, H2.out, HB2.out⟩
end Go.Proofs.Ytjadhhnajphibaa
namespace Go.Proofs.Ytjadhhnajphibaa
open Go.RowKit Go.Proofs.YtjadhhnajphibaaW.PrintWords

theorem f6big_ok (A : Option Addr) (c n : Nat) (w : World) (hn : n ≤ 9223372036854775807) : Calls Try.prog 9 #[.slice A n c] w fun e w' => e = .returned (.bool (decide (4096 < n))) ∧ w = w' := by
  go_enter Try.func9, Try.ntmps9
  go_wp2
  go_ret
  exact ⟨ret_bool (by rw [Bool.eq_iff_iff]; simp; omega), rfl⟩

theorem rn_snoc_lt {xs : List Int} {y : Int} {i : Nat} (h : i < xs.length) : rn (xs ++ [y]) i = rn xs i := by simp [rn, List.getD_eq_getElem?_getD, List.getElem?_append_left h]
theorem rn_snoc_eq (xs : List Int) (y : Int) : rn (xs ++ [y]) xs.length = y := by simp [rn, List.getD_eq_getElem?_getD]
theorem rn_out {xs : List Int} {i : Nat} (h : xs.length ≤ i) : rn xs i = 0 := by simp [rn, List.getD_eq_getElem?_getD, List.getElem?_eq_none h]
/-- letters from 0 on that are less than q. -/
def Lets (xs : List Int) (q : Int) : Prop := ∀ i, i < xs.length → 0 ≤ rn xs i ∧ rn xs i < q
theorem Lets.snoc {xs : List Int} {q y : Int} (h : Lets xs q) (h0 : 0 ≤ y) (h1 : y < q) : Lets (xs ++ [y]) q := by
  intro i hi
  by_cases e : i < xs.length
  · rw [rn_snoc_lt e]; exact h i e
  · have : i = xs.length := by simp at hi; omega
    subst this
    rw [rn_snoc_eq]
    exact ⟨h0, h1⟩
theorem Lets.bytes {xs : List Int} {q : Int} (h : Lets xs q) (hq : q ≤ 256) : Bytes xs := by
  intro i
  by_cases e : i < xs.length
  · have := h i e; omega
  · rw [rn_out (by omega)]; omega

set_option maxHeartbeats 2000000 in
theorem l05Spelled_ok (w0 w : World) (g n : Nat) (q : Int) (m : Nat) (hq : 1 ≤ q) (hq' : q ≤ 256) (hm : m ≤ 1000000) (hn : n ≤ 10000000000) (hs : Src w0 w g n) (hb : Below w0.heap.size w0 w) :
    Calls Try.prog 72 #[.pointer (some ⟨g, 0, none⟩), .int .i64 q, .int .i64 m] w fun e w' => ∃ v xs, e = .returned v ∧ xs.length = m ∧ Lets xs q ∧ w'.ownsRow w.heap.size 5 1 v m (nums .u8 xs) ∧ Src w0 w' g (n + 2 * m) ∧ w.grownBy w' (some g) := by
  have HS := Lib.hid hs
  have HB := Lib.hid hb
  have hge : w0.heap.size ≤ g := hs.ge
  have hlt0 : g < w.heap.size := hs.lt
  clear hs hb
  go_enter Try.func72, Try.ntmps72
  go_wp2
  have hR0 : (w.alloc (.cells #[] 5)).ownsRow w.heap.size 5 1 (.slice (some ⟨w.heap.size, 0, none⟩) 0 0) ([] : List Int).length (nums .u8 []) :=
    ⟨rfl, .inr ⟨_, 0, #[], rfl, Nat.le_refl _, heap_alloc_new _ _, Nat.le_refl _, Nat.zero_le _, rfl, rfl⟩⟩
  have HR0 := Lib.hid hR0
  have HS0 := Lib.hid (HS.out.below (below_box w (.cells #[] 5)))
  have HG0 := Lib.hid (World.grownBy_alloc w (.cells #[] 5) (some g))
  clear hR0
  generalize w.alloc (.cells #[] 5) = W0 at *
  go_loopw [7, 8] (fun v i wr => ∃ (xs : List Int) (k : Nat), k = xs.length ∧ k ≤ m ∧ i = .int .i64 k ∧ Hid (Lets xs q) ∧ Hid (wr.ownsRow w.heap.size 5 1 v xs.length (nums .u8 xs)) ∧ Hid (Src w0 wr g (n + 2 * k)) ∧ Hid (w.grownBy wr (some g))) (fun _ i _ => m - (intOf i).toNat)
  case atStart => exact ⟨[], 0, rfl, Nat.zero_le _, rfl, fun i hi => absurd hi (by simp), HR0, HS0, HG0⟩
  case round =>
    clear HR0 HS0 HG0
    obtain ⟨xs, k, hk, hkm, rfl, HL, HO, HSr, HG⟩ := hrel
    have HK := Lib.hid hk
    clear hk
    have hsz : w.heap.size ≤ wr.heap.size := HG.out.size
    have HBr := Lib.hid (grown_below HB.out HG.out (by intro j hj; injection hj with hj; omega))
    by_cases hlt : k < m
    · have hlti : (k : Int) < (m : Int) := by omega
      go_wp2_with fail
      refine (pick_ok w0 wr g (n + 2 * k) q (by omega) (by omega) HSr.out HBr.out).mono ?_
      rintro e w1 ⟨r, rfl, hr0, hr1, hr2, hs1, hg1⟩
      have hrq : r < q := by
        by_cases h1 : 1 < q
        · exact hr1 h1
        · have := hr2 (by omega); omega
      have HS1 := Lib.hid hs1
      have HG1 := Lib.hid (HG.out.trans hg1)
      have hne := own_ne_src HSr.out HO.out (by decide)
      have HO1 := Lib.hid (own_other HO.out hg1 (.inr hne))
      have hsz1 : w.heap.size ≤ w1.heap.size := Nat.le_trans hsz hg1.size
      clear hr1 hr2 hs1 hg1 hne
      have hlen : xs.length ≤ 1000000 := by have := HK.out; omega
      go_wp2_with (at_builtin; refine print_append_num (w0 := w1) (W := w1) w.heap.size rfl (.tmp 15) (.tmp 20) 32 5 .u8 1 rfl Try.underlying32 uinfo_u8 (by omega) _ xs r rfl rfl HO1.out (Below.refl _ _) hsz1 (by omega) ?_; intro v2 w2 hO2 hb2 hg2 hat2)
      go_roundw
      case rel =>
        have hs2 := (HS1.out.grown hg2 (fun e => own_ne_src HS1.out HO1.out (by decide) e.symm)).more (m := n + 2 * (k + 1)) (by omega)
        refine ⟨xs ++ [r], k + 1, by rw [List.length_append, ← HK.out]; rfl, by omega, by go_num, HL.out.snoc hr0 hrq, hO2, hs2, ?_⟩
        have hg1 := HG1.out
        refine ⟨hg2.os.trans hg1.os, hg2.tape.trans hg1.tape, hg2.output.trans hg1.output, Nat.le_trans hg1.size hg2.size, fun j hj hne => ?_⟩
        rw [hg2.block j (Nat.lt_of_lt_of_le hj hg1.size) (fun e => by have := own_base HO1.out j e.symm; omega)]
        exact hg1.block j hj hne
      case measure => first|(simp [intOf]; done)|(simp [intOf]; omega)
    · have HKM := Lib.hid (show xs.length = m by have := HK.out; omega)
      go_wp2
      go_ret
      refine ⟨_, xs, rfl, HKM.out, HL.out, ?_, HSr.out.more (by have := HK.out; have := HKM.out; omega), HG.out⟩
      have := HO.out
      rwa [HKM.out] at this

set_option maxHeartbeats 1000000 in
theorem P6Word_ok (w : World) (A : Option Addr) (c : Nat) (xs : List Int) (q : Int) (m : Nat) (hq : 1 ≤ q) (hq' : q ≤ 256) (hm : m ≤ 1000000) (hC : (Kd.int .u8).C w A xs.length xs) (hx : Bytes xs) :
    Calls Try.prog 17 #[.slice A xs.length c, .int .i64 q, .int .i64 m] w fun e w' => ∃ v ys, e = .returned v ∧ ys.length = m ∧ Lets ys q ∧ w'.ownsRow w.heap.size 5 1 v m (nums .u8 ys) ∧ Below w.heap.size w w' := by
  have HF := Lib.hid (l00From_ok w w A c xs hC hx (Below.refl _ _))
  clear hC hx
  go_enter Try.func17, Try.ntmps17
  go_wp2_with fail
  refine HF.out.mono ?_
  rintro e w1 ⟨g, rfl, hs, hb, hge⟩
  have HB := Lib.hid hb
  have HP := Lib.hid (l05Spelled_ok w w1 g 0 q m hq hq' hm (by omega) hs hb)
  clear hs hb
  go_wp2_with fail
  refine HP.out.mono ?_
  rintro e w2 ⟨v, ys, rfl, h0, h1, hO, hs2, hg2⟩
  have H0 := Lib.hid h0
  have H1 := Lib.hid h1
  have HO := Lib.hid (own_weaken hO HB.out.size)
  have HB2 := Lib.hid (grown_below HB.out hg2 (by intro k hk; injection hk with hk; omega))
  clear h0 h1 hs2 hg2 hO
  go_wp2_with fail
  go_ret
  exact ⟨v, ys, rfl, H0.out, H1.out, HO.out, HB2.out⟩
end Go.Proofs.Ytjadhhnajphibaa
namespace Go.Proofs.Ytjadhhnajphibaa

theorem cnt_congr {p q : Nat → Bool} : ∀ {n : Nat}, (∀ i, i < n → p i = q i) → cnt p n = cnt q n
  | 0, _ => rfl
  | n + 1, h => by rw [cnt, cnt, cnt_congr (fun i hi => h i (by omega)), h n (by omega)]
theorem cnt_tri {p q r : Nat → Bool} : ∀ {n : Nat}, (∀ i, i < n → r i = true → p i = true ∨ q i = true) → cnt r n ≤ cnt p n + cnt q n
  | 0, _ => Nat.zero_le _
  | n + 1, h => by
    have ih := cnt_tri (p := p) (q := q) (r := r) (n := n) (fun i hi => h i (by omega))
    rw [cnt, cnt, cnt]
    rcases hr : r n with _ | _
    · simp; omega
    · rcases h n (by omega) hr with h1 | h1
      · simp [h1]; omega
      · simp [h1]; omega
theorem cnt_zero {p : Nat → Bool} : ∀ {n : Nat}, (∀ i, i < n → p i = false) → cnt p n = 0
  | 0, _ => rfl
  | n + 1, h => by rw [cnt, cnt_zero (fun i hi => h i (by omega)), h n (by omega)]; rfl
theorem diffs_comm {xs ys : List Int} (h : xs.length = ys.length) : diffs xs ys = diffs ys xs := by
  unfold diffs diffsTo
  rw [h]
  exact cnt_congr fun i _ => bne_swap _ _
theorem diffs_tri {xs ys zs : List Int} (h : xs.length = ys.length) (h' : ys.length = zs.length) : diffs xs zs ≤ diffs xs ys + diffs ys zs := by
  unfold diffs diffsTo
  rw [← h]
  refine cnt_tri fun i _ hr => ?_
  by_cases e : rn xs i = rn ys i
  · right
    rw [bne_iff_ne] at hr ⊢
    rw [← e]; exact hr
  · left
    rw [bne_iff_ne]; exact e
theorem diffs_self (xs : List Int) : diffs xs xs = 0 := cnt_zero fun i _ => by simp
theorem diffs_le (xs ys : List Int) : diffs xs ys ≤ xs.length := cnt_le _ _

/-! ### words by rank -/
theorem wd_rn {q m r i : Nat} (h : i < m) : rn (wd q m r) i = ((r / q ^ (m - 1 - i) % q : Nat) : Int) := by simp [rn, wd, List.getD_eq_getElem?_getD, h]
theorem wd_lets {q m r : Nat} (hq : 1 ≤ q) : Lets (wd q m r) q := by
  intro i hi
  rw [wd_length] at hi
  rw [wd_rn hi]
  have : r / q ^ (m - 1 - i) % q < q := Nat.mod_lt _ (by omega)
  omega
theorem ext_rn {xs ys : List Int} (hl : xs.length = ys.length) (h : ∀ i, i < xs.length → rn xs i = rn ys i) : xs = ys := by
  apply List.ext_getElem hl
  intro i h1 h2
  have := h i h1
  simpa [rn, List.getD_eq_getElem?_getD, h1, h2] using this
theorem wd_snoc {q m r y : Nat} (hy : y < q) : wd q (m + 1) (r * q + y) = wd q m r ++ [(y : Int)] := by
  refine ext_rn (by simp [wd_length]) fun i hi => ?_
  rw [wd_length] at hi
  rw [wd_rn hi]
  by_cases e : i < m
  · rw [rn_snoc_lt (by rw [wd_length]; exact e), wd_rn e]
    have h1 : m + 1 - 1 - i = (m - 1 - i) + 1 := by omega
    rw [h1, Nat.pow_succ, Nat.mul_comm (q ^ _) q, ← Nat.div_div_eq_div_mul]
    have h2 : (r * q + y) / q = r := by
      rw [Nat.mul_comm, Nat.mul_add_div (by omega), Nat.div_eq_of_lt hy, Nat.add_zero]
    rw [h2]
  · have e1 : i = m := by omega
    subst e1
    have h2 := rn_snoc_eq (wd q i r) (y : Int)
    rw [wd_length] at h2
    rw [h2]
    have h1 : i + 1 - 1 - i = 0 := by omega
    rw [h1, Nat.pow_zero, Nat.div_one, Nat.mul_comm, Nat.mul_add_mod, Nat.mod_eq_of_lt hy]
theorem wd_surj {q : Nat} : ∀ (m : Nat) (ys : List Int), ys.length = m → Lets ys q → ∃ r, r < q ^ m ∧ ys = wd q m r
  | 0, ys, hl, _ => ⟨0, by simp, by have : ys = [] := List.eq_nil_of_length_eq_zero hl; simp [this, wd]⟩
  | m + 1, ys, hl, hy => by
    obtain ⟨zs, y, rfl⟩ : ∃ zs y, ys = zs ++ [y] := ⟨ys.dropLast, ys.getLast (by intro h; simp [h] at hl), (List.dropLast_concat_getLast _).symm⟩
    have hz : zs.length = m := by simpa using hl
    have hL : Lets zs q := fun i hi => by
      have := hy i (by simp; omega)
      rwa [rn_snoc_lt hi] at this
    have hlast := hy zs.length (by simp)
    rw [rn_snoc_eq] at hlast
    obtain ⟨r, hr, rfl⟩ := wd_surj m zs hz hL
    refine ⟨r * q + y.toNat, ?_, ?_⟩
    · rw [Nat.pow_succ]
      have h1 : (r + 1) * q ≤ q ^ m * q := Nat.mul_le_mul_right q hr
      rw [Nat.add_mul] at h1
      omega
    · rw [wd_snoc (by omega), Int.toNat_of_nonneg hlast.1]

/-! ### the words that are taken -/
theorem grTo_count (q m d r : Nat) : (grTo q m d r).length ≤ r := by
  induction r with
  | zero => simp [grTo]
  | succ r ih =>
    unfold grTo
    split
    · simp; omega
    · omega
theorem grTo_pre {q m d r : Nat} : ∀ k, (grTo q m d r).length ≤ (grTo q m d (r + k)).length ∧ ∀ i, i < (grTo q m d r).length → rl (grTo q m d (r + k)) i = rl (grTo q m d r) i
  | 0 => ⟨Nat.le_refl _, fun _ _ => rfl⟩
  | k + 1 => by
    have ih := grTo_pre (q := q) (m := m) (d := d) (r := r) k
    rw [show r + (k + 1) = (r + k) + 1 from rfl]
    by_cases hc : (grTo q m d (r + k)).length < 60 ∧ fitB (grTo q m d (r + k)) (wd q m (r + k)) d = true
    · rw [grTo_yes hc.1 hc.2]
      refine ⟨by simp; omega, fun i hi => ?_⟩
      rw [rl_append_left (by omega)]
      exact ih.2 i hi
    · rw [grTo_no hc]
      exact ih
theorem grTo_pos {q m d r : Nat} (hr : 1 ≤ r) : 1 ≤ (grTo q m d r).length := by
  have h1 : (grTo q m d 1).length = 1 := by
    rw [show (1 : Nat) = 0 + 1 from rfl, grTo_yes (by simp [grTo]) (by simp [grTo, fitB, allB])]
    simp [grTo]
  have := (grTo_pre (q := q) (m := m) (d := d) (r := 1) (r - 1)).1
  rw [show 1 + (r - 1) = r by omega] at this
  omega
theorem grTo_lets {q m d r : Nat} (hq : 1 ≤ q) {k : Nat} (h : k < (grTo q m d r).length) : Lets (rl (grTo q m d r) k) q := by
  induction r with
  | zero => simp [grTo] at h
  | succ r ih =>
    by_cases hc : (grTo q m d r).length < 60 ∧ fitB (grTo q m d r) (wd q m r) d = true
    · rw [grTo_yes hc.1 hc.2] at h ⊢
      by_cases hk : k < (grTo q m d r).length
      · rw [rl_append_left hk]; exact ih hk
      · rw [rl_append_right (by omega)]
        have : k - (grTo q m d r).length = 0 := by simp at h; omega
        rw [this]
        exact wd_lets hq
    · rw [grTo_no hc] at h ⊢
      exact ih h
theorem grTo_apart {q m d r : Nat} {i k : Nat} (hik : i < k) (h : k < (grTo q m d r).length) : d ≤ diffs (rl (grTo q m d r) i) (rl (grTo q m d r) k) := by
  induction r with
  | zero => simp [grTo] at h
  | succ r ih =>
    by_cases hc : (grTo q m d r).length < 60 ∧ fitB (grTo q m d r) (wd q m r) d = true
    · rw [grTo_yes hc.1 hc.2] at h ⊢
      by_cases hk : k < (grTo q m d r).length
      · rw [rl_append_left hk, rl_append_left (show i < (grTo q m d r).length by omega)]; exact ih hk
      · have e1 : k = (grTo q m d r).length := by simp at h; omega
        rw [rl_append_left (show i < (grTo q m d r).length by omega), rl_append_right (show (grTo q m d r).length ≤ k by omega)]
        have e2 : k - (grTo q m d r).length = 0 := by omega
        rw [e2]
        exact of_decide_eq_true (allB_iff.1 hc.2 i (by omega))
    · rw [grTo_no hc] at h ⊢
      exact ih h
/-- no other word could be added. -/
theorem grTo_max {q m d N r : Nat} (hd : 1 ≤ d) (hr : r < N) (hl : (grTo q m d N).length < 60) : ∃ i, i < (grTo q m d N).length ∧ diffs (rl (grTo q m d N) i) (wd q m r) < d := by
  have h0 := grTo_pre (q := q) (m := m) (d := d) (r := r) (N - r)
  rw [show r + (N - r) = N by omega] at h0
  have h1 := grTo_pre (q := q) (m := m) (d := d) (r := r + 1) (N - (r + 1))
  rw [show r + 1 + (N - (r + 1)) = N by omega] at h1
  by_cases hf : fitB (grTo q m d r) (wd q m r) d = true
  · have hy := grTo_yes (by omega) hf
    rw [hy] at h1
    refine ⟨(grTo q m d r).length, by have := h1.1; simp at this; omega, ?_⟩
    rw [h1.2 _ (by simp), rl_append_right (Nat.le_refl _)]
    simp [rl, diffs_self]
    omega
  · have hf' : fitB (grTo q m d r) (wd q m r) d = false := by simpa using hf
    have : ¬ ∀ i, i < (grTo q m d r).length → decide (d ≤ diffs (rl (grTo q m d r) i) (wd q m r)) = true := fun hc => hf (allB_iff.2 hc)
    obtain ⟨i, hi⟩ := Classical.not_forall.1 this
    obtain ⟨hi1, hi2⟩ := Classical.not_imp.1 hi
    refine ⟨i, by omega, ?_⟩
    rw [h0.2 i hi1]
    simpa using hi2
theorem a1 : (grTo 2 3 3 (pw 2 3)).length ≤ sphV 2 3 3 := by decide +kernel
theorem a2 : (grTo 3 3 3 (pw 3 3)).length ≤ sphV 3 3 3 := by decide +kernel
theorem a3 : (grTo 4 3 3 (pw 4 3)).length ≤ sphV 4 3 3 := by decide +kernel
theorem a4 : (grTo 2 4 3 (pw 2 4)).length ≤ sphV 2 4 3 := by decide +kernel
theorem a5 : (grTo 3 4 3 (pw 3 4)).length ≤ sphV 3 4 3 := by decide +kernel
theorem a6 : (grTo 4 4 3 (pw 4 4)).length ≤ sphV 4 4 3 := by decide +kernel
theorem a7 : (grTo 2 4 4 (pw 2 4)).length ≤ sphV 2 4 4 := by decide +kernel
theorem a8 : (grTo 3 4 4 (pw 3 4)).length ≤ sphV 3 4 4 := by decide +kernel
theorem a9 : (grTo 4 4 4 (pw 4 4)).length ≤ sphV 4 4 4 := by decide +kernel
theorem gr_bound {q m d : Nat} (hq : 2 ≤ q) (hq' : q ≤ 4) (hd : 1 ≤ d) (hd' : d ≤ m) (hm : m ≤ 4) : (grTo q m d (pw q m)).length ≤ sphV q m d := by
  by_cases h : d ≤ 2
  · have : sphV q m d = pw q m := by simp [sphV, nearV, h]
    rw [this]
    exact grTo_count ..
  · have h1 : q = 2 ∨ q = 3 ∨ q = 4 := by omega
    have h2 : (m = 3 ∧ d = 3) ∨ (m = 4 ∧ d = 3) ∨ (m = 4 ∧ d = 4) := by omega
    rcases h1 with rfl | rfl | rfl <;> rcases h2 with ⟨rfl, rfl⟩ | ⟨rfl, rfl⟩ | ⟨rfl, rfl⟩
    · exact a1
    · exact a4
    · exact a7
    · exact a2
    · exact a5
    · exact a8
    · exact a3
    · exact a6
    · exact a9
end Go.Proofs.Ytjadhhnajphibaa
