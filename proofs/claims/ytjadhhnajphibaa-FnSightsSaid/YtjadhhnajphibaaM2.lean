/- Marks that are held; marks in words and codes. -/
import Derived.Test.YtjadhhnajphibaaM1
set_option linter.unusedVariables false
set_option linter.unusedSimpArgs false
namespace Go.Proofs.Ytjadhhnajphibaa
open Go.RowKit Go.Proofs.YtjadhhnajphibaaW.PrintWords

theorem mk8_val {k m i : Nat} {f : Nat → Int} (h : i < m) : mk8 k m i f = (((k : Int) + i)) % 256 := by simp only [mk8, if_pos h]; push_cast; rfl
theorem mk64_val {k m i : Nat} {f : Nat → Int} (h : i < m) : mk64 k m i f = ((k : Int) + i) := by simp only [mk64, if_pos h]; push_cast; rfl

set_option maxRecDepth 100000 in
set_option maxHeartbeats 2000000 in
theorem heldSightS_ok (A : Option Addr) (c n k0 g t : Nat) (f : Nat → Int) (w : World) (hn : n ≤ 1048576) (hk : k0 ≤ 1000000000000) (h0 : 0 < n → A = some ⟨g, 0, none⟩ ∧ NF .u8 w g t (n * 6) (mk8 k0 (n * 6) · f)) :
    Calls Try.prog 31 #[.slice A n c, .int .i64 k0] w fun e w' => e = .returned (.int .i64 (k0 + n * 6 : Nat)) ∧ w' = w := by
  have H0 := Lib.hid h0
  clear h0
  go_enter Try.func31, Try.ntmps31
  go_wp2
  go_loopw [1, 5, 6] (fun v i u wr => ∃ p : Nat, p ≤ n ∧ i = .int .i64 p ∧ v = .int .i64 (k0 + p * 6 : Nat) ∧ wr = w) (fun _ i _ _ => n - (intOf i).toNat)
  case atStart => exact ⟨0, Nat.zero_le _, rfl, by simp, rfl⟩
  case round =>
    obtain ⟨p, hp, rfl, rfl, rfl⟩ := hrel
    by_cases hlt : p < n
    · have hlti : (p : Int) < (n : Int) := by omega
      obtain ⟨rfl, hn1⟩ := H0.out (by omega)
      have HN1 := Lib.hid hn1
      clear hn1
      go_wp2
      go_loopw [1, 6] (fun v u wr' => ∃ j : Nat, j ≤ 6 ∧ u = .int .i64 j ∧ v = .int .i64 (k0 + (p * 6 + j) : Nat) ∧ wr' = wr) (fun _ u _ => 6 - (intOf u).toNat)
      case atStart => exact ⟨0, Nat.zero_le _, rfl, by go_num, rfl⟩
      case round =>
        obtain ⟨j, hj, rfl, rfl, rfl⟩ := hrel
        by_cases hj2 : j < 6
        · have hji : (j : Int) < 6 := by omega
          have hpos : p * 6 + j < n * 6 := by omega
          have hc := HN1.out.cell hpos
          rw [mk8_val hpos] at hc
          push_cast at hc
          have hq : ((((k0 : Int) + (↑p * 6 + ↑j)) % 256) != (((k0 : Int) + (↑p * 6 + ↑j)) % 256)) = false := by simp
          go_wp2
          go_roundw
          case rel => exact ⟨j + 1, by omega, by go_num, by go_num, by first | rfl | trivial⟩
          case measure => first|(simp [intOf]; done)|(simp [intOf]; omega)
        · obtain rfl : j = 6 := by omega
          go_wp2
          go_roundw
          case rel => exact ⟨p + 1, by omega, by go_num, by go_num, by first | rfl | trivial⟩
          case measure => first|(simp [intOf]; done)|(simp [intOf]; omega)
    · obtain rfl : p = n := by omega
      go_wp2
      go_ret
      exact ⟨rfl, rfl⟩

set_option maxRecDepth 100000 in
set_option maxHeartbeats 2000000 in
theorem markWord_ok (A : Option Addr) (c n k0 g t : Nat) (f : Nat → Int) (w : World) (hn : n ≤ 1048576) (hk : k0 ≤ 2000000000000) (h0 : 0 < n → A = some ⟨g, 0, none⟩ ∧ NF .u8 w g t n f) :
    Calls Try.prog 118 #[.slice A n c, .int .i64 k0] w fun e w' => e = .returned (.int .i64 (k0 + n : Nat)) ∧ (NF .u8 w g t n f → NF .u8 w' g t n (mk8 k0 n · f)) ∧ Mid g (g + 1) w w' := by
  have H0 := Lib.hid h0
  clear h0
  go_enter Try.func118, Try.ntmps118
  go_wp2
  go_loopw [1, 5] (fun v i wr => ∃ p : Nat, p ≤ n ∧ i = .int .i64 p ∧ v = .int .i64 (k0 + p : Nat) ∧ Hid (NF .u8 w g t n f → NF .u8 wr g t n (mk8 k0 p · f)) ∧ Hid (Mid g (g + 1) w wr)) (fun _ i _ => n - (intOf i).toNat)
  case atStart => exact ⟨0, Nat.zero_le _, rfl, by simp, fun h => h.ext (fun i hi => by simp [mk8]), Mid.refl _ _ _⟩
  case round =>
    obtain ⟨p, hp, rfl, rfl, HN, HM⟩ := hrel
    by_cases hlt : p < n
    · have hlti : (p : Int) < (n : Int) := by omega
      obtain ⟨rfl, hnf⟩ := H0.out (by omega)
      have HN1 := Lib.hid (HN.out hnf)
      clear hnf
      clear HN
      have hc := HN1.out.cell hlt
      have hf := HN1.out.frozen p
      generalize mk8 k0 p p f = old at hc
      go_wp2
      go_roundw
      case rel =>
        refine ⟨p + 1, by omega, by go_num, by go_num, fun _ => ?_, Mid.set HM.out (by simp) (by simp) _⟩
        refine (NF.set HN1.out hlt _).ext (fun i hi => ?_)
        simp only [mk8]
        by_cases e : i = p
        · subst e
          rw [if_pos rfl, if_pos (by omega)]
          push_cast
          rfl
        · rw [if_neg e]
          by_cases e2 : i < p
          · rw [if_pos e2, if_pos (by omega)]
          · rw [if_neg e2, if_neg (by omega)]
      case measure => first|(simp [intOf]; done)|(simp [intOf]; omega)
    · obtain rfl : p = n := by omega
      go_wp2
      go_ret
      exact ⟨rfl, HN.out, HM.out⟩

set_option maxRecDepth 100000 in
set_option maxHeartbeats 2000000 in
theorem markInt64S_ok (A : Option Addr) (c n k0 g t : Nat) (f : Nat → Int) (w : World) (hn : n ≤ 1048576) (hk : k0 ≤ 2000000000000) (h0 : 0 < n → A = some ⟨g, 0, none⟩ ∧ NF .i64 w g t n f) :
    Calls Try.prog 39 #[.slice A n c, .int .i64 k0] w fun e w' => e = .returned (.int .i64 (k0 + n : Nat)) ∧ (NF .i64 w g t n f → NF .i64 w' g t n (mk64 k0 n · f)) ∧ Mid g (g + 1) w w' := by
  have H0 := Lib.hid h0
  clear h0
  go_enter Try.func39, Try.ntmps39
  go_wp2
  go_loopw [1, 5] (fun v i wr => ∃ p : Nat, p ≤ n ∧ i = .int .i64 p ∧ v = .int .i64 (k0 + p : Nat) ∧ Hid (NF .i64 w g t n f → NF .i64 wr g t n (mk64 k0 p · f)) ∧ Hid (Mid g (g + 1) w wr)) (fun _ i _ => n - (intOf i).toNat)
  case atStart => exact ⟨0, Nat.zero_le _, rfl, by simp, fun h => h.ext (fun i hi => by simp [mk64]), Mid.refl _ _ _⟩
  case round =>
    obtain ⟨p, hp, rfl, rfl, HN, HM⟩ := hrel
    by_cases hlt : p < n
    · have hlti : (p : Int) < (n : Int) := by omega
      obtain ⟨rfl, hnf⟩ := H0.out (by omega)
      have HN1 := Lib.hid (HN.out hnf)
      clear hnf
      clear HN
      have hc := HN1.out.cell hlt
      have hf := HN1.out.frozen p
      generalize mk64 k0 p p f = old at hc
      go_wp2
      go_roundw
      case rel =>
        refine ⟨p + 1, by omega, by go_num, by go_num, fun _ => ?_, Mid.set HM.out (by simp) (by simp) _⟩
        refine (NF.set HN1.out hlt _).ext (fun i hi => ?_)
        simp only [mk64]
        by_cases e : i = p
        · subst e
          rw [if_pos rfl, if_pos (by omega)]
          push_cast
          rfl
        · rw [if_neg e]
          by_cases e2 : i < p
          · rw [if_pos e2, if_pos (by omega)]
          · rw [if_neg e2, if_neg (by omega)]
      case measure => first|(simp [intOf]; done)|(simp [intOf]; omega)
    · obtain rfl : p = n := by omega
      go_wp2
      go_ret
      exact ⟨rfl, HN.out, HM.out⟩


set_option maxHeartbeats 2000000 in
theorem heldInt64S_ok (A : Option Addr) (c n k0 g t : Nat) (f : Nat → Int) (w : World) (hn : n ≤ 1048576) (hk : k0 ≤ 1000000000000) (h0 : 0 < n → A = some ⟨g, 0, none⟩ ∧ NF .i64 w g t n (mk64 k0 n · f)) :
    Calls Try.prog 40 #[.slice A n c, .int .i64 k0] w fun e w' => e = .returned (.int .i64 (k0 + n : Nat)) ∧ w' = w := by
  have H0 := Lib.hid h0
  clear h0
  go_enter Try.func40, Try.ntmps40
  go_wp2
  go_loopw [1, 5] (fun v i wr => ∃ p : Nat, p ≤ n ∧ i = .int .i64 p ∧ v = .int .i64 (k0 + p : Nat) ∧ wr = w) (fun _ i _ => n - (intOf i).toNat)
  case atStart => exact ⟨0, Nat.zero_le _, rfl, by simp, rfl⟩
  case round =>
    obtain ⟨p, hp, rfl, rfl, rfl⟩ := hrel
    by_cases hlt : p < n
    · have hlti : (p : Int) < (n : Int) := by omega
      obtain ⟨rfl, hn1⟩ := H0.out (by omega)
      have hc := NF.cell hn1 hlt
      rw [mk64_val hlt] at hc
      clear hn1
      have hq : ((((k0 : Int) + (↑p))) != (((k0 : Int) + (↑p)))) = false := by simp
      go_wp2
      go_roundw
      case rel => exact ⟨p + 1, by omega, by go_num, by go_num, by first | rfl | trivial⟩
      case measure => first|(simp [intOf]; done)|(simp [intOf]; omega)
    · obtain rfl : p = n := by omega
      go_wp2
      go_ret
      exact ⟨rfl, rfl⟩
end Go.Proofs.Ytjadhhnajphibaa
