/- Flags and sights: valid, and how far apart. -/
import Derived.Test.YtjadhhnajphibaaM3
import Derived.Test.YtjadhhnajphibaaW6
import Derived.Test.YtjadhhnajphibaaW13
set_option linter.unusedVariables false
set_option linter.unusedSimpArgs false
namespace Go.Proofs.Ytjadhhnajphibaa
open Go.RowKit Go.Proofs.YtjadhhnajphibaaW.PrintWords

/-- all are colours. -/
def okF (f : List Int) : Bool := allB (fun i => !decide (5 < rn f i)) f.length
theorem okF_no {f : List Int} {k : Nat} (hk : k < f.length) (h : decide (5 < rn f k) = true) : okF f = false := allB_no hk (by rw [h]; rfl)
theorem okF_yes {f : List Int} (h : ∀ j, j < f.length → decide (5 < rn f j) = false) : okF f = true := allB_iff.2 fun i hi => by rw [h i hi]; rfl
def okS (ss : List (List Int)) : Bool := allB (fun i => okF (rl ss i)) ss.length
theorem okS_no {ss : List (List Int)} {k : Nat} (hk : k < ss.length) (h : okF (rl ss k) = false) : okS ss = false := allB_no hk h
theorem okS_yes {ss : List (List Int)} (h : ∀ j, j < ss.length → okF (rl ss j) = true) : okS ss = true := allB_iff.2 h
theorem cells_nums {w : World} {f : List Int} {a : Addr} (h : ∀ j v, (nums .u8 f)[j]? = some v → w.cell? (a.add j) = some v) {k : Nat} (hk : k < f.length) : w.cell? (a.add k) = some (.int .u8 (rn f k)) :=
  h k _ (by simp [nums, rn, List.getElem?_eq_getElem hk, List.getD_eq_getElem?_getD])

set_option maxHeartbeats 2000000 in
theorem l01Ok_ok (ad : Addr) (f : List Int) (hf : f.length = 24) (w : World) (h0 : ∀ j v, (nums .u8 f)[j]? = some v → w.cell? (ad.add j) = some v) :
    Calls Try.prog 111 #[.pointer (some ad)] w fun e w' => e = .returned (.bool (okF f)) ∧ w = w' := by
  have H0 := Lib.hid h0
  have HF := Lib.hid hf
  clear h0 hf
  go_enter Try.func111, Try.ntmps111
  go_wp2
  go_loop [3] (fun i => ∃ k : Nat, k ≤ 24 ∧ i = .int .i64 k ∧ Hid (∀ j, j < k → decide (5 < rn f j) = false)) (fun i => 24 - (intOf i).toNat)
  case atStart => exact ⟨0, Nat.zero_le _, rfl, fun j hj => absurd hj (by omega)⟩
  case round =>
    obtain ⟨k, hk, rfl, HA⟩ := hrel
    by_cases hlt : k < 24
    · have hx0 := cells_nums H0.out (k := k) (by rw [HF.out]; exact hlt)
      have hlti : (k : Int) < 24 := by omega
      rcases hc : decide (5 < rn f k) with _ | _
      · have HS := Lib.hid hc
        go_wp2
        go_round
        case rel =>
          refine ⟨k + 1, by omega, by go_num, fun j hj => ?_⟩
          by_cases e : j = k
          · rw [e]; exact HS.out
          · exact HA.out j (by omega)
        case measure => first|(simp [intOf]; done)|(simp [intOf]; omega)
      · have HS := Lib.hid (okF_no (by rw [HF.out]; exact hlt) hc)
        go_wp2
        go_ret
        exact ⟨ret_bool HS.out.symm, rfl⟩
    · obtain rfl : k = 24 := by omega
      have HS := Lib.hid (okF_yes (f := f) (by rw [HF.out]; exact HA.out))
      go_wp2
      go_ret
      exact ⟨ret_bool HS.out.symm, rfl⟩

set_option maxHeartbeats 2000000 in
theorem l05Seen_ok (A0 : Option Addr) (c0 : Nat) (ss : List (List Int)) (w : World) (h0 : (Karr 6).C w A0 ss.length ss) :
    Calls Try.prog 91 #[.slice A0 ss.length c0] w fun e w' => e = .returned (.bool (okS ss)) ∧ w = w' := by
  have hm : ss.length ≤ 9223372036854775807 := h0.2.1
  have H0 := Lib.hid h0
  clear h0
  go_enter Try.func91, Try.ntmps91
  go_wp2
  go_loop [3, 4] (fun i u => ∃ k : Nat, k ≤ ss.length ∧ i = .int .i64 k ∧ Hid (∀ j, j < k → okF (rl ss j) = true)) (fun i _ => ss.length - (intOf i).toNat)
  case atStart => exact ⟨0, Nat.zero_le _, rfl, fun j hj => absurd hj (by omega)⟩
  case round =>
    obtain ⟨k, hk, rfl, HA⟩ := hrel
    by_cases hlt : k < ss.length
    · obtain ⟨ad0, rfl, hl0, hx0⟩ := at_arr H0.out hlt
      have hlti : (k : Int) < (ss.length : Int) := by omega
      have HX := Lib.hid hx0
      have HL := Lib.hid hl0
      clear hx0 hl0
      go_wp2
      go_loop [4] (fun i => ∃ j : Nat, j ≤ 6 ∧ i = .int .i64 j ∧ Hid (∀ i, i < j → decide (5 < rn (rl ss k) i) = false)) (fun i => 6 - (intOf i).toNat)
      case atStart => exact ⟨0, Nat.zero_le _, rfl, fun j hj => absurd hj (by omega)⟩
      case round =>
        obtain ⟨j, hj, rfl, HJ⟩ := hrel
        by_cases hlt2 : j < 6
        · have hx1 := cells_nums HX.out (k := j) (by rw [HL.out]; exact hlt2)
          have hltj : (j : Int) < 6 := by omega
          rcases hc : decide (5 < rn (rl ss k) j) with _ | _
          · have HS := Lib.hid hc
            go_wp2
            go_round
            case rel =>
              refine ⟨j + 1, by omega, by go_num, fun i hi => ?_⟩
              by_cases e : i = j
              · rw [e]; exact HS.out
              · exact HJ.out i (by omega)
            case measure => first|(simp [intOf]; done)|(simp [intOf]; omega)
          · have HS := Lib.hid (okS_no hlt (okF_no (by rw [HL.out]; exact hlt2) hc))
            go_wp2
            go_ret
            exact ⟨ret_bool HS.out.symm, rfl⟩
        · obtain rfl : j = 6 := by omega
          have HS := Lib.hid (okF_yes (f := rl ss k) (by rw [HL.out]; exact HJ.out))
          go_wp2
          go_round
          case rel =>
            refine ⟨k + 1, by omega, by go_num, fun i hi => ?_⟩
            by_cases e : i = k
            · rw [e]; exact HS.out
            · exact HA.out i (by omega)
          case measure => first|(simp [intOf]; done)|(simp [intOf]; omega)
    · obtain rfl : k = ss.length := by omega
      have HS := Lib.hid (okS_yes HA.out)
      go_wp2
      go_ret
      exact ⟨ret_bool HS.out.symm, rfl⟩

/-- in how many blocks sights differ. -/
def farTo (a b : List (List Int)) (k : Nat) : Nat := sumTo (fun i => diffs (rl a i) (rl b i)) k
def farS (a b : List (List Int)) : Nat := farTo a b a.length
theorem farTo_le {a b : List (List Int)} (h : ∀ i, (rl a i).length ≤ 6) (k : Nat) : farTo a b k ≤ 6 * k := by
  induction k with
  | zero => exact Nat.le_refl _
  | succ k ih =>
    have : farTo a b (k + 1) = farTo a b k + diffs (rl a k) (rl b k) := rfl
    have h1 : diffs (rl a k) (rl b k) ≤ (rl a k).length := cnt_le _ _
    have := h k
    omega

set_option maxHeartbeats 2000000 in
theorem l05Far_ok (A0 : Option Addr) (c0 : Nat) (a : List (List Int)) (A1 : Option Addr) (c1 : Nat) (b : List (List Int)) (w : World) (h0 : (Karr 6).C w A0 a.length a) (h1 : (Karr 6).C w A1 b.length b) (hl : a.length ≤ b.length) (hb : a.length ≤ 1000000000000) :
    Calls Try.prog 80 #[.slice A0 a.length c0, .slice A1 b.length c1] w fun e w' => e = .returned (.int .i64 (farS a b)) ∧ ∃ q, w' = w.drewN q := by
  have hm : a.length ≤ 9223372036854775807 := h0.2.1
  have hfl : ∀ i, (rl a i).length ≤ 6 := fun i => by
    rcases Nat.lt_or_ge i a.length with h | h
    · rw [(C_lens h0).2 i h]; omega
    · simp [rl, List.getD_eq_getElem?_getD, List.getElem?_eq_none h]
  have H0 := Lib.hid h0
  have H1 := Lib.hid h1
  have HFL := Lib.hid (farTo_le (b := b) hfl)
  clear h0 h1 hfl
  go_enter Try.func80, Try.ntmps80
  go_wp2
  go_loopw [5, 6, 7] (fun m i u wr => ∃ k q : Nat, k ≤ a.length ∧ i = .int .i64 k ∧ m = .int .i64 (farTo a b k) ∧ wr = w.drewN q) (fun _ i _ _ => a.length - (intOf i).toNat)
  case atStart => exact ⟨0, 0, Nat.zero_le _, rfl, rfl, rfl⟩
  case round =>
    obtain ⟨k, q, hk, rfl, rfl, rfl⟩ := hrel
    have hfk := HFL.out k
    by_cases hlt : k < a.length
    · obtain ⟨ad0, rfl, hl0, hx0⟩ := at_arr H0.out hlt
      obtain ⟨ad1, rfl, hl1, hx1⟩ := at_arr H1.out (show k < b.length by omega)
      have hlti : (k : Int) < (a.length : Int) := by omega
      have hlti1 : (k : Int) < (b.length : Int) := by omega
      have HX := Lib.hid hx0
      have HL := Lib.hid hl0
      have HX1 := Lib.hid hx1
      have HL1 := Lib.hid hl1
      have HST : Hid (farTo a b (k + 1) = farTo a b k + diffs (rl a k) (rl b k)) := rfl
      have HD : Hid (diffs (rl a k) (rl b k) = diffsTo (rl a k) (rl b k) 6) := by unfold Hid diffs; rw [hl0]
      clear hx0 hl0 hx1 hl1
      generalize farTo a b k = F at *
      go_wp2
      go_loopw [5, 7] (fun m i wr => ∃ j q : Nat, j ≤ 6 ∧ i = .int .i64 j ∧ m = .int .i64 (F + diffsTo (rl a k) (rl b k) j : Nat) ∧ wr = w.drewN q) (fun _ i _ => 6 - (intOf i).toNat)
      case atStart => exact ⟨0, _, Nat.zero_le _, rfl, rfl, rfl⟩
      case round =>
        obtain ⟨j, q, hj, rfl, rfl, rfl⟩ := hrel
        have hcl := diffsTo_le (rl a k) (rl b k) j
        by_cases hlt2 : j < 6
        · have hx2 := cells_nums HX.out (k := j) (by rw [HL.out]; exact hlt2)
          have hx3 := cells_nums HX1.out (k := j) (by rw [HL1.out]; exact hlt2)
          have hltj : (j : Int) < 6 := by omega
          rcases hc : (rn (rl a k) j != rn (rl b k) j) with _ | _
          · have HS := Lib.hid (diffsTo_no hc)
            go_wp2
            go_quiet (fail)
            go_wp2
            go_roundw
            case rel => exact ⟨j + 1, _, by omega, by go_num, by rw [HS.out], rfl⟩
            case measure => first|(simp [intOf]; done)|(simp [intOf]; omega)
          · have HS := Lib.hid (diffsTo_yes hc)
            go_wp2
            go_quiet (fail)
            go_wp2
            go_roundw
            case rel => exact ⟨j + 1, _, by omega, by go_num, by rw [HS.out]; (first | done | go_num), rfl⟩
            case measure => first|(simp [intOf]; done)|(simp [intOf]; omega)
        · obtain rfl : j = 6 := by omega
          go_wp2
          go_roundw
          case rel => exact ⟨k + 1, _, by omega, by go_num, by rw [HST.out, HD.out], rfl⟩
          case measure => first|(simp [intOf]; done)|(simp [intOf]; omega)
    · obtain rfl : k = a.length := by omega
      go_wp2
      go_ret
      exact ⟨rfl, _, rfl⟩
end Go.Proofs.Ytjadhhnajphibaa
