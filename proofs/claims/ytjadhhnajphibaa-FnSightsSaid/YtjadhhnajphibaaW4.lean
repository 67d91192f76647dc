/- Words that are valid; lists of words that are compared. -/
import Derived.Test.YtjadhhnajphibaaW1
import Derived.Test.YtjadhhnajphibaaW3
set_option linter.unusedVariables false
set_option linter.unusedSimpArgs false
namespace Go.Proofs.Ytjadhhnajphibaa
open Go.RowKit Go.Proofs.YtjadhhnajphibaaW.PrintWords

def Bytes (xs : List Int) : Prop := ∀ i, 0 ≤ rn xs i ∧ rn xs i ≤ 255
/-- a word of 1 to 8 letters that are less than q. -/
def wordB (xs : List Int) (q : Int) : Bool := inB xs.length 1 8 && allB (fun i => decide (rn xs i < q)) xs.length
theorem wordB_no {xs : List Int} {q : Int} {k : Nat} (hk : k < xs.length) (h : decide (37 ≤ rn xs k) = true) (hq : q ≤ 37) : wordB xs q = false := by
  unfold wordB
  rw [allB_no hk (by simp at h; simp; omega), Bool.and_false]
theorem wordB_37 {xs : List Int} (h : ∀ i, i < xs.length → decide (37 ≤ rn xs i) = false) : inB xs.length 1 8 = wordB xs 37 := by
  unfold wordB
  rw [allB_iff.2 (fun i hi => by have := h i hi; simp at this; simp; omega), Bool.and_true]

set_option maxHeartbeats 1000000 in
theorem l05Word_ok (A0 : Option Addr) (c0 : Nat) (xs : List Int) (w : World) (h0 : (Kd.int .u8).C w A0 xs.length xs) :
    Calls Try.prog 74 #[.slice A0 xs.length c0] w fun e w' => e = .returned (.bool (wordB xs 37)) ∧ w = w' := by
  have hm : xs.length ≤ 9223372036854775807 := h0.2.1
  have H0 := Lib.hid h0
  clear h0
  go_enter Try.func74, Try.ntmps74
  go_wp2
  go_loop [3] (fun i => ∃ k : Nat, k ≤ xs.length ∧ i = .int .i64 k ∧ Hid (∀ j, j < k → decide (37 ≤ rn xs j) = false)) (fun i => xs.length - (intOf i).toNat)
  case atStart => exact ⟨0, Nat.zero_le _, rfl, fun j hj => absurd hj (by omega)⟩
  case round =>
    obtain ⟨k, hk, rfl, HA⟩ := hrel
    by_cases hlt : k < xs.length
    · obtain ⟨ad0, rfl, hx0⟩ := at_nat H0.out hlt
      rcases hc : decide (37 ≤ rn xs k) with _ | _
      · have HS := Lib.hid hc
        go_wp2
        go_round
        case rel =>
          refine ⟨k + 1, by omega, by go_num, fun j hj => ?_⟩
          by_cases e : j = k
          · rw [e]; exact HS.out
          · exact HA.out j (by omega)
        case measure => first|(simp [intOf]; done)|(simp [intOf]; omega)
      · have HS := Lib.hid (wordB_no hlt hc (Int.le_refl 37))
        go_wp2
        go_ret
        exact ⟨ret_bool HS.out.symm, rfl⟩
    · obtain rfl : k = xs.length := by omega
      have HS := Lib.hid (wordB_37 HA.out)
      go_wp2_with (go_at_call 62; refine (l00In_ok _ _ _ _).mono ?_; rintro e w' ⟨rfl, rfl⟩)
      go_ret
      exact ⟨ret_bool HS.out, rfl⟩

/-- valid words of one length, their letters less than q. -/
def wordsB (xss : List (List Int)) (q : Int) : Bool := allB (fun i => wordB (rl xss i) q && decide ((rl xss i).length = (rl xss 0).length)) xss.length

set_option maxHeartbeats 2000000 in
theorem l05Words_ok (A0 : Option Addr) (c0 : Nat) (xss : List (List Int)) (w : World) (h0 : (Kd.slice 5 (Kd.int .u8)).C w A0 xss.length xss) :
    Calls Try.prog 73 #[.slice A0 xss.length c0] w fun e w' => e = .returned (.bool (wordsB xss 37)) ∧ ∃ q, w' = w.drewN q := by
  have hm : xss.length ≤ 9223372036854775807 := h0.2.1
  have H0 := Lib.hid h0
  clear h0
  go_enter Try.func73, Try.ntmps73
  go_wp2
  go_loopw [3] (fun i wr => ∃ k q : Nat, k ≤ xss.length ∧ i = .int .i64 k ∧ Hid (∀ j, j < k → (wordB (rl xss j) 37 && decide ((rl xss j).length = (rl xss 0).length)) = true) ∧ wr = w.drewN q) (fun i _ => xss.length - (intOf i).toNat)
  case atStart => exact ⟨0, 0, Nat.zero_le _, rfl, fun j hj => absurd hj (by omega), rfl⟩
  case round =>
    obtain ⟨k, q, hk, rfl, HA, rfl⟩ := hrel
    by_cases hlt : k < xss.length
    · obtain ⟨ad0, A1, c1, rfl, hx0, hl1, hr1⟩ := at_row H0.out hlt
      obtain ⟨_, A2, c2, e2, hx2, hl2, hr2⟩ := at_row H0.out (show 0 < xss.length by omega)
      cases e2
      rw [Addr.add_zero'] at hx2
      have hlti : (k : Int) < (xss.length : Int) := by omega
      have h0i : (0 : Int) < (xss.length : Int) := by omega
      have h0n : 0 < xss.length := by omega
      have hn1 : (rl xss k).length ≤ 9223372036854775807 := hr1.2.1
      have hn2 : (rl xss 0).length ≤ 9223372036854775807 := hr2.2.1
      have HR1 := Lib.hid hr1
      clear hr1 hr2
      rcases hc : wordB (rl xss k) 37 with _ | _
      · have HS := Lib.hid (show wordsB xss 37 = false from allB_no hlt (by rw [hc]; rfl))
        have hcall : ∀ n, Calls Try.prog 74 #[.slice A1 (rl xss k).length c1] (w.drewN n) fun e w' => e = .returned (.bool false) ∧ w.drewN n = w' := by
          intro n
          rw [← hc]
          exact l05Word_ok A1 c1 _ _ HR1.out
        have HC := Lib.hid hcall
        clear hcall
        go_wp2
        go_quiet ((go_at_call 74; first | exact quiet_add_same (HC.out _) | exact quiet_same (HC.out _)))
        go_wp2
        go_ret
        exact ⟨ret_bool HS.out.symm, _, World.drewN_drewN ..⟩
      · have hcall : ∀ n, Calls Try.prog 74 #[.slice A1 (rl xss k).length c1] (w.drewN n) fun e w' => e = .returned (.bool true) ∧ w.drewN n = w' := by
          intro n
          rw [← hc]
          exact l05Word_ok A1 c1 _ _ HR1.out
        have HC := Lib.hid hcall
        clear hcall
        by_cases hl : (rl xss k).length = (rl xss 0).length
        · have hlb : (((rl xss k).length : Int) != ((rl xss 0).length : Int)) = false := by simp [hl]
          have HL := Lib.hid (show (wordB (rl xss k) 37 && decide ((rl xss k).length = (rl xss 0).length)) = true by simp [hc, hl])
          clear hl hc
          go_wp2
          go_quiet ((go_at_call 74; first | exact quiet_add_same (HC.out _) | exact quiet_same (HC.out _)))
          go_wp2
          go_roundw
          case rel =>
            refine ⟨k + 1, _, by omega, by go_num, fun j hj => ?_, rfl⟩
            by_cases e : j = k
            · rw [e]; exact HL.out
            · exact HA.out j (by omega)
          case measure => first|(simp [intOf]; done)|(simp [intOf]; omega)
        · have hlb : (((rl xss k).length : Int) != ((rl xss 0).length : Int)) = true := by simp; omega
          have HS := Lib.hid (show wordsB xss 37 = false from allB_no hlt (by simp [hl]))
          clear hl hc
          go_wp2
          go_quiet ((go_at_call 74; first | exact quiet_add_same (HC.out _) | exact quiet_same (HC.out _)))
          go_wp2
          go_ret
          exact ⟨ret_bool HS.out.symm, _, World.drewN_drewN ..⟩
    · obtain rfl : k = xss.length := by omega
      have HS := Lib.hid (show wordsB xss 37 = true from allB_iff.2 HA.out)
      go_wp2
      go_ret
      exact ⟨ret_bool HS.out.symm, _, rfl⟩

/-- lists of words are one. -/
def eqWB (xss yss : List (List Int)) : Bool := decide (xss.length = yss.length) && allB (fun i => eqB (rl xss i) (rl yss i)) xss.length
theorem eqWB_len {xs ys : List (List Int)} (h : xs.length ≠ ys.length) : eqWB xs ys = false := by simp [eqWB, h]
theorem eqWB_no {xs ys : List (List Int)} {k : Nat} (hk : k < xs.length) (h : eqB (rl xs k) (rl ys k) = false) : eqWB xs ys = false := by
  unfold eqWB
  rw [allB_no hk (by simpa using h), Bool.and_false]
theorem eqWB_yes {xs ys : List (List Int)} (hl : xs.length = ys.length) (h : ∀ i, i < xs.length → eqB (rl xs i) (rl ys i) = true) : eqWB xs ys = true := by
  unfold eqWB
  rw [allB_iff.2 (fun i hi => by simpa using h i hi)]
  simp [hl]
theorem eqWB_iff {xs ys : List (List Int)} : eqWB xs ys = true ↔ xs = ys := by
  unfold eqWB
  rw [Bool.and_eq_true, decide_eq_true_iff, allB_iff]
  constructor
  · rintro ⟨hl, h⟩
    apply List.ext_getElem hl
    intro i h1 h2
    have := eqB_iff.1 (h i h1)
    simpa [rl, List.getD_eq_getElem?_getD, h1, h2] using this
  · rintro rfl
    exact ⟨rfl, fun i _ => eqB_iff.2 rfl⟩

set_option maxHeartbeats 2000000 in
theorem SameWords_spec_ok (A0 : Option Addr) (c0 : Nat) (xss : List (List Int)) (A1 : Option Addr) (c1 : Nat) (yss : List (List Int)) (w : World)
    (h0 : (Kd.slice 5 (Kd.int .u8)).C w A0 xss.length xss) (h1 : (Kd.slice 5 (Kd.int .u8)).C w A1 yss.length yss) :
    Calls Try.prog 14 #[.slice A0 xss.length c0, .slice A1 yss.length c1] w fun e w' => e = .returned (.bool (eqWB xss yss)) ∧ ∃ q, w' = w.drewN q := by
  have hm : xss.length ≤ 9223372036854775807 := h0.2.1
  have hm1 : yss.length ≤ 9223372036854775807 := h1.2.1
  have H0 := Lib.hid h0
  have H1 := Lib.hid h1
  clear h0 h1
  by_cases hl : xss.length = yss.length
  · have HL := Lib.hid hl
    have hle : xss.length ≤ yss.length := by omega
    have hlb : ((xss.length : Int) != (yss.length : Int)) = false := by simp [hl]
    clear hl
    go_enter Try.func14, Try.ntmps14
    go_wp2
    go_loopw [5] (fun i wr => ∃ k q : Nat, k ≤ xss.length ∧ i = .int .i64 k ∧ Hid (∀ j, j < k → eqB (rl xss j) (rl yss j) = true) ∧ wr = w.drewN q) (fun i _ => xss.length - (intOf i).toNat)
    case atStart => exact ⟨0, 0, Nat.zero_le _, rfl, fun j hj => absurd hj (by omega), rfl⟩
    case round =>
      obtain ⟨k, q, hk, rfl, HA, rfl⟩ := hrel
      by_cases hlt : k < xss.length
      · obtain ⟨ad0, A3, c3, rfl, hx0, hl3, hr3⟩ := at_row H0.out hlt
        obtain ⟨ad1, A4, c4, rfl, hx1, hl4, hr4⟩ := at_row H1.out (show k < yss.length by omega)
        have hlt1 : k < yss.length := by omega
        have hlti : (k : Int) < (xss.length : Int) := by omega
        have hlti1 : (k : Int) < (yss.length : Int) := by omega
        have hcall : ∀ n, Calls Try.prog 66 #[.slice A3 (rl xss k).length c3, .slice A4 (rl yss k).length c4] (w.drewN n) fun e w' => e = .returned (.bool (eqB (rl xss k) (rl yss k))) ∧ ∃ m, w' = (w.drewN n).drewN m :=
          fun n => l05Same_ok A3 c3 _ A4 c4 _ _ hr3 hr4
        clear hr3 hr4
        have HC := Lib.hid hcall
        clear hcall
        rcases hc : eqB (rl xss k) (rl yss k) with _ | _
        · have HS := Lib.hid (eqWB_no hlt hc)
          go_wp2
          go_quiet ((go_at_call 66; first | exact quiet_add (HC.out _) | exact quiet_any (HC.out _)))
          go_wp2
          go_ret
          exact ⟨ret_bool HS.out.symm, _, World.drewN_drewN ..⟩
        · have HS := Lib.hid hc
          go_wp2
          go_quiet ((go_at_call 66; first | exact quiet_add (HC.out _) | exact quiet_any (HC.out _)))
          go_wp2
          go_roundw
          case rel =>
            refine ⟨k + 1, _, by omega, by go_num, fun j hj => ?_, rfl⟩
            by_cases e : j = k
            · rw [e]; exact HS.out
            · exact HA.out j (by omega)
          case measure => first|(simp [intOf]; done)|(simp [intOf]; omega)
      · obtain rfl : k = xss.length := by omega
        have HS := Lib.hid (eqWB_yes HL.out HA.out)
        go_wp2
        go_ret
        exact ⟨ret_bool HS.out.symm, _, rfl⟩
  · have HS := Lib.hid (eqWB_len hl)
    have hlb : ((xss.length : Int) != (yss.length : Int)) = true := by simp; omega
    go_enter Try.func14, Try.ntmps14
    go_wp2
    go_ret
    exact ⟨ret_bool HS.out.symm, 0, rfl⟩

end Go.Proofs.Ytjadhhnajphibaa
