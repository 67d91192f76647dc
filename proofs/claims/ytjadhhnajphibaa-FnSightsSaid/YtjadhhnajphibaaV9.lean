/- Codes that are valid: the reference's. -/
import Derived.Test.YtjadhhnajphibaaV8
set_option linter.unusedVariables false
set_option linter.unusedSimpArgs false
namespace Go.Proofs.Ytjadhhnajphibaa
open Go.RowKit Go.Proofs.YtjadhhnajphibaaW.PrintWords

def ltr1 (n : Nat) (x : List Int) : Bool := allB (fun k => !decide ((n : Int) ≤ rn x k)) x.length
def ltrB (n : Nat) (ws : List (List Int)) : Bool := allB (fun i => ltr1 n (rl ws i)) ws.length
theorem ltr_no {n : Nat} {ws : List (List Int)} {i k : Nat} (hi : i < ws.length) (hk : k < (rl ws i).length) (h : decide ((n : Int) ≤ rn (rl ws i) k) = true) : ltrB n ws = false := allB_no hi (allB_no hk (by rw [h]; rfl))
theorem ltr1_yes {n : Nat} {x : List Int} (h : ∀ k, k < x.length → decide ((n : Int) ≤ rn x k) = false) : ltr1 n x = true := allB_iff.2 fun k hk => by rw [h k hk]; rfl
theorem okFs_no {fs : List (List Int)} {k : Nat} (hk : k < fs.length) (h : okF (rl fs k) = false) : okFs fs = false := allB_no hk h
theorem lim_lt {x n : Int} : x < lim n ↔ x < n ∧ x < 37 := by unfold lim; split <;> omega
theorem words_lim (ws : List (List Int)) (n : Nat) : wordsB ws (lim n) = (wordsB ws 37 && ltrB n ws) := by
  have hw : ∀ (x : List Int) (q : Int), wordB x q = true ↔ inB x.length 1 8 = true ∧ ∀ k, k < x.length → rn x k < q := fun x q => by
    unfold wordB
    rw [Bool.and_eq_true, allB_iff]
    simp only [decide_eq_true_iff]
  have hl : ltrB n ws = true ↔ ∀ i, i < ws.length → ∀ k, k < (rl ws i).length → ¬ (n : Int) ≤ rn (rl ws i) k := by
    unfold ltrB
    rw [allB_iff]
    simp only [ltr1, allB_iff, Bool.not_eq_true', decide_eq_false_iff_not]
  rw [Bool.eq_iff_iff, Bool.and_eq_true, hl]
  unfold wordsB
  simp only [allB_iff, Bool.and_eq_true, hw, lim_lt, decide_eq_true_iff]
  constructor
  · intro h
    exact ⟨fun i hi => ⟨⟨(h i hi).1.1, fun k hk => ((h i hi).1.2 k hk).2⟩, (h i hi).2⟩, fun i hi k hk => by have := ((h i hi).1.2 k hk).1; omega⟩
  · intro h i hi
    exact ⟨⟨(h.1 i hi).1.1, fun k hk => ⟨by have := h.2 i hi k hk; omega, (h.1 i hi).1.2 k hk⟩⟩, (h.1 i hi).2⟩
def okC2 (fs ws : List (List Int)) : Bool := inB fs.length 1 40 && decide (ws.length ≤ 60) && wordsB ws 37 && okFs fs && ltrB fs.length ws
theorem okC_eq (fs ws : List (List Int)) : okC2 fs ws = okC fs ws := by
  unfold okC2 okC
  by_cases h : fs.length ≤ 40
  · rw [words_lim ws fs.length]
    rw [Bool.eq_iff_iff]
    simp only [Bool.and_eq_true, decide_eq_true_iff, inB]
    constructor
    · rintro ⟨⟨⟨⟨h1, h2⟩, h3⟩, h4⟩, h5⟩
      exact ⟨⟨⟨⟨by omega, h4⟩, h⟩, h2⟩, h3, h5⟩
    · rintro ⟨⟨⟨⟨h1, h4⟩, _⟩, h2⟩, h3, h5⟩
      exact ⟨⟨⟨⟨by omega, h2⟩, h3⟩, h4⟩, h5⟩
  · have h1 : inB fs.length 1 40 = false := inB_no (by omega)
    simp [h1, h]

set_option maxRecDepth 100000 in
set_option maxHeartbeats 8000000 in
theorem l05Ok_ok (gc : Nat) (A : Option Addr) (c : Nat) (fs : List (List Int)) (A1 : Option Addr) (c1 : Nat) (ws : List (List Int)) (w : World) (hxb : WBytes ws) (hc : w.heap[gc]? = some (.cells #[.slice A fs.length c, .slice A1 ws.length c1] 46 (0, 0)))
    (h0 : (Karr 24).C w A fs.length fs) (h1 : (Kd.slice 5 (Kd.int .u8)).C w A1 ws.length ws) :
    Calls Try.prog 78 #[.pointer (some ⟨gc, 0, none⟩)] w fun e w' => e = .returned (.bool (okC fs ws)) ∧ ∃ q, w' = w.drewN q := by
  have hm : fs.length ≤ 9223372036854775807 := h0.2.1
  have hm1 : ws.length ≤ 9223372036854775807 := h1.2.1
  have HV : Hid (okC fs ws = (inB fs.length 1 40 && decide (ws.length ≤ 60) && wordsB ws 37 && okFs fs && ltrB fs.length ws)) := (okC_eq fs ws).symm
  have x0 := (blk_cell hc 0).trans (show _ = some (.slice A fs.length c) from rfl)
  have x1 := (blk_cell hc 1).trans (show _ = some (.slice A1 ws.length c1) from rfl)
  have H0 := Lib.hid h0
  have H1 := Lib.hid h1
  have HWS := Lib.hid (fun W (h : ∃ q, W = w.drewN q) => l05Words_ok A1 c1 ws W (by obtain ⟨q, rfl⟩ := h; exact h1))
  clear hc h0 h1
  generalize okC fs ws = res at *
  rcases hin : inB fs.length 1 40 with _ | _
  · have HS := Lib.hid (show res = false by rw [HV.out, hin]; rfl)
    clear HV
    have HI := Lib.hid hin
    clear hin
    go_enter Try.func78, Try.ntmps78
    go_wp2_with (go_at_call 62; refine (l00In_ok _ _ _ _).mono ?_; rintro e w' ⟨rfl, rfl⟩; rw [HI.out])
    go_ret
    exact ⟨ret_bool HS.out.symm, 0, rfl⟩
  · have HI := Lib.hid hin
    clear hin
    by_cases h60 : 60 < ws.length
    · have h60i : (60 : Int) < (ws.length : Int) := by omega
      have HS := Lib.hid (show res = false by rw [HV.out]; simp; omega)
      clear HV
      go_enter Try.func78, Try.ntmps78
      go_wp2_with (go_at_call 62; refine (l00In_ok _ _ _ _).mono ?_; rintro e w' ⟨rfl, rfl⟩; rw [HI.out])
      go_ret
      exact ⟨ret_bool HS.out.symm, 0, rfl⟩
    · have h60i : (ws.length : Int) ≤ 60 := by omega
      rcases hw : wordsB ws 37 with _ | _
      · have HS := Lib.hid (show res = false by rw [HV.out, hw]; simp)
        rw [hw] at HWS
        clear HV hw
        go_enter Try.func78, Try.ntmps78
        go_wp2_with (first | (go_at_call 62; refine (l00In_ok _ _ _ _).mono ?_; rintro e w' ⟨rfl, rfl⟩; rw [HI.out]) | (go_at_call 73; refine (HWS.out _ ⟨0, rfl⟩).mono ?_; rintro e w' ⟨rfl, q, rfl⟩))
        go_ret
        exact ⟨ret_bool HS.out.symm, q, rfl⟩
      · have HR := Lib.hid (show res = (okFs fs && ltrB fs.length ws) by rw [HV.out, hw, HI.out, decide_eq_true (show ws.length ≤ 60 by omega)]; simp)
        rw [hw] at HWS
        clear HV hw
        go_enter Try.func78, Try.ntmps78
        go_wp2_with (first | (go_at_call 62; refine (l00In_ok _ _ _ _).mono ?_; rintro e w' ⟨rfl, rfl⟩; rw [HI.out]) | (go_at_call 73; refine (HWS.out _ ⟨0, rfl⟩).mono ?_; rintro e w' ⟨rfl, q, rfl⟩))
        go_loopw [3] (fun i wr => ∃ k q : Nat, k ≤ fs.length ∧ i = .int .i64 k ∧ wr = w.drewN q ∧ Hid (∀ j, j < k → okF (rl fs j) = true)) (fun i _ => fs.length - (intOf i).toNat)
        case atStart => exact ⟨0, q, Nat.zero_le _, rfl, rfl, fun j hj => absurd hj (by omega)⟩
        case round =>
          obtain ⟨k, q, hk, rfl, rfl, HA⟩ := hrel
          by_cases hlt : k < fs.length
          · obtain ⟨ad0, rfl, hl0, hx0⟩ := at_arr H0.out hlt
            have hlti : (k : Int) < (fs.length : Int) := by omega
            have hcall : ∀ q, Calls Try.prog 111 #[.pointer (some (ad0.add (k * 24)))] (w.drewN q) fun e w' => e = .returned (.bool (okF (rl fs k))) ∧ w.drewN q = w' := fun q => l01Ok_ok _ _ hl0 (w.drewN q) hx0
            have HC := Lib.hid hcall
            clear hcall hx0 hl0
            rcases ho : okF (rl fs k) with _ | _
            · have HS := Lib.hid (show res = false by rw [HR.out, okFs_no hlt ho]; rfl)
              rw [ho] at HC
              clear ho
              go_wp2_with (go_at_call 111; refine (HC.out _).mono ?_; rintro e w' ⟨rfl, rfl⟩)
              go_ret
              exact ⟨ret_bool HS.out.symm, _, rfl⟩
            · rw [ho] at HC
              have HO := Lib.hid ho
              clear ho
              go_wp2_with (go_at_call 111; refine (HC.out _).mono ?_; rintro e w' ⟨rfl, rfl⟩)
              go_roundw
              case rel =>
                refine ⟨k + 1, q, by omega, by go_num, rfl, fun j hj => ?_⟩
                by_cases e : j = k
                · rw [e]; exact HO.out
                · exact HA.out j (by omega)
              case measure => first|(simp [intOf]; done)|(simp [intOf]; omega)
          · have HR2 := Lib.hid (show res = ltrB fs.length ws by rw [HR.out, show okFs fs = true from allB_iff.2 (fun i hi => HA.out i (by omega))]; rfl)
            obtain rfl : k = fs.length := by omega
            clear HR HA
            go_wp2
            go_loopw [4, 5] (fun i _ wr => ∃ k q : Nat, k ≤ ws.length ∧ i = .int .i64 k ∧ wr = w.drewN q ∧ Hid (∀ j, j < k → ltr1 fs.length (rl ws j) = true)) (fun i _ _ => ws.length - (intOf i).toNat)
            case atStart => exact ⟨0, _, Nat.zero_le _, rfl, rfl, fun j hj => absurd hj (by omega)⟩
            case round =>
              obtain ⟨i, q, hi, rfl, rfl, HA⟩ := hrel
              by_cases hlt : i < ws.length
              · have hlti : (i : Int) < (ws.length : Int) := by omega
                obtain ⟨ad1, A3, c3, rfl, hx1, hl3, hr3⟩ := at_row H1.out hlt
                have hm3 : (rl ws i).length ≤ 9223372036854775807 := hr3.2.1
                have HR3 := Lib.hid hr3
                clear hr3
                go_wp2
                go_loopw [5] (fun u wr => ∃ k q : Nat, k ≤ (rl ws i).length ∧ u = .int .i64 k ∧ wr = w.drewN q ∧ Hid (∀ j, j < k → decide ((fs.length : Int) ≤ rn (rl ws i) j) = false)) (fun u _ => (rl ws i).length - (intOf u).toNat)
                case atStart => exact ⟨0, _, Nat.zero_le _, rfl, rfl, fun j hj => absurd hj (by omega)⟩
                case round =>
                  obtain ⟨k, q, hk, rfl, rfl, HJ⟩ := hrel
                  by_cases hlt3 : k < (rl ws i).length
                  · have hltk : (k : Int) < ((rl ws i).length : Int) := by omega
                    obtain ⟨ad3, rfl, hx3⟩ := at_nat HR3.out hlt3
                    have hbx := hxb i k
                    obtain ⟨n, hn⟩ : ∃ n : Nat, rn (rl ws i) k = (n : Int) := ⟨(rn (rl ws i) k).toNat, by omega⟩
                    rw [hn] at hx3 hbx
                    have hn255 : n ≤ 255 := by omega
                    clear hbx
                    by_cases hd : fs.length ≤ n
                    rotate_left
                    · have HS := Lib.hid (show decide ((fs.length : Int) ≤ rn (rl ws i) k) = false by rw [hn, decide_eq_false_iff_not]; omega)
                      have hdi : ¬ (fs.length : Int) ≤ (n : Int) := by omega
                      clear hn
                      go_wp2
                      go_quiet (fail)
                      go_wp2
                      go_roundw
                      case rel =>
                        refine ⟨k + 1, _, by omega, by go_num, rfl, fun j hj => ?_⟩
                        by_cases e : j = k
                        · rw [e]; exact HS.out
                        · exact HJ.out j (by omega)
                      case measure => first|(simp [intOf]; done)|(simp [intOf]; omega)
                    · have HS := Lib.hid (show res = false by rw [HR2.out]; exact ltr_no hlt hlt3 (by rw [hn, decide_eq_true_iff]; omega))
                      have hdi : (fs.length : Int) ≤ (n : Int) := by omega
                      clear hn
                      go_wp2
                      go_quiet (fail)
                      go_wp2
                      go_ret
                      exact ⟨ret_bool HS.out.symm, _, World.drewN_drewN ..⟩
                  · have HS := Lib.hid (show ltr1 fs.length (rl ws i) = true from ltr1_yes (fun j hj => HJ.out j (by omega)))
                    have hltk : ¬ (k : Int) < ((rl ws i).length : Int) := by omega
                    go_wp2
                    go_roundw
                    case rel =>
                      refine ⟨i + 1, _, by omega, by go_num, rfl, fun j hj => ?_⟩
                      by_cases e : j = i
                      · rw [e]; exact HS.out
                      · exact HA.out j (by omega)
                    case measure => first|(simp [intOf]; done)|(simp [intOf]; omega)
              · have HS := Lib.hid (show res = true by rw [HR2.out]; exact allB_iff.2 (fun j hj => HA.out j (by omega)))
                have hlti : ¬ (i : Int) < (ws.length : Int) := by omega
                go_wp2
                go_ret
                exact ⟨ret_bool HS.out.symm, _, rfl⟩
end Go.Proofs.Ytjadhhnajphibaa
