/- How far sights are apart; sights and flags that are valid: the program's. -/
import Derived.Test.YtjadhhnajphibaaV4
import Derived.Test.YtjadhhnajphibaaW5
set_option linter.unusedVariables false
set_option linter.unusedSimpArgs false
namespace Go.Proofs.Ytjadhhnajphibaa
open Go.RowKit Go.Proofs.YtjadhhnajphibaaW.PrintWords

theorem C_six {w : World} {ad : Addr} {f : List Int} (hf : f.length ≤ 9223372036854775807) (h : ∀ j v, (nums .u8 f)[j]? = some v → w.cell? (ad.add j) = some v) : (Kd.int .u8).C w (some ad) f.length f :=
  C_of_nums hf fun j u hu => ⟨ad, rfl, h j u hu⟩

set_option maxHeartbeats 4000000 in
theorem sightsApart_ok (A0 : Option Addr) (c0 : Nat) (a : List (List Int)) (A1 : Option Addr) (c1 : Nat) (b : List (List Int)) (w : World) (h0 : (Karr 6).C w A0 a.length a) (h1 : (Karr 6).C w A1 b.length b) (hl : a.length ≤ b.length) (hb : a.length ≤ 1000000000000) :
    Calls Try.prog 85 #[.slice A0 a.length c0, .slice A1 b.length c1] w fun e w' => e = .returned (.int .i64 (farS a b)) ∧ ∃ q, w' = w.drewN q := by
  have hm : a.length ≤ 9223372036854775807 := h0.2.1
  have hfl : ∀ i, (rl a i).length ≤ 6 := fun i => by
    rcases Nat.lt_or_ge i a.length with h | h
    · rw [(C_lens h0).2 i h]; omega
    · simp [rl, List.getD_eq_getElem?_getD, List.getElem?_eq_none h]
  have H0 := Lib.hid h0
  have H1 := Lib.hid h1
  have HFL := Lib.hid (farTo_le (b := b) hfl)
  clear h0 h1 hfl
  go_enter Try.func85, Try.ntmps85
  go_wp2
  go_loopw [5, 6, 9] (fun m _ i wr => ∃ k q : Nat, k ≤ a.length ∧ i = .int .i64 k ∧ m = .int .i64 (farTo a b k) ∧ wr = w.drewN q) (fun _ _ i _ => a.length - (intOf i).toNat)
  case atStart => exact ⟨0, 0, Nat.zero_le _, rfl, rfl, rfl⟩
  case round =>
    obtain ⟨k, q, hk, rfl, rfl, rfl⟩ := hrel
    have hfk := HFL.out k
    by_cases hlt : k < a.length
    · obtain ⟨ad0, rfl, hl0, hx0⟩ := at_arr H0.out hlt
      obtain ⟨ad1, rfl, hl1, hx1⟩ := at_arr H1.out (show k < b.length by omega)
      have hlti : (k : Int) < (a.length : Int) := by omega
      have hlti1 : (k : Int) < (b.length : Int) := by omega
      have HC := Lib.hid (fun (W : World) (n : Nat) (hW : W = w.drewN n) => unlike_ok (some (ad0.add (k * 6))) 6 (rl a k) (some (ad1.add (k * 6))) 6 (rl b k) W (by rw [hW]; exact C_six (by omega) hx0) (by rw [hW]; exact C_six (by omega) hx1) (by omega))
      rw [hl0, hl1] at HC
      have HST : Hid (farTo a b (k + 1) = farTo a b k + diffs (rl a k) (rl b k)) := rfl
      have hd : diffs (rl a k) (rl b k) ≤ 6 := by have := cnt_le (fun i => rn (rl a k) i != rn (rl b k) i) (rl a k).length; unfold diffs diffsTo; omega
      clear hx0 hl0 hx1 hl1
      generalize farTo a b k = F at *
      go_wp2
      go_quiet ((go_at_call 60; first | exact quiet_add_same (HC.out _ _ rfl) | exact quiet_same (HC.out _ _ rfl)))
      go_wp2
      go_roundw
      case rel => exact ⟨k + 1, _, by omega, by go_num, by rw [HST.out]; go_num, rfl⟩
      case measure => first|(simp [intOf]; done)|(simp [intOf]; omega)
    · obtain rfl : k = a.length := by omega
      go_wp2
      go_ret
      exact ⟨rfl, _, rfl⟩
end Go.Proofs.Ytjadhhnajphibaa
