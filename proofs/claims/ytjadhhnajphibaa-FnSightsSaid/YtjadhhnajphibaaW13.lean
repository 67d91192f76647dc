/- Words that are decoded: the reference. The bound of the spheres. -/
import Derived.Test.YtjadhhnajphibaaW12
set_option linter.unusedVariables false
set_option linter.unusedSimpArgs false
namespace Go.Proofs.Ytjadhhnajphibaa
open Go.RowKit Go.Proofs.YtjadhhnajphibaaW.PrintWords

theorem decP_0 {p : Nat → Bool} {n : Nat} (h : cnt p n = 0) : decP p n = (0, 6) := by rw [decP, if_pos h]
theorem decP_1 {p : Nat → Bool} {n : Nat} (h : cnt p n = 1) : decP p n = (lastTo p n, 0) := by rw [decP, if_neg (by omega), if_pos h]
theorem decP_2 {p : Nat → Bool} {n : Nat} (h : 2 ≤ cnt p n) : decP p n = (0, 8) := by rw [decP, if_neg (by omega), if_neg (by omega)]

set_option maxHeartbeats 4000000 in
theorem DecodeWord_spec_ok (A : Option Addr) (c : Nat) (xss : List (List Int)) (A1 : Option Addr) (c1 : Nat) (ys : List Int) (d : Int) (w : World) (hv : wordsB xss 37 = true) (hvy : wordB ys 37 = true) (hlen : ∀ i, i < xss.length → (rl xss i).length = ys.length) (hn : xss.length ≤ 60) (hd : 0 ≤ d) (hd' : d ≤ 8)
    (h0 : (Kd.slice 5 (Kd.int .u8)).C w A xss.length xss) (h1 : (Kd.int .u8).C w A1 ys.length ys) :
    Calls Try.prog 19 #[.slice A xss.length c, .slice A1 ys.length c1, .int .i64 d] w fun e w' => e = .returned (.tuple #[.int .i64 (decP (nearP xss ys d) xss.length).1, .int .i64 (decP (nearP xss ys d) xss.length).2]) ∧ ∃ q, w' = w.drewN q := by
  have hm : xss.length ≤ 9223372036854775807 := by omega
  have hm1 : ys.length ≤ 9223372036854775807 := h1.2.1
  have HW : Hid (Calls Try.prog 73 #[.slice A xss.length c] w fun e w' => e = .returned (.bool true) ∧ ∃ q, w' = w.drewN q) := by
    have := l05Words_ok A c xss w h0
    rwa [hv] at this
  have HWD : Hid (∀ W, (Kd.int .u8).C W A1 ys.length ys → Calls Try.prog 74 #[.slice A1 ys.length c1] W fun e w' => e = .returned (.bool true) ∧ W = w') := fun W h => by
    have := l05Word_ok A1 c1 ys W h
    rwa [hvy] at this
  have HIN : Hid (∀ W, Calls Try.prog 62 #[.int .i64 d, .int .i64 0, .int .i64 8] W fun e w' => e = .returned (.bool true) ∧ W = w') := fun W => by
    have := l00In_ok d 0 8 W
    rwa [inB_yes hd hd'] at this
  have HR0 := Lib.hid h0
  have HR1 := Lib.hid h1
  have HLEN := Lib.hid hlen
  have HP : Hid (∀ i, nearP xss ys d i = decide ((diffs (rl xss i) ys : Int) ≤ d)) := fun _ => rfl
  have hp : ∃ p, nearP xss ys d = p := ⟨_, rfl⟩
  obtain ⟨p, hp⟩ := hp
  rw [hp] at HP ⊢
  clear hp h0 h1 hv hvy hlen
  by_cases hz : 0 < xss.length
  · have hzi : (0 : Int) < (xss.length : Int) := by omega
    obtain ⟨ad, A0, c0, rfl, hx0, hl0, hr0⟩ := at_row HR0.out hz
    rw [Addr.add_zero'] at hx0
    have hne : (((rl xss 0).length : Int) != (ys.length : Int)) = false := by rw [HLEN.out 0 hz]; simp
    clear hr0
    go_enter Try.func19, Try.ntmps19
    go_wp2_with fail
    refine HW.out.mono ?_
    rintro e w1 ⟨rfl, q1, rfl⟩
    go_wp2_with fail
    refine (HWD.out (w.drewN q1) HR1.out).mono ?_
    rintro e w' ⟨rfl, rfl⟩
    go_wp2_with fail
    refine (HIN.out _).mono ?_
    rintro e w' ⟨rfl, rfl⟩
    go_wp2_with fail
    go_loopw [8, 9] (fun vb i wr => ∃ (k q : Nat) (b : Int), k ≤ xss.length ∧ i = .int .i64 k ∧ vb = .int .i64 b ∧ -1 ≤ b ∧ Hid ((cnt p k = 0 ∧ b = -1) ∨ (cnt p k = 1 ∧ b = lastTo p k)) ∧ wr = w.drewN q) (fun _ i _ => xss.length - (intOf i).toNat)
    case atStart => exact ⟨0, q1, -1, Nat.zero_le _, rfl, rfl, by omega, .inl ⟨rfl, rfl⟩, rfl⟩
    case round =>
      obtain ⟨k, q, b, hk, rfl, rfl, hb1, HI, rfl⟩ := hrel
      by_cases hlt : k < xss.length
      · have hlti : (k : Int) < (xss.length : Int) := by omega
        obtain ⟨_, A3, c3, e3, hx3, hl3, hr3⟩ := at_row HR0.out hlt
        cases e3
        have HU := Lib.hid (l05Apart_ok A3 c3 _ A1 c1 ys (w.drewN q) hr3 HR1.out (by rw [HLEN.out k hlt]; omega))
        have hm3 : (rl xss k).length ≤ 9223372036854775807 := hr3.2.1
        clear hr3
        by_cases hq : (diffs (rl xss k) ys : Int) ≤ d
        · have HQ := Lib.hid (show p k = true by rw [HP.out]; exact decide_eq_true hq)
          by_cases hb : 0 ≤ b
          · have HS := Lib.hid (show decP p xss.length = (0, 8) by
              refine decP_2 (Nat.le_trans ?_ (cnt_mono (show k + 1 ≤ xss.length by omega)))
              rw [cnt_yes HQ.out]
              rcases HI.out with ⟨_, h⟩ | ⟨h, _⟩
              · omega
              · omega)
            go_wp2_with fail
            refine HU.out.mono ?_
            rintro e w' ⟨rfl, q3, rfl⟩
            go_wp2_with fail
            go_ret2
            exact ⟨by rw [HS.out]; rfl, _, by first | rfl | exact World.drewN_drewN ..⟩
          · have HN : Hid (cnt p (k + 1) = 1 ∧ (k : Int) = lastTo p (k + 1)) := by
              rcases HI.out with ⟨h1, h⟩ | ⟨_, h⟩
              · exact ⟨by rw [cnt_yes HQ.out, h1], by rw [lastTo_yes HQ.out]⟩
              · have := lastTo_range (p := p) (n := k); omega
            go_wp2_with fail
            refine HU.out.mono ?_
            rintro e w' ⟨rfl, q3, rfl⟩
            go_wp2_with fail
            go_roundw
            case rel => exact ⟨k + 1, _, k, by omega, by go_num, rfl, by omega, .inr HN.out, rfl⟩
            case measure => first|(simp [intOf]; done)|(simp [intOf]; omega)
        · have HQ := Lib.hid (show p k = false by rw [HP.out]; exact decide_eq_false hq)
          have hq' : d < (diffs (rl xss k) ys : Int) := by omega
          go_wp2_with fail
          refine HU.out.mono ?_
          rintro e w' ⟨rfl, q3, rfl⟩
          go_wp2_with fail
          go_roundw
          case rel =>
            refine ⟨k + 1, _, b, by omega, by go_num, rfl, hb1, ?_, rfl⟩
            rw [cnt_no HQ.out, lastTo_no HQ.out]
            exact HI.out
          case measure => first|(simp [intOf]; done)|(simp [intOf]; omega)
      · obtain rfl : k = xss.length := by omega
        by_cases hb : b < 0
        · have HS := Lib.hid (show decP p xss.length = (0, 6) by
            rcases HI.out with ⟨h, _⟩ | ⟨_, h⟩
            · exact decP_0 h
            · have := lastTo_range (p := p) (n := xss.length); omega)
          go_wp2
          go_ret2
          exact ⟨by rw [HS.out]; rfl, _, rfl⟩
        · have HS := Lib.hid (show decP p xss.length = (b, 0) by
            rcases HI.out with ⟨_, h⟩ | ⟨h1, h⟩
            · omega
            · rw [decP_1 h1, h])
          go_wp2
          go_ret2
          exact ⟨by rw [HS.out]; rfl, _, rfl⟩
  · have hz0 : xss.length = 0 := by omega
    have hzi : ¬ (0 : Int) < (xss.length : Int) := by omega
    have HS := Lib.hid (show decP p xss.length = (0, 6) by rw [hz0]; exact decP_0 rfl)
    clear hz0
    go_enter Try.func19, Try.ntmps19
    go_wp2_with fail
    refine HW.out.mono ?_
    rintro e w1 ⟨rfl, q1, rfl⟩
    go_wp2_with fail
    refine (HWD.out (w.drewN q1) HR1.out).mono ?_
    rintro e w' ⟨rfl, rfl⟩
    go_wp2_with fail
    refine (HIN.out _).mono ?_
    rintro e w' ⟨rfl, rfl⟩
    go_wp2_with fail
    go_loopw [8, 9] (fun vb i wr => vb = .int .i64 (-1) ∧ i = .int .i64 0 ∧ ∃ q, wr = w.drewN q) (fun _ i _ => 0)
    case atStart => exact ⟨rfl, rfl, _, rfl⟩
    case round =>
      obtain ⟨rfl, rfl, q, rfl⟩ := hrel
      go_wp2
      go_ret2
      exact ⟨by rw [HS.out]; rfl, _, rfl⟩
end Go.Proofs.Ytjadhhnajphibaa
