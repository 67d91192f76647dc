/- Contracts of functions and plain lemmas that the row stands on: What has been seen is read: the reference's. The words near what has been seen: the reference's. What has been seen is read: the program's. No conditions beyond those that each theorem names. -/
import Derived.Test.YtjadhhnajphibaaGC12
set_option linter.unusedVariables false
set_option linter.unusedSimpArgs false
namespace Go.Proofs.Ytjadhhnajphibaa
open Go.RowKit Go.Proofs.YtjadhhnajphibaaW.PrintWords

set_option maxRecDepth 100000 in
set_option maxHeartbeats 8000000 in
theorem ReadSightsS_ok (A : Option Addr) (c : Nat) (fs : List (List Int)) (A1 : Option Addr) (c1 : Nat) (ws : List (List Int)) (A2 : Option Addr) (c2 : Nat) (ss : List (List Int)) (w : World) (hf : ∀ k i, 0 ≤ rn (rl fs k) i) (hx : WBytes ws)
    (h0 : (Karr 24).C w A fs.length fs) (h1 : (Kd.slice 5 (Kd.int .u8)).C w A1 ws.length ws) (h2 : (Karr 6).C w A2 ss.length ss) :
    Calls Try.prog 33 #[.agg #[.slice A fs.length c, .slice A1 ws.length c1], .slice A2 ss.length c2] w fun e w' => e = tup3 (rsV fs ws ss) ∧ Below w.heap.size w w' := by
  have hm1 : ws.length ≤ 9223372036854775807 := h1.2.1
  have hm2 : ss.length ≤ 9223372036854775807 := h2.2.1
  have hcc := heap_alloc_new w (.cells #[.slice A fs.length c, .slice A1 ws.length c1] 46)
  have hb0 := below_box w (.cells #[.slice A fs.length c, .slice A1 ws.length c1] 46)
  have hsz0 := size_box w (.cells #[.slice A fs.length c, .slice A1 ws.length c1] 46)
  have HC0 := Lib.hid (l05Ok_ok w.heap.size A c fs A1 c1 ws _ hx hcc (C_below' h0 hb0) (C_below' h1 hb0))
  have HCC := Lib.hid hcc
  have HB0 := Lib.hid hb0
  have H0 := Lib.hid (C_below' h0 hb0)
  have H1 := Lib.hid (C_below' h1 hb0)
  have H2 := Lib.hid (C_below' h2 hb0)
  have HSE := Lib.hid (fun (q : Nat) => l05Seen_ok A2 c2 ss ((w.alloc (.cells #[.slice A fs.length c, .slice A1 ws.length c1] 46)).drewN q) (C_below' h2 (below_dN hb0 q)))
  have HV : Hid (rsV fs ws ss = if okC fs ws then (if okS ss then (if ws.length = 0 then (0, 0, 6) else if ss.length = (rl ws 0).length then rsOut (rsTo (dSee fs ws ss) ws.length) else (0, 0, 2)) else (0, 0, 1)) else (0, 0, 1)) := rfl
  have hgood := fun h => okC_good (fs := fs) (ws := ws) h hf hx
  clear hcc hb0 h0 h1 h2 hf hx
  rcases hok : okC fs ws with _ | _
  · have HS := Lib.hid (show rsV fs ws ss = (0, 0, 1) by rw [HV.out, hok]; rfl)
    rw [hok] at HC0
    clear HV hok hgood
    go_enter Try.func33, Try.ntmps33
    go_wp2_with (go_at_call 78; refine HC0.out.mono ?_; rintro e w' ⟨rfl, q, rfl⟩)
    go_ret3
    rw [HS.out]
    exact ⟨rfl, below_dN HB0.out _⟩
  · have HG := Lib.hid (hgood hok)
    rw [hok] at HC0 HV
    clear hok hgood
    rcases hos : okS ss with _ | _
    · have HS := Lib.hid (show rsV fs ws ss = (0, 0, 1) by rw [HV.out, hos]; rfl)
      rw [hos] at HSE
      clear HV hos
      go_enter Try.func33, Try.ntmps33
      go_wp2_with (first | (go_at_call 78; refine HC0.out.mono ?_; rintro e w' ⟨rfl, q, rfl⟩) | (go_at_call 91; refine (HSE.out _).mono ?_; rintro e w' ⟨rfl, rfl⟩))
      go_ret3
      rw [HS.out]
      exact ⟨rfl, below_dN HB0.out _⟩
    · rw [hos] at HSE HV
      clear hos
      by_cases hn0 : ws.length = 0
      · have HS := Lib.hid (show rsV fs ws ss = (0, 0, 6) by rw [HV.out]; simp [hn0])
        have hnb : ((ws.length : Int) == 0) = true := by simp [hn0]
        have HN := Lib.hid hn0
        clear HV hn0
        go_enter Try.func33, Try.ntmps33
        go_wp2_with (first | (go_at_call 78; refine HC0.out.mono ?_; rintro e w' ⟨rfl, q, rfl⟩) | (go_at_call 91; refine (HSE.out _).mono ?_; rintro e w' ⟨rfl, rfl⟩))
        go_ret3
        rw [HS.out]
        exact ⟨rfl, below_dN HB0.out _⟩
      · have hnp : 0 < ws.length := by omega
        have hni : (0 : Int) < (ws.length : Int) := by omega
        have hnb : ((ws.length : Int) == 0) = false := beq_eq_false_iff_ne.2 (by omega)
        obtain ⟨ad1, A3, c3, rfl, hx3, hl3, hr3⟩ := at_row H1.out hnp
        rw [Addr.add_zero'] at hx3
        have hm3 : (rl ws 0).length ≤ 9223372036854775807 := hr3.2.1
        clear hr3
        by_cases hl : ss.length = (rl ws 0).length
        rotate_left
        · have HS := Lib.hid (show rsV fs ws ss = (0, 0, 2) by rw [HV.out]; simp [hn0, hl])
          have hlb : ((ss.length : Int) != ((rl ws 0).length : Int)) = true := by simp; omega
          clear HV hn0 hl
          go_enter Try.func33, Try.ntmps33
          go_wp2_with (first | (go_at_call 78; refine HC0.out.mono ?_; rintro e w' ⟨rfl, q, rfl⟩) | (go_at_call 91; refine (HSE.out _).mono ?_; rintro e w' ⟨rfl, rfl⟩))
          go_ret3
          rw [HS.out]
          exact ⟨rfl, below_dN HB0.out _⟩
        · have HS := Lib.hid (show rsV fs ws ss = rsOut (rsTo (dSee fs ws ss) ws.length) by rw [HV.out]; simp [hn0, hl])
          have hlb : ((ss.length : Int) != ((rl ws 0).length : Int)) = false := by simp [hl]
          have HLS := Lib.hid hl
          clear HV hn0 hl
          go_enter Try.func33, Try.ntmps33
          go_wp2_with (first | (go_at_call 78; refine HC0.out.mono ?_; rintro e w' ⟨rfl, q, rfl⟩) | (go_at_call 91; refine (HSE.out _).mono ?_; rintro e w' ⟨rfl, rfl⟩))
          have HB1 := Lib.hid (below_dN (Below.refl (w.alloc (.cells #[.slice A fs.length c, .slice (some ad1) ws.length c1] 46)).heap.size (w.alloc (.cells #[.slice A fs.length c, .slice (some ad1) ws.length c1] 46))) q)
          have hsz0 := size_box w (.cells #[.slice A fs.length c, .slice (some ad1) ws.length c1] 46)
          clear hx3 hlb hnb
          generalize (w.alloc (.cells #[.slice A fs.length c, .slice (some ad1) ws.length c1] 46)) = W0 at *
          generalize W0.drewN q = W1 at *
          clear HC0 HSE
          have hgc : w.heap.size < W0.heap.size := by omega
          have HSI := Lib.hid (fun (i : Nat) (W : World) (hi : i < ws.length) (h : Below W0.heap.size W0 W) => l05Sights_ok w.heap.size A c fs (some ad1) c1 ws i W hi (by have := HG.out.many; omega) (by have := (HG.out.len i hi).2; omega) HG.out.flags (HG.out.words i hi) ((h.block _ hgc).trans HCC.out) (C_below' H0.out h) (C_below' H1.out h))
          have HX := Lib.hid (fun (W : World) (h : Below W0.heap.size W0 W) => (blk_cell ((h.block w.heap.size hgc).trans HCC.out) 1).trans (show _ = some (.slice (some ad1) ws.length c1) from rfl))
          have hlen60 : ws.length ≤ 60 := HG.out.many
          go_loopw [7, 8, 9, 10, 11] (fun vb vl vc i _ wr => ∃ (k : Nat) (s : Rs), k ≤ ws.length ∧ i = .int .i64 k ∧ vb = .int .i64 s.b ∧ vl = .int .i64 s.l ∧ vc = .int .i64 s.c ∧ Hid (s = rsTo (dSee fs ws ss) k) ∧ Hid (Below W0.heap.size W0 wr)) (fun _ _ _ i _ _ => ws.length - (intOf i).toNat)
          case atStart => exact ⟨0, ⟨0, -1, 0⟩, Nat.zero_le _, rfl, rfl, rfl, rfl, rfl, HB1⟩
          case round =>
            clear HB1
            obtain ⟨i, ⟨b, l, n⟩, hi, rfl, rfl, rfl, rfl, HS1, HB⟩ := hrel
            have x1 := HX.out _ HB.out
            have hcn := rs_count (dSee fs ws ss) i
            rw [← HS1.out] at hcn
            simp only at hcn
            obtain ⟨hc0, hc1⟩ := hcn
            by_cases hlt : i < ws.length
            · have hlti : (i : Int) < (ws.length : Int) := by omega
              go_wp2_with fail
              refine (HSI.out i _ hlt HB.out).mono ?_
              rintro e w1 ⟨v, rfl, hown, hb1⟩
              obtain ⟨A5, c5, rfl, hr5⟩ := see_read (by have := (HG.out.len i hlt).2; omega) hown
              have HB1 := Lib.hid (HB.out.trans (hb1.mono HB.out.size))
              have HC6 := Lib.hid (l05Far_ok A5 c5 (see fs (rl ws i)) A2 c2 ss w1 hr5 (C_below' H2.out HB1.out) (by rw [see_length, (HG.out.len i hlt).1, HLS.out]; omega) (by rw [see_length]; have := (HG.out.len i hlt).2; omega))
              have hd48 := dSee_le (ss := ss) HG.out hlt
              have HY := Lib.hid (fun h => rsTo_yes HS1.out h)
              have HZ := Lib.hid (fun h h' => rsTo_same HS1.out h h')
              have HN := Lib.hid (fun h h' => rsTo_no HS1.out h h')
              rw [show farS (see fs (rl ws i)) ss = dSee fs ws ss i from rfl] at HC6
              clear hown hb1 hr5 x1
              generalize dSee fs ws ss i = d at *
              by_cases hl0 : l < 0
              · go_wp2_with (go_at_call 80; refine HC6.out.mono ?_; rintro e w' ⟨rfl, q6, rfl⟩)
                go_roundw
                case rel => exact ⟨i + 1, ⟨i, d, 1⟩, by omega, by go_num, rfl, rfl, rfl, (HY.out (.inl hl0)).symm, below_dN HB1.out _⟩
                case measure => first|(simp [intOf]; done)|(simp [intOf]; omega)
              · by_cases hdl : (d : Int) < l
                · go_wp2_with (go_at_call 80; refine HC6.out.mono ?_; rintro e w' ⟨rfl, q6, rfl⟩)
                  go_roundw
                  case rel => exact ⟨i + 1, ⟨i, d, 1⟩, by omega, by go_num, rfl, rfl, rfl, (HY.out (.inr hdl)).symm, below_dN HB1.out _⟩
                  case measure => first|(simp [intOf]; done)|(simp [intOf]; omega)
                · by_cases hde : (d : Int) = l
                  · have HQ := Lib.hid (HZ.out (by omega) hde)
                    have hdb : ((d : Int) == l) = true := by simp [hde]
                    clear hde
                    go_wp2_with (go_at_call 80; refine HC6.out.mono ?_; rintro e w' ⟨rfl, q6, rfl⟩)
                    go_roundw
                    case rel => exact ⟨i + 1, ⟨b, l, n + 1⟩, by omega, by go_num, rfl, rfl, rfl, HQ.out.symm, below_dN HB1.out _⟩
                    case measure => first|(simp [intOf]; done)|(simp [intOf]; omega)
                  · have HQ := Lib.hid (HN.out (by omega) hde)
                    have hdb : ((d : Int) == l) = false := beq_eq_false_iff_ne.2 hde
                    clear hde
                    go_wp2_with (go_at_call 80; refine HC6.out.mono ?_; rintro e w' ⟨rfl, q6, rfl⟩)
                    go_roundw
                    case rel => exact ⟨i + 1, ⟨b, l, n⟩, by omega, by go_num, rfl, rfl, rfl, HQ.out.symm, below_dN HB1.out _⟩
                    case measure => first|(simp [intOf]; done)|(simp [intOf]; omega)
            · obtain rfl : i = ws.length := by omega
              by_cases hmany : 1 < n
              · have HO := Lib.hid (show rsV fs ws ss = (0, 0, 8) by rw [HS.out, ← HS1.out, rsOut, if_pos hmany])
                go_wp2
                go_ret3
                rw [HO.out]
                exact ⟨rfl, HB0.out.trans (HB.out.mono (by omega))⟩
              · have HO := Lib.hid (show rsV fs ws ss = (b, l, 0) by rw [HS.out, ← HS1.out, rsOut, if_neg hmany])
                go_wp2
                go_ret3
                rw [HO.out]
                exact ⟨rfl, HB0.out.trans (HB.out.mono (by omega))⟩
end Go.Proofs.Ytjadhhnajphibaa
namespace Go.Proofs.Ytjadhhnajphibaa
open Go.RowKit Go.Proofs.YtjadhhnajphibaaW.PrintWords

set_option maxRecDepth 100000 in
set_option maxHeartbeats 8000000 in
theorem CandidatesForS_ok (A : Option Addr) (c : Nat) (fs : List (List Int)) (A1 : Option Addr) (c1 : Nat) (ws : List (List Int)) (A2 : Option Addr) (c2 : Nat) (ss : List (List Int)) (wrong : Int) (w : World) (hf : ∀ k i, 0 ≤ rn (rl fs k) i) (hx : WBytes ws)
    (h0 : (Karr 24).C w A fs.length fs) (h1 : (Kd.slice 5 (Kd.int .u8)).C w A1 ws.length ws) (h2 : (Karr 6).C w A2 ss.length ss) :
    Calls Try.prog 36 #[.agg #[.slice A fs.length c, .slice A1 ws.length c1], .slice A2 ss.length c2, .int .i64 wrong] w fun e w' => ∃ v, e = .returned (.tuple #[v, .int .i64 (candV fs ws ss wrong).2]) ∧ w'.ownsRow w.heap.size 2 1 v (candV fs ws ss wrong).1.length (nums .i64 (candV fs ws ss wrong).1) ∧ Below w.heap.size w w' := by
  have hm1 : ws.length ≤ 9223372036854775807 := h1.2.1
  have hm2 : ss.length ≤ 9223372036854775807 := h2.2.1
  have hcc := heap_alloc_new w (.cells #[.slice A fs.length c, .slice A1 ws.length c1] 46)
  have hb0 := below_box w (.cells #[.slice A fs.length c, .slice A1 ws.length c1] 46)
  have hsz0 := size_box w (.cells #[.slice A fs.length c, .slice A1 ws.length c1] 46)
  have HC0 := Lib.hid (l05Ok_ok w.heap.size A c fs A1 c1 ws _ hx hcc (C_below' h0 hb0) (C_below' h1 hb0))
  have HCC := Lib.hid hcc
  have HB0 := Lib.hid hb0
  have H0 := Lib.hid (C_below' h0 hb0)
  have H1 := Lib.hid (C_below' h1 hb0)
  have H2 := Lib.hid (C_below' h2 hb0)
  have HSE := Lib.hid (fun (q : Nat) => l05Seen_ok A2 c2 ss ((w.alloc (.cells #[.slice A fs.length c, .slice A1 ws.length c1] 46)).drewN q) (C_below' h2 (below_dN hb0 q)))
  have HV : Hid (candV fs ws ss wrong = if okC fs ws then (if okS ss then (if inB wrong 0 48 && (decide (ws.length = 0) || decide (ss.length = (rl ws 0).length)) then (candTo (dSee fs ws ss) wrong ws.length, 0) else ([], 2)) else ([], 1)) else ([], 1)) := rfl
  have hgood := fun h => okC_good (fs := fs) (ws := ws) h hf hx
  clear hcc hb0 h0 h1 h2 hf hx
  rcases hok : okC fs ws with _ | _
  · have HS := Lib.hid (show candV fs ws ss wrong = ([], 1) by rw [HV.out, hok]; rfl)
    rw [hok] at HC0
    clear HV hok hgood
    go_enter Try.func36, Try.ntmps36
    go_wp2_with (go_at_call 78; refine HC0.out.mono ?_; rintro e w' ⟨rfl, q, rfl⟩)
    go_ret2
    rw [HS.out]
    exact ⟨_, rfl, own_made _ _ _ _ _ hsz0 (by omega), below_alloc (below_dN HB0.out q) _⟩
  · have HG := Lib.hid (hgood hok)
    rw [hok] at HC0 HV
    clear hok hgood
    rcases hos : okS ss with _ | _
    · have HS := Lib.hid (show candV fs ws ss wrong = ([], 1) by rw [HV.out, hos]; rfl)
      rw [hos] at HSE
      clear HV hos
      go_enter Try.func36, Try.ntmps36
      go_wp2_with (first | (go_at_call 78; refine HC0.out.mono ?_; rintro e w' ⟨rfl, q, rfl⟩) | (go_at_call 91; refine (HSE.out _).mono ?_; rintro e w' ⟨rfl, rfl⟩))
      go_ret2
      rw [HS.out]
      exact ⟨_, rfl, own_made _ _ _ _ _ hsz0 (by omega), below_alloc (below_dN HB0.out q) _⟩
    · rw [hos] at HSE HV
      clear hos
      rcases hin : inB wrong 0 48 with _ | _
      · have HS := Lib.hid (show candV fs ws ss wrong = ([], 2) by rw [HV.out, hin]; rfl)
        have HI := Lib.hid hin
        clear HV hin
        go_enter Try.func36, Try.ntmps36
        go_wp2_with (first | (go_at_call 78; refine HC0.out.mono ?_; rintro e w' ⟨rfl, q, rfl⟩) | (go_at_call 91; refine (HSE.out _).mono ?_; rintro e w' ⟨rfl, rfl⟩) | (go_at_call 62; refine (l00In_ok _ _ _ _).mono ?_; rintro e w' ⟨rfl, rfl⟩; rw [HI.out]))

        go_ret2
        rw [HS.out]
        exact ⟨_, rfl, own_made _ _ _ _ _ hsz0 (by omega), below_alloc (below_dN HB0.out q) _⟩
      · rw [hin] at HV
        have HI := Lib.hid hin
        clear hin
        by_cases hn0 : ws.length = 0
        · have HS := Lib.hid (show candV fs ws ss wrong = (candTo (dSee fs ws ss) wrong ws.length, 0) by rw [HV.out]; simp [hn0])
          have hnb : ¬ (0 : Int) < (ws.length : Int) := by omega
          have HLS : Hid (0 < ws.length → ss.length = (rl ws 0).length) := fun h => absurd h (by omega)
          clear HV hn0
          go_enter Try.func36, Try.ntmps36
          go_wp2_with (first | (go_at_call 78; refine HC0.out.mono ?_; rintro e w' ⟨rfl, q, rfl⟩) | (go_at_call 91; refine (HSE.out _).mono ?_; rintro e w' ⟨rfl, rfl⟩) | (go_at_call 62; refine (l00In_ok _ _ _ _).mono ?_; rintro e w' ⟨rfl, rfl⟩; rw [HI.out]))

          clear hnb
          have HB1 := Lib.hid (below_alloc (below_dN (Below.refl (w.alloc (.cells #[.slice A fs.length c, .slice A1 ws.length c1] 46)).heap.size (w.alloc (.cells #[.slice A fs.length c, .slice A1 ws.length c1] 46))) q) (.cells #[] 2))
          have HR0 := Lib.hid (own_made ((w.alloc (.cells #[.slice A fs.length c, .slice A1 ws.length c1] 46)).drewN q) 2 (w.heap.size + 1) 1 _ hsz0 (Nat.le_refl _))
          have hsz9 := size_box w (.cells #[.slice A fs.length c, .slice A1 ws.length c1] 46)
          generalize hW1 : ((w.alloc (.cells #[.slice A fs.length c, .slice A1 ws.length c1] 46)).drewN q).alloc (.cells #[] 2) = W1 at *
          clear hW1
          generalize (w.alloc (.cells #[.slice A fs.length c, .slice A1 ws.length c1] 46)) = W0 at *
          clear HC0 HSE
          have hgc : w.heap.size < W0.heap.size := by omega
          have HX := Lib.hid (fun (W : World) (h : Below W0.heap.size W0 W) => (blk_cell ((h.block w.heap.size hgc).trans HCC.out) 1).trans (show _ = some (.slice A1 ws.length c1) from rfl))
          have hlen60 : ws.length ≤ 60 := HG.out.many
          have HSI := Lib.hid (fun (i : Nat) (W : World) (hi : i < ws.length) (h : Below W0.heap.size W0 W) => l05Sights_ok w.heap.size A c fs A1 c1 ws i W hi (by have := HG.out.many; omega) (by have := (HG.out.len i hi).2; omega) HG.out.flags (HG.out.words i hi) ((h.block _ hgc).trans HCC.out) (C_below' H0.out h) (C_below' H1.out h))
          have HDL := Lib.hid (fun (i : Nat) (hi : i < ws.length) => dSee_le (ss := ss) HG.out hi)
          have HDE : Hid (∀ i, dSee fs ws ss i = farS (see fs (rl ws i)) ss) := fun _ => rfl
          generalize dSee fs ws ss = D at *
          go_loopw [8, 9] (fun v i wr => ∃ (k : Nat), k ≤ ws.length ∧ i = .int .i64 k ∧ Hid (wr.ownsRow (w.heap.size + 1) 2 1 v (candTo D wrong k).length (nums .i64 (candTo D wrong k))) ∧ Hid (Below W0.heap.size W0 wr)) (fun _ i _ => ws.length - (intOf i).toNat)
          case atStart => exact ⟨0, Nat.zero_le _, rfl, HR0, HB1⟩
          case round =>
            clear HB1 HR0
            obtain ⟨i, hi, rfl, HO, HB⟩ := hrel
            have x1 := HX.out _ HB.out
            by_cases hlt : i < ws.length
            · exact absurd hlt (by omega)
            · obtain rfl : i = ws.length := by omega
              go_wp2
              go_ret2
              rw [HS.out]
              exact ⟨_, rfl, own_weaken HO.out (by omega), HB0.out.trans (HB.out.mono (by omega))⟩

        · have hnp : 0 < ws.length := by omega
          have hni : (0 : Int) < (ws.length : Int) := by omega
          obtain ⟨ad1, A3, c3, hA1, hx3, hl3, hr3⟩ := at_row H1.out hnp
          rw [Addr.add_zero'] at hx3
          have hm3 : (rl ws 0).length ≤ 9223372036854775807 := hr3.2.1
          clear hr3
          by_cases hl : ss.length = (rl ws 0).length
          · have HS := Lib.hid (show candV fs ws ss wrong = (candTo (dSee fs ws ss) wrong ws.length, 0) by rw [HV.out]; simp [hl])
            have hlb : ((ss.length : Int) != ((rl ws 0).length : Int)) = false := by simp [hl]
            have HLS : Hid (0 < ws.length → ss.length = (rl ws 0).length) := fun _ => hl
            subst hA1
            have hnb : (0 : Int) < (ws.length : Int) := hni
            clear HV hn0 hl hni
            go_enter Try.func36, Try.ntmps36
            go_wp2_with (first | (go_at_call 78; refine HC0.out.mono ?_; rintro e w' ⟨rfl, q, rfl⟩) | (go_at_call 91; refine (HSE.out _).mono ?_; rintro e w' ⟨rfl, rfl⟩) | (go_at_call 62; refine (l00In_ok _ _ _ _).mono ?_; rintro e w' ⟨rfl, rfl⟩; rw [HI.out]))

            clear hx3 hlb hnp
            clear hnb
            have HB1 := Lib.hid (below_alloc (below_dN (Below.refl (w.alloc (.cells #[.slice A fs.length c, .slice (some ad1) ws.length c1] 46)).heap.size (w.alloc (.cells #[.slice A fs.length c, .slice (some ad1) ws.length c1] 46))) q) (.cells #[] 2))
            have HR0 := Lib.hid (own_made ((w.alloc (.cells #[.slice A fs.length c, .slice (some ad1) ws.length c1] 46)).drewN q) 2 (w.heap.size + 1) 1 _ hsz0 (Nat.le_refl _))
            have hsz9 := size_box w (.cells #[.slice A fs.length c, .slice (some ad1) ws.length c1] 46)
            generalize hW1 : ((w.alloc (.cells #[.slice A fs.length c, .slice (some ad1) ws.length c1] 46)).drewN q).alloc (.cells #[] 2) = W1 at *
            clear hW1
            generalize (w.alloc (.cells #[.slice A fs.length c, .slice (some ad1) ws.length c1] 46)) = W0 at *
            clear HC0 HSE
            have hgc : w.heap.size < W0.heap.size := by omega
            have HX := Lib.hid (fun (W : World) (h : Below W0.heap.size W0 W) => (blk_cell ((h.block w.heap.size hgc).trans HCC.out) 1).trans (show _ = some (.slice (some ad1) ws.length c1) from rfl))
            have hlen60 : ws.length ≤ 60 := HG.out.many
            have HSI := Lib.hid (fun (i : Nat) (W : World) (hi : i < ws.length) (h : Below W0.heap.size W0 W) => l05Sights_ok w.heap.size A c fs (some ad1) c1 ws i W hi (by have := HG.out.many; omega) (by have := (HG.out.len i hi).2; omega) HG.out.flags (HG.out.words i hi) ((h.block _ hgc).trans HCC.out) (C_below' H0.out h) (C_below' H1.out h))
            have HDL := Lib.hid (fun (i : Nat) (hi : i < ws.length) => dSee_le (ss := ss) HG.out hi)
            have HDE : Hid (∀ i, dSee fs ws ss i = farS (see fs (rl ws i)) ss) := fun _ => rfl
            generalize dSee fs ws ss = D at *
            go_loopw [8, 9] (fun v i wr => ∃ (k : Nat), k ≤ ws.length ∧ i = .int .i64 k ∧ Hid (wr.ownsRow (w.heap.size + 1) 2 1 v (candTo D wrong k).length (nums .i64 (candTo D wrong k))) ∧ Hid (Below W0.heap.size W0 wr)) (fun _ i _ => ws.length - (intOf i).toNat)
            case atStart => exact ⟨0, Nat.zero_le _, rfl, HR0, HB1⟩
            case round =>
              clear HB1 HR0
              obtain ⟨i, hi, rfl, HO, HB⟩ := hrel
              have x1 := HX.out _ HB.out
              by_cases hlt : i < ws.length
              · have hlti : (i : Int) < (ws.length : Int) := by omega
                go_wp2_with fail
                refine (HSI.out i _ hlt HB.out).mono ?_
                rintro e w1 ⟨v, rfl, hown, hb1⟩
                obtain ⟨A5, c5, rfl, hr5⟩ := see_read (by have := (HG.out.len i hlt).2; omega) hown
                have HB1 := Lib.hid (HB.out.trans (hb1.mono HB.out.size))
                have HO1 := Lib.hid (pw_own_below HO.out hb1)
                have HC6 := Lib.hid (l05Far_ok A5 c5 (see fs (rl ws i)) A2 c2 ss w1 hr5 (C_below' H2.out HB1.out) (by rw [see_length, (HG.out.len i hlt).1, HLS.out (by omega)]; omega) (by rw [see_length]; have := (HG.out.len i hlt).2; omega))
                have hd48 := HDL.out i hlt
                rw [← HDE.out] at HC6
                have HCL := candTo_len D wrong i
                clear hown hb1 hr5 x1
                by_cases hdw : (D i : Int) ≤ wrong
                · have HQ := Lib.hid (candTo_yes hdw)
                  generalize D i = d at *
                  go_wp2_with (first | (go_at_call 80; refine HC6.out.mono ?_; rintro e w6 ⟨rfl, hq6⟩; have hb6 : Below w1.heap.size w1 w6 := (by obtain ⟨q, rfl⟩ := hq6; exact below_dN (Below.refl _ _) q); have HB6 := Lib.hid (HB1.out.trans (hb6.mono HB1.out.size)); have HO6 := Lib.hid (pw_own_below HO1.out hb6); clear hq6 hb6) | (at_builtin; refine print_append_num (w0 := W0) (W := w6) (w.heap.size + 1) rfl (.tmp 52) (.tmp 54) 63 2 .i64 8 rfl Try.underlying63 uinfo_i64 (by omega) _ (candTo D wrong i) i rfl rfl HO6.out (by rw [← hsz9]; exact HB6.out) (by rw [← hsz9]; exact HB6.out.size) (by omega) ?_; intro v2 w2 hO2 hb2 hg2 hat2))
                  go_roundw
                  case rel => exact ⟨i + 1, by omega, by go_num, by rw [HQ.out]; exact hO2, by rw [hsz9]; exact hb2⟩
                  case measure => first|(simp [intOf]; done)|(simp [intOf]; omega)
                · have HQ := Lib.hid (candTo_no hdw)
                  generalize D i = d at *
                  go_wp2_with (go_at_call 80; refine HC6.out.mono ?_; rintro e w6 ⟨rfl, hq6⟩; have hb6 : Below w1.heap.size w1 w6 := (by obtain ⟨q, rfl⟩ := hq6; exact below_dN (Below.refl _ _) q); have HB6 := Lib.hid (HB1.out.trans (hb6.mono HB1.out.size)); have HO6 := Lib.hid (pw_own_below HO1.out hb6); clear hq6 hb6)
                  go_roundw
                  case rel => exact ⟨i + 1, by omega, by go_num, by rw [HQ.out]; exact HO6.out, HB6.out⟩
                  case measure => first|(simp [intOf]; done)|(simp [intOf]; omega)
              · obtain rfl : i = ws.length := by omega
                go_wp2
                go_ret2
                rw [HS.out]
                exact ⟨_, rfl, own_weaken HO.out (by omega), HB0.out.trans (HB.out.mono (by omega))⟩

          · have HS := Lib.hid (show candV fs ws ss wrong = ([], 2) by rw [HV.out]; simp [hl, hn0])
            have hlb : ((ss.length : Int) != ((rl ws 0).length : Int)) = true := by simp; omega
            subst hA1
            clear HV hn0 hl
            go_enter Try.func36, Try.ntmps36
            go_wp2_with (first | (go_at_call 78; refine HC0.out.mono ?_; rintro e w' ⟨rfl, q, rfl⟩) | (go_at_call 91; refine (HSE.out _).mono ?_; rintro e w' ⟨rfl, rfl⟩) | (go_at_call 62; refine (l00In_ok _ _ _ _).mono ?_; rintro e w' ⟨rfl, rfl⟩; rw [HI.out]))

            go_ret2
            rw [HS.out]
            exact ⟨_, rfl, own_made _ _ _ _ _ hsz0 (by omega), below_alloc (below_dN HB0.out q) _⟩
end Go.Proofs.Ytjadhhnajphibaa
namespace Go.Proofs.Ytjadhhnajphibaa
open Go.RowKit Go.Proofs.YtjadhhnajphibaaW.PrintWords

set_option maxHeartbeats 4000000 in
theorem isSeen_ok (v0 : Value) (A1 : Option Addr) (c1 : Nat) (ws : List (List Int)) (A2 : Option Addr) (c2 n : Nat) (w : World) (hn : n ≤ 9223372036854775807) (h1 : (Kd.slice 5 (Kd.int .u8)).C w A1 ws.length ws) :
    Calls Try.prog 94 #[.agg #[v0, .slice A1 ws.length c1], .slice A2 n c2] w fun e w' => e = .returned (.bool (decide (ws.length = 0) || decide (n = (rl ws 0).length))) ∧ Below w.heap.size w w' := by
  have hm1 : ws.length ≤ 9223372036854775807 := h1.2.1
  by_cases hn0 : ws.length = 0
  · have HS := Lib.hid (show (decide (ws.length = 0) || decide (n = (rl ws 0).length)) = true by simp [hn0])
    have hnb : ((ws.length : Int) == 0) = true := by simp [hn0]
    clear hn0 h1
    go_enter Try.func94, Try.ntmps94
    go_wp2
    go_ret
    exact ⟨ret_bool HS.out.symm, below_box _ _⟩
  · obtain ⟨ad1, A3, c3, rfl, hx3, hl3, hr3⟩ := at_row h1 (show 0 < ws.length by omega)
    rw [Addr.add_zero'] at hx3
    have hm3 : (rl ws 0).length ≤ 9223372036854775807 := hr3.2.1
    have hni : (0 : Int) < (ws.length : Int) := by omega
    have hnb : ((ws.length : Int) == 0) = false := beq_eq_false_iff_ne.2 (by omega)
    have hx4 := pw_cell_below (below_box w (.cells #[v0, .slice (some ad1) ws.length c1] 46)) hx3
    clear hr3 h1
    by_cases hl : n = (rl ws 0).length
    · have HS := Lib.hid (show (decide (ws.length = 0) || decide (n = (rl ws 0).length)) = true by simp [hl])
      have hlb : ((n : Int) == ((rl ws 0).length : Int)) = true := by simp [hl]
      clear hn0 hl
      go_enter Try.func94, Try.ntmps94
      go_wp2
      go_ret
      exact ⟨ret_bool HS.out.symm, below_box _ _⟩
    · have HS := Lib.hid (show (decide (ws.length = 0) || decide (n = (rl ws 0).length)) = false by simp [hl, hn0])
      have hlb : ((n : Int) == ((rl ws 0).length : Int)) = false := beq_eq_false_iff_ne.2 (by omega)
      clear hn0 hl
      go_enter Try.func94, Try.ntmps94
      go_wp2
      go_ret
      exact ⟨ret_bool HS.out.symm, below_box _ _⟩

set_option maxRecDepth 100000 in
set_option maxHeartbeats 8000000 in
theorem candidates_ok (A : Option Addr) (c : Nat) (fs : List (List Int)) (A1 : Option Addr) (c1 : Nat) (ws : List (List Int)) (A2 : Option Addr) (c2 : Nat) (ss : List (List Int)) (wrong : Int) (w : World) (hg : Good fs ws) (hls : 0 < ws.length → ss.length = (rl ws 0).length)
    (h0 : (Karr 24).C w A fs.length fs) (h1 : (Kd.slice 5 (Kd.int .u8)).C w A1 ws.length ws) (h2 : (Karr 6).C w A2 ss.length ss) :
    Calls Try.prog 95 #[.agg #[.slice A fs.length c, .slice A1 ws.length c1], .slice A2 ss.length c2, .int .i64 wrong] w fun e w' => ∃ v, e = .returned v ∧ w'.ownsRow w.heap.size 2 1 v (candTo (dSee fs ws ss) wrong ws.length).length (nums .i64 (candTo (dSee fs ws ss) wrong ws.length)) ∧ Below w.heap.size w w' := by
  have hm1 : ws.length ≤ 9223372036854775807 := h1.2.1
  have hm2 : ss.length ≤ 9223372036854775807 := h2.2.1
  have hcc := heap_alloc_new w (.cells #[.slice A fs.length c, .slice A1 ws.length c1] 46)
  have hb0 := below_box w (.cells #[.slice A fs.length c, .slice A1 ws.length c1] 46)
  have hsz0 := size_box w (.cells #[.slice A fs.length c, .slice A1 ws.length c1] 46)
  have HCC := Lib.hid hcc
  have HB0 := Lib.hid hb0
  have H0 := Lib.hid (C_below' h0 hb0)
  have H1 := Lib.hid (C_below' h1 hb0)
  have H2 := Lib.hid (C_below' h2 hb0)
  have HG := Lib.hid hg
  have HLS := Lib.hid hls
  have HB1 := Lib.hid (below_box (w.alloc (.cells #[.slice A fs.length c, .slice A1 ws.length c1] 46)) (.cells #[] 2))
  have HR0 := Lib.hid (own_made (w.alloc (.cells #[.slice A fs.length c, .slice A1 ws.length c1] 46)) 2 (w.heap.size + 1) 1 _ hsz0 (Nat.le_refl _))
  clear hcc hb0 h0 h1 h2 hg hls
  have HDL := Lib.hid (fun (i : Nat) (hi : i < ws.length) => dSee_le (ss := ss) HG.out hi)
  have HDE : Hid (∀ i, dSee fs ws ss i = farS (see fs (rl ws i)) ss) := fun _ => rfl
  generalize dSee fs ws ss = D at *
  go_enter Try.func95, Try.ntmps95
  go_wp2
  generalize hW1 : (w.alloc (.cells #[.slice A fs.length c, .slice A1 ws.length c1] 46)).alloc (.cells #[] 2) = W1 at *
  clear hW1
  generalize (w.alloc (.cells #[.slice A fs.length c, .slice A1 ws.length c1] 46)) = W0 at *
  have hgc : w.heap.size < W0.heap.size := by omega
  have hlen60 : ws.length ≤ 60 := HG.out.many
  go_loopw [7, 8, 9, 14] (fun v _ _ i wr => ∃ (k : Nat), k ≤ ws.length ∧ i = .int .i64 k ∧ Hid (wr.ownsRow (w.heap.size + 1) 2 1 v (candTo D wrong k).length (nums .i64 (candTo D wrong k))) ∧ Hid (Below W0.heap.size W0 wr)) (fun _ _ _ i _ => ws.length - (intOf i).toNat)
  case atStart => exact ⟨0, Nat.zero_le _, rfl, HR0, HB1⟩
  case round =>
    clear HB1 HR0
    obtain ⟨i, hi, rfl, HO, HB⟩ := hrel
    by_cases hlt : i < ws.length
    · have hlti : (i : Int) < (ws.length : Int) := by omega
      obtain ⟨ad1, A3, c3, rfl, hx3, hl3, hr3⟩ := at_row (C_below' H1.out HB.out) hlt
      have hcd := (HB.out.block w.heap.size hgc).trans HCC.out
      have x0 := (blk_cell hcd 0).trans (show _ = some (.slice A fs.length c) from rfl)
      have x1 := (blk_cell hcd 1).trans (show _ = some (.slice (some ad1) ws.length c1) from rfl)
      have HSI := Lib.hid (sights_ok A c fs (.slice (some ad1) ws.length c1) A3 c3 (rl ws i) wr (by have := (HG.out.len i hlt).2; omega) HG.out.flags (HG.out.words i hlt) (C_below' H0.out HB.out) hr3)
      clear hr3 hcd
      go_wp2_with fail
      refine HSI.out.mono ?_
      rintro e w1 ⟨v, rfl, hown, hb1⟩
      obtain ⟨A5, c5, rfl, hr5⟩ := see_read (by have := (HG.out.len i hlt).2; omega) hown
      have HB1 := Lib.hid (HB.out.trans (hb1.mono HB.out.size))
      have HO1 := Lib.hid (pw_own_below HO.out hb1)
      have HC6 := Lib.hid (sightsApart_ok A5 c5 (see fs (rl ws i)) A2 c2 ss w1 hr5 (C_below' H2.out HB1.out) (by rw [see_length, (HG.out.len i hlt).1, HLS.out (by omega)]; omega) (by rw [see_length]; have := (HG.out.len i hlt).2; omega))
      have hd48 := HDL.out i hlt
      rw [← HDE.out] at HC6
      have HCL := candTo_len D wrong i
      clear hown hb1 hr5 x0 x1 hx3
      by_cases hdw : (D i : Int) ≤ wrong
      · have HQ := Lib.hid (candTo_yes hdw)
        generalize D i = d at *
        go_wp2_with (first | (go_at_call 85; refine HC6.out.mono ?_; rintro e w6 ⟨rfl, hq6⟩; have hb6 : Below w1.heap.size w1 w6 := (by obtain ⟨q, rfl⟩ := hq6; exact below_dN (Below.refl _ _) q); have HB6 := Lib.hid (HB1.out.trans (hb6.mono HB1.out.size)); have HO6 := Lib.hid (pw_own_below HO1.out hb6); clear hq6 hb6) | (at_builtin; refine print_append_num (w0 := W0) (W := w6) (w.heap.size + 1) rfl (.tmp 26) (.tmp 28) 63 2 .i64 8 rfl Try.underlying63 uinfo_i64 (by omega) _ (candTo D wrong i) i rfl rfl HO6.out (by rw [← hsz0]; exact HB6.out) (by rw [← hsz0]; exact HB6.out.size) (by omega) ?_; intro v2 w2 hO2 hb2 hg2 hat2))
        go_roundw
        case rel => exact ⟨i + 1, by omega, by go_num, by rw [HQ.out]; exact hO2, by rw [hsz0]; exact hb2⟩
        case measure => first|(simp [intOf]; done)|(simp [intOf]; omega)
      · have HQ := Lib.hid (candTo_no hdw)
        generalize D i = d at *
        go_wp2_with (go_at_call 85; refine HC6.out.mono ?_; rintro e w6 ⟨rfl, hq6⟩; have hb6 : Below w1.heap.size w1 w6 := (by obtain ⟨q, rfl⟩ := hq6; exact below_dN (Below.refl _ _) q); have HB6 := Lib.hid (HB1.out.trans (hb6.mono HB1.out.size)); have HO6 := Lib.hid (pw_own_below HO1.out hb6); clear hq6 hb6)
        go_roundw
        case rel => exact ⟨i + 1, by omega, by go_num, by rw [HQ.out]; exact HO6.out, HB6.out⟩
        case measure => first|(simp [intOf]; done)|(simp [intOf]; omega)
    · obtain rfl : i = ws.length := by omega
      go_wp2
      go_ret
      exact ⟨_, rfl, own_weaken (base := w.heap.size + 1) (base' := w.heap.size) HO.out (by omega), HB0.out.trans (HB.out.mono (by omega))⟩
end Go.Proofs.Ytjadhhnajphibaa
