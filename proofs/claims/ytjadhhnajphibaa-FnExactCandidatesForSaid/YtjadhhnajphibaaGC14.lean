/- Contracts of functions and plain lemmas that the row stands on: What has been seen is read: the program's; both functions. The law: what the program reads of what has been seen is what the reference reads. No conditions beyond those that each theorem names. -/
import Derived.Test.YtjadhhnajphibaaGC13
import Derived.Test.YtjadhhnajphibaaGC12
set_option linter.unusedVariables false
set_option linter.unusedSimpArgs false
namespace Go.Proofs.Ytjadhhnajphibaa
open Go.RowKit Go.Proofs.YtjadhhnajphibaaW.PrintWords

set_option maxRecDepth 100000 in
set_option maxHeartbeats 8000000 in
theorem ReadSights_ok (A : Option Addr) (c : Nat) (fs : List (List Int)) (A1 : Option Addr) (c1 : Nat) (ws : List (List Int)) (A2 : Option Addr) (c2 : Nat) (ss : List (List Int)) (w : World) (hf : ∀ k i, 0 ≤ rn (rl fs k) i) (hx : WBytes ws)
    (h0 : (Karr 24).C w A fs.length fs) (h1 : (Kd.slice 5 (Kd.int .u8)).C w A1 ws.length ws) (h2 : (Karr 6).C w A2 ss.length ss) :
    Calls Try.prog 35 #[.agg #[.slice A fs.length c, .slice A1 ws.length c1], .slice A2 ss.length c2] w fun e w' => e = tup3 (rsV fs ws ss) ∧ Below w.heap.size w w' := by
  have hm1 : ws.length ≤ 9223372036854775807 := h1.2.1
  have hm2 : ss.length ≤ 9223372036854775807 := h2.2.1
  have hcc := heap_alloc_new w (.cells #[.slice A fs.length c, .slice A1 ws.length c1] 46)
  have hb0 := below_box w (.cells #[.slice A fs.length c, .slice A1 ws.length c1] 46)
  have hsz0 := size_box w (.cells #[.slice A fs.length c, .slice A1 ws.length c1] 46)
  have HC0 := Lib.hid (ValidCode_ok A c fs A1 c1 ws _ hx (C_below' h0 hb0) (C_below' h1 hb0))
  have HCC := Lib.hid hcc
  have HB0 := Lib.hid hb0
  have H0 := Lib.hid (C_below' h0 hb0)
  have H1 := Lib.hid (C_below' h1 hb0)
  have H2 := Lib.hid (C_below' h2 hb0)
  have HSE := Lib.hid (fun W (h : Below (w.alloc (.cells #[.slice A fs.length c, .slice A1 ws.length c1] 46)).heap.size (w.alloc (.cells #[.slice A fs.length c, .slice A1 ws.length c1] 46)) W) => areSights_ok A2 c2 ss W (C_below' (C_below' h2 hb0) h))
  have HIS := Lib.hid (fun W (h : Below (w.alloc (.cells #[.slice A fs.length c, .slice A1 ws.length c1] 46)).heap.size (w.alloc (.cells #[.slice A fs.length c, .slice A1 ws.length c1] 46)) W) => isSeen_ok (.slice A fs.length c) A1 c1 ws A2 c2 ss.length W hm2 (C_below' (C_below' h1 hb0) h))
  have HX := Lib.hid (fun (W : World) (h : Below (w.alloc (.cells #[.slice A fs.length c, .slice A1 ws.length c1] 46)).heap.size (w.alloc (.cells #[.slice A fs.length c, .slice A1 ws.length c1] 46)) W) => And.intro ((blk_cell ((h.block w.heap.size (by omega)).trans hcc) 0).trans (show _ = some (.slice A fs.length c) from rfl)) ((blk_cell ((h.block w.heap.size (by omega)).trans hcc) 1).trans (show _ = some (.slice A1 ws.length c1) from rfl)))
  have hgood := fun h => okC_good (fs := fs) (ws := ws) h hf hx

  have HV : Hid (rsV fs ws ss = if okC fs ws then (if okS ss then (if ws.length = 0 then (0, 0, 6) else if ss.length = (rl ws 0).length then rsOut (rsTo (dSee fs ws ss) ws.length) else (0, 0, 2)) else (0, 0, 1)) else (0, 0, 1)) := rfl
  clear hcc hb0 h0 h1 h2 hf hx
  rcases hok : okC fs ws with _ | _
  · have HS := Lib.hid (show rsV fs ws ss = (0, 0, 1) by rw [HV.out, hok]; rfl)
    rw [hok] at HC0
    clear HV hok hgood
    go_enter Try.func35, Try.ntmps35
    go_wp2_with (first | (refine load_agg rfl 46 (.tmp 2) rfl ⟨w.heap.size, 0, none⟩ rfl [.slice A fs.length c, .slice A1 ws.length c1] _ (fun j v hv => by rw [add_plain, blk_cell HCC.out j]; simpa using hv) Try.underlying46 rfl ainfo_code ?_) | (go_at_call 42; refine HC0.out.mono ?_; rintro e w1 ⟨rfl, hb1⟩; have HB1 := Lib.hid hb1; clear hb1))
    go_ret3
    rw [HS.out]
    exact ⟨rfl, HB0.out.trans (HB1.out.mono (by omega))⟩
  · have HG := Lib.hid (hgood hok)
    rw [hok] at HC0 HV
    clear hok hgood
    rcases hos : okS ss with _ | _
    · have HS := Lib.hid (show rsV fs ws ss = (0, 0, 1) by rw [HV.out, hos]; rfl)
      rw [hos] at HSE
      clear HV hos
      go_enter Try.func35, Try.ntmps35
      go_wp2_with (first | (refine load_agg rfl 46 (.tmp 2) rfl ⟨w.heap.size, 0, none⟩ rfl [.slice A fs.length c, .slice A1 ws.length c1] _ (fun j v hv => by rw [add_plain, blk_cell HCC.out j]; simpa using hv) Try.underlying46 rfl ainfo_code ?_) | (go_at_call 42; refine HC0.out.mono ?_; rintro e w1 ⟨rfl, hb1⟩; have HB1 := Lib.hid hb1; clear hb1) | (go_at_call 93; refine (HSE.out w1 HB1.out).mono ?_; rintro e w2 ⟨rfl, hb2⟩; have HB2 := Lib.hid (HB1.out.trans (hb2.mono HB1.out.size)); obtain ⟨y0, y1⟩ := HX.out w2 HB2.out; clear hb2))
      go_ret3
      rw [HS.out]
      exact ⟨rfl, HB0.out.trans (HB2.out.mono (by omega))⟩
    · rw [hos] at HSE HV
      clear hos
      by_cases hn0 : ws.length = 0
      · have HS := Lib.hid (show rsV fs ws ss = (0, 0, 6) by rw [HV.out]; simp [hn0])
        have hnb : ((ws.length : Int) == 0) = true := by simp [hn0]
        clear HV hn0
        go_enter Try.func35, Try.ntmps35
        go_wp2_with (first | (refine load_agg rfl 46 (.tmp 2) rfl ⟨w.heap.size, 0, none⟩ rfl [.slice A fs.length c, .slice A1 ws.length c1] _ (fun j v hv => by rw [add_plain, blk_cell HCC.out j]; simpa using hv) Try.underlying46 rfl ainfo_code ?_) | (go_at_call 42; refine HC0.out.mono ?_; rintro e w1 ⟨rfl, hb1⟩; have HB1 := Lib.hid hb1; clear hb1) | (go_at_call 93; refine (HSE.out w1 HB1.out).mono ?_; rintro e w2 ⟨rfl, hb2⟩; have HB2 := Lib.hid (HB1.out.trans (hb2.mono HB1.out.size)); obtain ⟨y0, y1⟩ := HX.out w2 HB2.out; clear hb2))
        go_ret3
        rw [HS.out]
        exact ⟨rfl, HB0.out.trans (HB2.out.mono (by omega))⟩
      · have hnp : 0 < ws.length := by omega
        have hnb : ((ws.length : Int) == 0) = false := beq_eq_false_iff_ne.2 (by omega)
        by_cases hl : ss.length = (rl ws 0).length
        rotate_left
        · have HS := Lib.hid (show rsV fs ws ss = (0, 0, 2) by rw [HV.out]; simp [hn0, hl])
          rw [show (decide (ws.length = 0) || decide (ss.length = (rl ws 0).length)) = false by simp [hn0, hl]] at HIS
          clear HV hn0 hl
          go_enter Try.func35, Try.ntmps35
          go_wp2_with (first | (refine load_agg rfl 46 (.tmp 2) rfl ⟨w.heap.size, 0, none⟩ rfl [.slice A fs.length c, .slice A1 ws.length c1] _ (fun j v hv => by rw [add_plain, blk_cell HCC.out j]; simpa using hv) Try.underlying46 rfl ainfo_code ?_) | (go_at_call 42; refine HC0.out.mono ?_; rintro e w1 ⟨rfl, hb1⟩; have HB1 := Lib.hid hb1; clear hb1) | (go_at_call 93; refine (HSE.out w1 HB1.out).mono ?_; rintro e w2 ⟨rfl, hb2⟩; have HB2 := Lib.hid (HB1.out.trans (hb2.mono HB1.out.size)); obtain ⟨y0, y1⟩ := HX.out w2 HB2.out; clear hb2) | (go_at_call 94; refine (HIS.out w2 HB2.out).mono ?_; rintro e w3 ⟨rfl, hb3⟩; have HB3 := Lib.hid (HB2.out.trans (hb3.mono HB2.out.size)); obtain ⟨y0, y1⟩ := HX.out w3 HB3.out; clear hb3))
          go_ret3
          rw [HS.out]
          exact ⟨rfl, HB0.out.trans (HB3.out.mono (by omega))⟩
        · have HS := Lib.hid (show rsV fs ws ss = rsOut (rsTo (dSee fs ws ss) ws.length) by rw [HV.out]; simp [hn0, hl])
          rw [show (decide (ws.length = 0) || decide (ss.length = (rl ws 0).length)) = true by simp [hl]] at HIS
          have HCA := Lib.hid (fun (k : Int) W (h : Below (w.alloc (.cells #[.slice A fs.length c, .slice A1 ws.length c1] 46)).heap.size (w.alloc (.cells #[.slice A fs.length c, .slice A1 ws.length c1] 46)) W) => candidates_ok A c fs A1 c1 ws A2 c2 ss k W HG.out (fun _ => hl) (C_below' H0.out h) (C_below' H1.out h) (C_below' H2.out h))
          have hrs := rs_cand (dSee fs ws ss) ws.length hnp
          have hdl : ∀ i, i < ws.length → dSee fs ws ss i ≤ 48 := fun i hi => dSee_le HG.out hi
          generalize dSee fs ws ss = D at *
          obtain ⟨hl0, ⟨i, hi, hli⟩, hlow, tl, htl, htc⟩ := hrs
          have HO : Hid (∀ b l c, rsTo D ws.length = ⟨b, l, c⟩ → rsV fs ws ss = if 1 < c then (0, 0, 8) else (b, l, 0)) := by
            intro b l c h
            rw [HS.out, h]
            rfl
          rcases hr : rsTo D ws.length with ⟨b, l, cc⟩
          rw [hr] at hl0 hli hlow htl htc
          simp only at hl0 hli hlow htl htc
          have HOO := Lib.hid (HO.out _ _ _ hr)
          have hL48 := hdl i hi
          obtain ⟨L, rfl⟩ : ∃ L : Nat, l = L := ⟨l.toNat, by omega⟩
          have hL : L ≤ 48 := by omega
          have HLOW := Lib.hid hlow
          have HTL := Lib.hid htl
          have HTC := Lib.hid htc
          clear HV hn0 hl hlow htl htc HO hr hli hdl hL48 hl0 hi HS
          go_enter Try.func35, Try.ntmps35
          go_wp2_with (first | (refine load_agg rfl 46 (.tmp 2) rfl ⟨w.heap.size, 0, none⟩ rfl [.slice A fs.length c, .slice A1 ws.length c1] _ (fun j v hv => by rw [add_plain, blk_cell HCC.out j]; simpa using hv) Try.underlying46 rfl ainfo_code ?_) | (go_at_call 42; refine HC0.out.mono ?_; rintro e w1 ⟨rfl, hb1⟩; have HB1 := Lib.hid hb1; clear hb1) | (go_at_call 93; refine (HSE.out w1 HB1.out).mono ?_; rintro e w2 ⟨rfl, hb2⟩; have HB2 := Lib.hid (HB1.out.trans (hb2.mono HB1.out.size)); obtain ⟨y0, y1⟩ := HX.out w2 HB2.out; clear hb2) | (go_at_call 94; refine (HIS.out w2 HB2.out).mono ?_; rintro e w3 ⟨rfl, hb3⟩; have HB3 := Lib.hid (HB2.out.trans (hb3.mono HB2.out.size)); obtain ⟨y0, y1⟩ := HX.out w3 HB3.out; clear hb3))
          clear HC0 HSE HIS hnb y0 y1
          generalize (w.alloc (.cells #[.slice A fs.length c, .slice A1 ws.length c1] 46)) = W0 at *
          go_loopw [7, 8] (fun v _ wr => ∃ k : Nat, k ≤ L ∧ v = .int .i64 k ∧ Hid (Below W0.heap.size W0 wr)) (fun v _ _ => L + 1 - (intOf v).toNat)
          case atStart => exact ⟨0, Nat.zero_le _, rfl, HB3⟩
          case round =>
            clear HB3
            obtain ⟨k, hk, rfl, HB⟩ := hrel
            obtain ⟨y0, y1⟩ := HX.out wr HB.out
            go_wp2_with fail
            refine (HCA.out k wr HB.out).mono ?_
            rintro e w4 ⟨v, rfl, hown, hb4⟩
            have HB4 := Lib.hid (HB.out.trans (hb4.mono HB.out.size))
            by_cases hkl : k < L
            · rw [HLOW.out k (by omega)] at hown
              obtain ⟨A4, c4, g4, rfl, -, -, -⟩ := own_NF hown hb4.size
              obtain ⟨m, hm⟩ : ∃ m, ([] : List Int).length = m := ⟨_, rfl⟩
              rw [hm]
              have hm0 : ((m : Int) == 0) = true := by rw [← hm]; rfl
              clear hown hb4 hm y0 y1
              go_wp2
              go_roundw
              case rel => exact ⟨k + 1, by omega, by go_num, HB4⟩
              case measure => first|(simp [intOf]; done)|(simp [intOf]; omega)
            · obtain rfl : k = L := by omega
              rw [HTL.out] at hown
              have hmle := own_len hown
              obtain ⟨A4, c4, g4, rfl, -, -, -⟩ := own_NF hown hb4.size
              have hC := own_ints hown rfl
              obtain ⟨ad, rfl, hx4⟩ := at_nat hC (k := 0) (by simp)
              rw [Addr.add_zero', show rn (b :: tl) 0 = b from rfl] at hx4
              obtain ⟨m, hm⟩ : ∃ m, (b :: tl).length = m := ⟨_, rfl⟩
              rw [hm] at hmle ⊢
              have hm2 : m = tl.length + 1 := by rw [← hm]; rfl
              have hm0 : ((m : Int) == 0) = false := beq_eq_false_iff_ne.2 (by omega)
              have hmi : (0 : Int) < (m : Int) := by omega
              have htc := HTC.out
              clear hown hb4 hm y0 y1 hC
              by_cases h1 : m = 1
              · have HQ := Lib.hid (show rsV fs ws ss = (b, (k : Int), 0) by rw [HOO.out, if_neg (by omega)])
                have hm1 : ((m : Int) == 1) = true := by simp [h1]
                clear h1 htc hm2
                go_wp2
                go_ret3
                rw [HQ.out]
                exact ⟨rfl, HB0.out.trans (HB4.out.mono (by omega))⟩
              · have HQ := Lib.hid (show rsV fs ws ss = (0, 0, 8) by rw [HOO.out, if_pos (by omega)])
                have hm1 : ((m : Int) == 1) = false := beq_eq_false_iff_ne.2 (by omega)
                clear h1 htc hm2
                go_wp2
                go_ret3
                rw [HQ.out]
                exact ⟨rfl, HB0.out.trans (HB4.out.mono (by omega))⟩

set_option maxRecDepth 100000 in
set_option maxHeartbeats 8000000 in
theorem CandidatesFor_ok (A : Option Addr) (c : Nat) (fs : List (List Int)) (A1 : Option Addr) (c1 : Nat) (ws : List (List Int)) (A2 : Option Addr) (c2 : Nat) (ss : List (List Int)) (wrong : Int) (w : World) (hf : ∀ k i, 0 ≤ rn (rl fs k) i) (hx : WBytes ws)
    (h0 : (Karr 24).C w A fs.length fs) (h1 : (Kd.slice 5 (Kd.int .u8)).C w A1 ws.length ws) (h2 : (Karr 6).C w A2 ss.length ss) :
    Calls Try.prog 37 #[.agg #[.slice A fs.length c, .slice A1 ws.length c1], .slice A2 ss.length c2, .int .i64 wrong] w fun e w' => ∃ v, e = .returned (.tuple #[v, .int .i64 (candV fs ws ss wrong).2]) ∧ w'.ownsRow w.heap.size 2 1 v (candV fs ws ss wrong).1.length (nums .i64 (candV fs ws ss wrong).1) ∧ Below w.heap.size w w' := by
  have hm1 : ws.length ≤ 9223372036854775807 := h1.2.1
  have hm2 : ss.length ≤ 9223372036854775807 := h2.2.1
  have hcc := heap_alloc_new w (.cells #[.slice A fs.length c, .slice A1 ws.length c1] 46)
  have hb0 := below_box w (.cells #[.slice A fs.length c, .slice A1 ws.length c1] 46)
  have hsz0 := size_box w (.cells #[.slice A fs.length c, .slice A1 ws.length c1] 46)
  have HC0 := Lib.hid (ValidCode_ok A c fs A1 c1 ws _ hx (C_below' h0 hb0) (C_below' h1 hb0))
  have HCC := Lib.hid hcc
  have HB0 := Lib.hid hb0
  have H0 := Lib.hid (C_below' h0 hb0)
  have H1 := Lib.hid (C_below' h1 hb0)
  have H2 := Lib.hid (C_below' h2 hb0)
  have HSE := Lib.hid (fun W (h : Below (w.alloc (.cells #[.slice A fs.length c, .slice A1 ws.length c1] 46)).heap.size (w.alloc (.cells #[.slice A fs.length c, .slice A1 ws.length c1] 46)) W) => areSights_ok A2 c2 ss W (C_below' (C_below' h2 hb0) h))
  have HIS := Lib.hid (fun W (h : Below (w.alloc (.cells #[.slice A fs.length c, .slice A1 ws.length c1] 46)).heap.size (w.alloc (.cells #[.slice A fs.length c, .slice A1 ws.length c1] 46)) W) => isSeen_ok (.slice A fs.length c) A1 c1 ws A2 c2 ss.length W hm2 (C_below' (C_below' h1 hb0) h))
  have HX := Lib.hid (fun (W : World) (h : Below (w.alloc (.cells #[.slice A fs.length c, .slice A1 ws.length c1] 46)).heap.size (w.alloc (.cells #[.slice A fs.length c, .slice A1 ws.length c1] 46)) W) => And.intro ((blk_cell ((h.block w.heap.size (by omega)).trans hcc) 0).trans (show _ = some (.slice A fs.length c) from rfl)) ((blk_cell ((h.block w.heap.size (by omega)).trans hcc) 1).trans (show _ = some (.slice A1 ws.length c1) from rfl)))
  have hgood := fun h => okC_good (fs := fs) (ws := ws) h hf hx

  have HV : Hid (candV fs ws ss wrong = if okC fs ws then (if okS ss then (if inB wrong 0 48 && (decide (ws.length = 0) || decide (ss.length = (rl ws 0).length)) then (candTo (dSee fs ws ss) wrong ws.length, 0) else ([], 2)) else ([], 1)) else ([], 1)) := rfl
  clear hcc hb0 h0 h1 h2 hf hx
  rcases hok : okC fs ws with _ | _
  · have HS := Lib.hid (show candV fs ws ss wrong = ([], 1) by rw [HV.out, hok]; rfl)
    rw [hok] at HC0
    clear HV hok hgood
    go_enter Try.func37, Try.ntmps37
    go_wp2_with (first | (refine load_agg rfl 46 (.tmp 3) rfl ⟨w.heap.size, 0, none⟩ rfl [.slice A fs.length c, .slice A1 ws.length c1] _ (fun j v hv => by rw [add_plain, blk_cell HCC.out j]; simpa using hv) Try.underlying46 rfl ainfo_code ?_) | (go_at_call 42; refine HC0.out.mono ?_; rintro e w1 ⟨rfl, hb1⟩; have HB1 := Lib.hid hb1; clear hb1))
    go_ret2
    rw [HS.out]
    exact ⟨_, rfl, own_nil _ _ _ _, HB0.out.trans (HB1.out.mono (by omega))⟩
  · have HG := Lib.hid (hgood hok)
    rw [hok] at HC0 HV
    clear hok hgood
    rcases hos : okS ss with _ | _
    · have HS := Lib.hid (show candV fs ws ss wrong = ([], 1) by rw [HV.out, hos]; rfl)
      rw [hos] at HSE
      clear HV hos
      go_enter Try.func37, Try.ntmps37
      go_wp2_with (first | (refine load_agg rfl 46 (.tmp 3) rfl ⟨w.heap.size, 0, none⟩ rfl [.slice A fs.length c, .slice A1 ws.length c1] _ (fun j v hv => by rw [add_plain, blk_cell HCC.out j]; simpa using hv) Try.underlying46 rfl ainfo_code ?_) | (go_at_call 42; refine HC0.out.mono ?_; rintro e w1 ⟨rfl, hb1⟩; have HB1 := Lib.hid hb1; clear hb1) | (go_at_call 93; refine (HSE.out w1 HB1.out).mono ?_; rintro e w2 ⟨rfl, hb2⟩; have HB2 := Lib.hid (HB1.out.trans (hb2.mono HB1.out.size)); obtain ⟨y0, y1⟩ := HX.out w2 HB2.out; clear hb2))
      go_ret2
      rw [HS.out]
      exact ⟨_, rfl, own_nil _ _ _ _, HB0.out.trans (HB2.out.mono (by omega))⟩
    · rw [hos] at HSE HV
      clear hos
      rcases hin : inB wrong 0 48 with _ | _
      · have HS := Lib.hid (show candV fs ws ss wrong = ([], 2) by rw [HV.out, hin]; rfl)
        have HI := Lib.hid hin
        clear HV hin
        go_enter Try.func37, Try.ntmps37
        go_wp2_with (first | (refine load_agg rfl 46 (.tmp 3) rfl ⟨w.heap.size, 0, none⟩ rfl [.slice A fs.length c, .slice A1 ws.length c1] _ (fun j v hv => by rw [add_plain, blk_cell HCC.out j]; simpa using hv) Try.underlying46 rfl ainfo_code ?_) | (go_at_call 42; refine HC0.out.mono ?_; rintro e w1 ⟨rfl, hb1⟩; have HB1 := Lib.hid hb1; clear hb1) | (go_at_call 93; refine (HSE.out w1 HB1.out).mono ?_; rintro e w2 ⟨rfl, hb2⟩; have HB2 := Lib.hid (HB1.out.trans (hb2.mono HB1.out.size)); obtain ⟨y0, y1⟩ := HX.out w2 HB2.out; clear hb2) | (go_at_call 54; refine (within_ok _ _ _ _).mono ?_; rintro e w' ⟨rfl, rfl⟩; rw [HI.out]))
        go_ret2
        rw [HS.out]
        exact ⟨_, rfl, own_nil _ _ _ _, HB0.out.trans (HB2.out.mono (by omega))⟩
      · rw [hin] at HV
        have HI := Lib.hid hin
        clear hin
        rcases hse : (decide (ws.length = 0) || decide (ss.length = (rl ws 0).length)) with _ | _
        · have HS := Lib.hid (show candV fs ws ss wrong = ([], 2) by rw [HV.out, hse]; rfl)
          rw [hse] at HIS
          clear HV hse
          go_enter Try.func37, Try.ntmps37
          go_wp2_with (first | (refine load_agg rfl 46 (.tmp 3) rfl ⟨w.heap.size, 0, none⟩ rfl [.slice A fs.length c, .slice A1 ws.length c1] _ (fun j v hv => by rw [add_plain, blk_cell HCC.out j]; simpa using hv) Try.underlying46 rfl ainfo_code ?_) | (go_at_call 42; refine HC0.out.mono ?_; rintro e w1 ⟨rfl, hb1⟩; have HB1 := Lib.hid hb1; clear hb1) | (go_at_call 93; refine (HSE.out w1 HB1.out).mono ?_; rintro e w2 ⟨rfl, hb2⟩; have HB2 := Lib.hid (HB1.out.trans (hb2.mono HB1.out.size)); obtain ⟨y0, y1⟩ := HX.out w2 HB2.out; clear hb2) | (go_at_call 54; refine (within_ok _ _ _ _).mono ?_; rintro e w' ⟨rfl, rfl⟩; rw [HI.out]) | (go_at_call 94; refine (HIS.out w2 HB2.out).mono ?_; rintro e w3 ⟨rfl, hb3⟩; have HB3 := Lib.hid (HB2.out.trans (hb3.mono HB2.out.size)); obtain ⟨y0, y1⟩ := HX.out w3 HB3.out; clear hb3))
          go_ret2
          rw [HS.out]
          exact ⟨_, rfl, own_nil _ _ _ _, HB0.out.trans (HB3.out.mono (by omega))⟩
        · have HS := Lib.hid (show candV fs ws ss wrong = (candTo (dSee fs ws ss) wrong ws.length, 0) by rw [HV.out, hse]; rfl)
          rw [hse] at HIS
          have hls : 0 < ws.length → ss.length = (rl ws 0).length := fun h => by
            rw [Bool.or_eq_true, decide_eq_true_iff, decide_eq_true_iff] at hse
            omega
          have HCA := Lib.hid (fun W (h : Below (w.alloc (.cells #[.slice A fs.length c, .slice A1 ws.length c1] 46)).heap.size (w.alloc (.cells #[.slice A fs.length c, .slice A1 ws.length c1] 46)) W) => candidates_ok A c fs A1 c1 ws A2 c2 ss wrong W HG.out hls (C_below' H0.out h) (C_below' H1.out h) (C_below' H2.out h))
          clear HV hse hls
          go_enter Try.func37, Try.ntmps37
          go_wp2_with (first | (refine load_agg rfl 46 (.tmp 3) rfl ⟨w.heap.size, 0, none⟩ rfl [.slice A fs.length c, .slice A1 ws.length c1] _ (fun j v hv => by rw [add_plain, blk_cell HCC.out j]; simpa using hv) Try.underlying46 rfl ainfo_code ?_) | (go_at_call 42; refine HC0.out.mono ?_; rintro e w1 ⟨rfl, hb1⟩; have HB1 := Lib.hid hb1; clear hb1) | (go_at_call 93; refine (HSE.out w1 HB1.out).mono ?_; rintro e w2 ⟨rfl, hb2⟩; have HB2 := Lib.hid (HB1.out.trans (hb2.mono HB1.out.size)); obtain ⟨y0, y1⟩ := HX.out w2 HB2.out; clear hb2) | (go_at_call 54; refine (within_ok _ _ _ _).mono ?_; rintro e w' ⟨rfl, rfl⟩; rw [HI.out]) | (go_at_call 94; refine (HIS.out w2 HB2.out).mono ?_; rintro e w3 ⟨rfl, hb3⟩; have HB3 := Lib.hid (HB2.out.trans (hb3.mono HB2.out.size)); obtain ⟨y0, y1⟩ := HX.out w3 HB3.out; clear hb3) | (go_at_call 95; refine (HCA.out w3 HB3.out).mono ?_; rintro e w4 ⟨v, rfl, hown, hb4⟩; have HO := Lib.hid hown; have HB4 := Lib.hid (HB3.out.trans (hb4.mono HB3.out.size)); have hs3 := HB3.out.size; clear hown hb4))
          go_ret2
          rw [HS.out]
          exact ⟨_, rfl, own_weaken HO.out (by omega), HB0.out.trans (HB4.out.mono (by omega))⟩
end Go.Proofs.Ytjadhhnajphibaa
namespace Go.Proofs.Ytjadhhnajphibaa
open Go.RowKit Go.Proofs.YtjadhhnajphibaaW.PrintWords

theorem szV_neg {left n : Int} (h : ¬ szV left n < 0) : n ≤ left := by
  unfold szV at h
  split at h <;> omega
theorem szCV_le {left : Int} {fs ws : List (List Int)} (hl : 0 ≤ left) : szCV left fs ws ≤ left := by
  unfold szCV
  have h1 := szV_le (left := left) (n := (fs.length : Int)) (by omega) hl
  split
  · omega
  · split
    · omega
    · have := szWV_le (left := szV left fs.length) (ws := ws) (by omega)
      omega

set_option maxRecDepth 100000 in
set_option maxHeartbeats 8000000 in
theorem FnReadSights_ok (A : Option Addr) (c : Nat) (fs : List (List Int)) (A1 : Option Addr) (c1 : Nat) (ws : List (List Int)) (A2 : Option Addr) (c2 : Nat) (ss : List (List Int)) (w : World) (hf : ∀ k i, 0 ≤ rn (rl fs k) i) (hx : WBytes ws) (hwl : ∀ j, (rl ws j).length ≤ 9223372036854775807)
    (h0 : (Karr 24).C w A fs.length fs) (h1 : (Kd.slice 5 (Kd.int .u8)).C w A1 ws.length ws) (h2 : (Karr 6).C w A2 ss.length ss) :
    Calls Try.prog 6 #[.agg #[.slice A fs.length c, .slice A1 ws.length c1], .slice A2 ss.length c2] w fun e w' => e = .returned (.bool true) ∧ Below w.heap.size w w' := by
  have hm1 : ws.length ≤ 9223372036854775807 := h1.2.1
  have hm0 : fs.length ≤ 9223372036854775807 := h0.2.1
  have hm2 : ss.length ≤ 9223372036854775807 := h2.2.1
  have hcc := heap_alloc_new w (.cells #[.slice A fs.length c, .slice A1 ws.length c1] 40)
  have hb0 := below_box w (.cells #[.slice A fs.length c, .slice A1 ws.length c1] 40)
  have hsz0 := size_box w (.cells #[.slice A fs.length c, .slice A1 ws.length c1] 40)
  have HSZ := Lib.hid (szCode_ok A c fs A1 c1 ws 1048576 (w.alloc (.cells #[.slice A fs.length c, .slice A1 ws.length c1] 40)) hm0 hm1 hwl (by omega) (by omega) (C_below' h1 hb0))
  have HCC := Lib.hid hcc
  have HB0 := Lib.hid hb0
  have H0 := Lib.hid (C_below' h0 hb0)
  have H1 := Lib.hid (C_below' h1 hb0)
  have H2 := Lib.hid (C_below' h2 hb0)
  have HLS := Lib.hid (lens_of (C_lens h2).2)
  have hbnd := szCV_bounds (fs := fs) (ws := ws)
  have hle := szCV_le (left := 1048576) (fs := fs) (ws := ws) (by omega)
  clear hcc hb0 h0 h1 h2
  generalize szCV 1048576 fs ws = sz at *
  by_cases hneg : sz < 0
  · clear hbnd
    go_enter Try.func6, Try.ntmps6
    go_wp2_with (first | (refine load_agg rfl 40 (.tmp 2) rfl ⟨w.heap.size, 0, none⟩ rfl [.slice A fs.length c, .slice A1 ws.length c1] _ (fun j v hv => by rw [add_plain, blk_cell HCC.out j]; simpa using hv) Try.underlying40 rfl ainfo_lcode ?_) | (go_at_call 21; refine HSZ.out.mono ?_; rintro e w1 ⟨rfl, hb1⟩))
    go_ret
    exact ⟨rfl, HB0.out.trans (hb1.mono (by omega))⟩
  · obtain ⟨hfl, hwn, hwl2⟩ := hbnd hneg
    have HL := Lib.hid hwl2
    have HS2 := Lib.hid (fun W => szSightS_ok A2 c2 ss.length sz W hm2 (by omega) hle)
    have hb2 := szV_neg (left := sz) (n := (ss.length : Int))
    clear hbnd hwl2 hwl
    generalize szV sz ss.length = sz2 at *
    by_cases hneg2 : sz2 < 0
    · clear hb2
      go_enter Try.func6, Try.ntmps6
      go_wp2_with (first | (go_at_call 21; refine HSZ.out.mono ?_; rintro e w1 ⟨rfl, hb1⟩) | (go_at_call 32; refine (HS2.out _).mono ?_; rintro e w' ⟨rfl, rfl⟩))
      go_ret
      exact ⟨rfl, HB0.out.trans (hb1.mono (by omega))⟩
    · have hsl : ss.length ≤ 1048576 := by have := hb2 hneg2; omega
      clear hb2
      have HTC := Lib.hid (fun (W : World) (h : Below (w.alloc (.cells #[.slice A fs.length c, .slice A1 ws.length c1] 40)).heap.size (w.alloc (.cells #[.slice A fs.length c, .slice A1 ws.length c1] 40)) W) => toCode_ok A c fs A1 c1 ws W hfl hwn HL.out (C_below' H0.out h) (C_below' H1.out h))
      have HTS := Lib.hid (fun (W : World) (h : Below (w.alloc (.cells #[.slice A fs.length c, .slice A1 ws.length c1] 40)).heap.size (w.alloc (.cells #[.slice A fs.length c, .slice A1 ws.length c1] 40)) W) => toSightS_ok A2 c2 ss W hsl (C_below' H2.out h))
      have HX := Lib.hid (fun (W : World) (h : Below (w.alloc (.cells #[.slice A fs.length c, .slice A1 ws.length c1] 40)).heap.size (w.alloc (.cells #[.slice A fs.length c, .slice A1 ws.length c1] 40)) W) => And.intro ((blk_cell ((h.block w.heap.size (by omega)).trans HCC.out) 0).trans (show _ = some (.slice A fs.length c) from rfl)) (And.intro ((blk_cell ((h.block w.heap.size (by omega)).trans HCC.out) 1).trans (show _ = some (.slice A1 ws.length c1) from rfl)) (show w.heap.size < W.heap.size by have := h.size; omega)))
      have HS := Lib.hid (fun (W : World) (gs gw : Nat) (bk : Nat → Nat) (B : Nat) (h : MC W B gs gw bk fs ws) (g : Nat) (h' : NB .u8 W g 72 (flat ss)) => ReadSightsS_ok (some ⟨gs, 0, none⟩) fs.length fs (some ⟨gw, 0, none⟩) ws.length ws (some ⟨g, 0, none⟩) ss.length ss W hf hx (h.flags hfl) (h.reads hwn HL.out) (h'.arrs HLS.out hm2))
      have HI := Lib.hid (fun (W : World) (gs gw : Nat) (bk : Nat → Nat) (B : Nat) (h : MC W B gs gw bk fs ws) (g : Nat) (h' : NB .u8 W g 72 (flat ss)) => ReadSights_ok (some ⟨gs, 0, none⟩) fs.length fs (some ⟨gw, 0, none⟩) ws.length ws (some ⟨g, 0, none⟩) ss.length ss W hf hx (h.flags hfl) (h.reads hwn HL.out) (h'.arrs HLS.out hm2))
      have HE := Lib.hid (fun (W : World) (gs gw : Nat) (bk : Nat → Nat) (B : Nat) (h : MC W B gs gw bk fs ws) (gs' gw' : Nat) (bk' : Nat → Nat) (B' : Nat) (h' : MC W B' gs' gw' bk' fs ws) => eqCode_ok (some ⟨gs, 0, none⟩) fs.length fs (some ⟨gw, 0, none⟩) ws.length ws (some ⟨gs', 0, none⟩) fs.length fs (some ⟨gw', 0, none⟩) ws.length ws W (h.flags hfl) (h.reads hwn HL.out) (h'.flags hfl) (h'.reads hwn HL.out))
      have HQ := Lib.hid (fun (W : World) (g g' : Nat) (h : NB .u8 W g 72 (flat ss)) (h' : NB .u8 W g' 72 (flat ss)) => eqSightS_ok (some ⟨g, 0, none⟩) ss.length ss (some ⟨g', 0, none⟩) ss.length ss W (h.arrs HLS.out hm2) (h'.arrs HLS.out hm2))
      rw [eqWB_iff.2 (rfl : fs = fs), eqWB_iff.2 (rfl : ws = ws)] at HE
      rw [eqWB_iff.2 (rfl : ss = ss)] at HQ
      unfold cv at HTC
      generalize rsV fs ws ss = r at *
      unfold tup3 at HS HI
      have q1 : (r.1 != r.1) = false := by simp
      have q2 : (r.2.1 != r.2.1) = false := by simp
      have q3 : (r.2.2 != r.2.2) = false := by simp
      go_enter Try.func6, Try.ntmps6
      go_wp2_with fail
      refine HSZ.out.mono ?_
      rintro e w1 ⟨rfl, hb1⟩
      obtain ⟨a0, a1, a2⟩ := HX.out w1 hb1
      have HB1 := Lib.hid hb1
      clear hb1
      go_wp2_with fail
      refine (HS2.out _).mono ?_
      rintro e w' ⟨rfl, rfl⟩
      go_wp2_with fail
      refine (HTC.out w1 HB1.out).mono ?_
      rintro e w2 ⟨gs, gw, bk, rfl, hmc, hb2⟩
      have HB2 := Lib.hid (HB1.out.trans (hb2.mono HB1.out.size))
      have HM := Lib.hid hmc
      clear hb2 hmc a0 a1 a2
      go_wp2_with fail
      refine (HTS.out w2 HB2.out).mono ?_
      rintro e w3 ⟨g, rfl, -, -, hnb, -, hb3⟩
      have HB3 := Lib.hid (HB2.out.trans (hb3.mono HB2.out.size))
      have HM3 := Lib.hid (HM.out.below hb3)
      have HN3 := Lib.hid hnb
      clear hb3 hnb
      go_wp2_with fail
      refine (HS.out w3 gs gw bk _ HM3.out g HN3.out).mono ?_
      rintro e w4 ⟨rfl, hb4⟩
      have HB4 := Lib.hid (HB3.out.trans (hb4.mono HB3.out.size))
      obtain ⟨b0, b1, b2⟩ := HX.out w4 HB4.out
      clear hb4
      go_wp2_with fail
      refine (HTC.out w4 HB4.out).mono ?_
      rintro e w5 ⟨gs2, gw2, bk2, rfl, hmc, hb5⟩
      have HB5 := Lib.hid (HB4.out.trans (hb5.mono HB4.out.size))
      have HM2 := Lib.hid hmc
      clear hb5 hmc b0 b1 b2
      go_wp2_with fail
      have hb5' := below_alloc HB5.out (.cells #[hd gs2 fs.length, hd gw2 ws.length] 46)
      have HB5' := Lib.hid hb5'
      have HX5 := Lib.hid (heap_alloc_new w5 (.cells #[hd gs2 fs.length, hd gw2 ws.length] 46))
      have HM5 := Lib.hid (HM2.out.below (below_box w5 (.cells #[hd gs2 fs.length, hd gw2 ws.length] 46)))
      have hs5 := size_box w5 (.cells #[hd gs2 fs.length, hd gw2 ws.length] 46)
      clear hb5'
      refine (HTS.out _ HB5'.out).mono ?_
      rintro e w6 ⟨g2, rfl, -, -, hnb, -, hb6⟩
      have hs6 : w5.heap.size < w6.heap.size := by have := hb6.size; omega
      have HB6 := Lib.hid (HB5'.out.trans (hb6.mono HB5'.out.size))
      have HM6 := Lib.hid (HM5.out.below hb6)
      have HX6 := Lib.hid ((hb6.block w5.heap.size (by omega)).trans HX5.out)
      have HN6 := Lib.hid hnb
      have y0 := (blk_cell HX6.out 0).trans (show _ = some (hd gs2 fs.length) from rfl)
      have y1 := (blk_cell HX6.out 1).trans (show _ = some (hd gw2 ws.length) from rfl)
      clear hb6 hnb hs5
      go_wp2_with fail
      refine (HI.out w6 gs2 gw2 bk2 _ HM6.out g2 HN6.out).mono ?_
      rintro e w7 ⟨rfl, hb7⟩
      have hs7 : w5.heap.size < w7.heap.size := by have := hb7.size; omega
      have HB7 := Lib.hid (HB6.out.trans (hb7.mono HB6.out.size))
      have HM7 := Lib.hid (HM6.out.below hb7)
      have HX7 := Lib.hid ((hb7.block w5.heap.size (by omega)).trans HX6.out)
      have HN7 := Lib.hid (HN6.out.below hb7)
      clear hb7 y0 y1
      go_wp2_with fail
      have hdr : Below w7.heap.size w7 w7.drew := ⟨rfl, rfl, rfl, Nat.le_refl _, fun _ _ => rfl⟩
      have hbd := HB7.out.trans (hdr.mono HB7.out.size)
      have HK := Lib.hid (fun (W : World) (h : Below w7.heap.size w7 W) => And.intro ((blk_cell ((h.block w5.heap.size (by omega)).trans HX7.out) 0).trans (show _ = some (hd gs2 fs.length) from rfl)) (And.intro ((blk_cell ((h.block w5.heap.size (by omega)).trans HX7.out) 1).trans (show _ = some (hd gw2 ws.length) from rfl)) (And.intro (HX.out W (HB7.out.trans (h.mono HB7.out.size))).1 (HX.out W (HB7.out.trans (h.mono HB7.out.size))).2.1)))
      go_region_held3 (fun w' => w'.cell? ⟨w5.heap.size, 0, none⟩ = some (hd gs2 fs.length) ∧ w'.cell? ⟨w5.heap.size, 1, none⟩ = some (hd gw2 ws.length) ∧ w'.cell? ⟨w.heap.size, 0, none⟩ = some (.slice A fs.length c) ∧ w'.cell? ⟨w.heap.size, 1, none⟩ = some (.slice A1 ws.length c1))
        ((first | exact HK.out _ hdr | exact HK.out _ hq1 | exact HK.out _ hq2))
        ((first | (go_at_call 23; refine (HTC.out _ hbd).mono ?_; rintro e w7' ⟨gs3, gw3, bk3, rfl, hmc, hb7⟩; have hq1 := hdr.trans (hb7.mono hdr.size)) | (go_at_call 25; refine (HE.out w7' gs2 gw2 bk2 _ (HM7.out.below hq1) gs3 gw3 bk3 _ hmc).mono ?_; rintro e w8 ⟨rfl, hb8⟩; have hq2 := hq1.trans (hb8.mono hq1.size))))
      have HB8 := Lib.hid (HB7.out.trans (hq2.mono HB7.out.size))
      have HN8 := Lib.hid (HN7.out.below hq2)
      clear hq1 hq2 hb7 hb8 hmc HK hbd hdr
      go_wp2_with fail
      refine (HTS.out w8 HB8.out).mono ?_
      rintro e w9 ⟨g3, rfl, -, -, hnb, -, hb9⟩
      have HB9 := Lib.hid (HB8.out.trans (hb9.mono HB8.out.size))
      have HN9 := Lib.hid (HN8.out.below hb9)
      have HN9' := Lib.hid hnb
      clear hnb hb9
      go_wp2_with fail
      refine (HQ.out w9 g2 g3 HN9.out HN9'.out).mono ?_
      rintro e w10 ⟨rfl, hb10⟩
      have HB10 := Lib.hid (HB9.out.trans (hb10.mono HB9.out.size))
      clear hb10
      go_wp2_with fail
      go_ret
      exact ⟨rfl, HB0.out.trans (HB10.out.mono (by omega))⟩
end Go.Proofs.Ytjadhhnajphibaa
