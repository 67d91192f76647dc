/- The law: what the program sees of a word is what the reference sees. -/
import Derived.Test.YtjadhhnajphibaaM4
import Derived.Test.YtjadhhnajphibaaLNear
set_option linter.unusedVariables false
set_option linter.unusedSimpArgs false
namespace Go.Proofs.Ytjadhhnajphibaa
open Go.RowKit Go.Proofs.YtjadhhnajphibaaW.PrintWords

set_option maxRecDepth 100000 in
set_option maxHeartbeats 8000000 in
theorem FnSightsOf_ok (A : Option Addr) (c : Nat) (fs : List (List Int)) (A1 : Option Addr) (c1 : Nat) (ws : List (List Int)) (i : Int) (w : World) (hf : ∀ k i, 0 ≤ rn (rl fs k) i) (hx : WBytes ws) (hwl : ∀ j, (rl ws j).length ≤ 9223372036854775807)
    (h0 : (Karr 24).C w A fs.length fs) (h1 : (Kd.slice 5 (Kd.int .u8)).C w A1 ws.length ws) :
    Calls Try.prog 5 #[.agg #[.slice A fs.length c, .slice A1 ws.length c1], .int .i64 i] w fun e w' => e = .returned (.bool true) ∧ Below w.heap.size w w' := by
  have hm1 : ws.length ≤ 9223372036854775807 := h1.2.1
  have hm0 : fs.length ≤ 9223372036854775807 := h0.2.1
  have hcc := heap_alloc_new w (.cells #[.slice A fs.length c, .slice A1 ws.length c1] 40)
  have hb0 := below_box w (.cells #[.slice A fs.length c, .slice A1 ws.length c1] 40)
  have hsz0 := size_box w (.cells #[.slice A fs.length c, .slice A1 ws.length c1] 40)
  have HSZ := Lib.hid (szCode_ok A c fs A1 c1 ws 1048576 (w.alloc (.cells #[.slice A fs.length c, .slice A1 ws.length c1] 40)) hm0 hm1 hwl (by omega) (by omega) (C_below' h1 hb0))
  have HCC := Lib.hid hcc
  have HB0 := Lib.hid hb0
  have H0 := Lib.hid (C_below' h0 hb0)
  have H1 := Lib.hid (C_below' h1 hb0)
  have hbnd := szCV_bounds (fs := fs) (ws := ws)
  clear hcc hb0 h0 h1
  generalize szCV 1048576 fs ws = sz at *
  by_cases hneg : sz < 0
  · clear hbnd
    go_enter Try.func5, Try.ntmps5
    go_wp2_with (first | (refine load_agg rfl 40 (.tmp 2) rfl ⟨w.heap.size, 0, none⟩ rfl [.slice A fs.length c, .slice A1 ws.length c1] _ (fun j v hv => by rw [add_plain, blk_cell HCC.out j]; simpa using hv) Try.underlying40 rfl ainfo_lcode ?_) | (go_at_call 21; refine HSZ.out.mono ?_; rintro e w1 ⟨rfl, hb1⟩))
    go_ret
    exact ⟨rfl, HB0.out.trans (hb1.mono (by omega))⟩
  · obtain ⟨hfl, hwn, hwl2⟩ := hbnd hneg
    have HL := Lib.hid hwl2
    clear hbnd hwl2 hwl
    have HTC := Lib.hid (fun (W : World) (h : Below (w.alloc (.cells #[.slice A fs.length c, .slice A1 ws.length c1] 40)).heap.size (w.alloc (.cells #[.slice A fs.length c, .slice A1 ws.length c1] 40)) W) => toCode_ok A c fs A1 c1 ws W hfl hwn HL.out (C_below' H0.out h) (C_below' H1.out h))
    have HX := Lib.hid (fun (W : World) (h : Below (w.alloc (.cells #[.slice A fs.length c, .slice A1 ws.length c1] 40)).heap.size (w.alloc (.cells #[.slice A fs.length c, .slice A1 ws.length c1] 40)) W) => And.intro ((blk_cell ((h.block w.heap.size (by omega)).trans HCC.out) 0).trans (show _ = some (.slice A fs.length c) from rfl)) (And.intro ((blk_cell ((h.block w.heap.size (by omega)).trans HCC.out) 1).trans (show _ = some (.slice A1 ws.length c1) from rfl)) (show w.heap.size < W.heap.size by have := h.size; omega)))
    have HS := Lib.hid (fun (W : World) (gs gw : Nat) (bk : Nat → Nat) (B : Nat) (h : MC W B gs gw bk fs ws) => SightsOfS_ok (some ⟨gs, 0, none⟩) fs.length fs (some ⟨gw, 0, none⟩) ws.length ws i W hf hx (h.flags hfl) (h.reads hwn HL.out))
    have HI := Lib.hid (fun (W : World) (gs gw : Nat) (bk : Nat → Nat) (B : Nat) (h : MC W B gs gw bk fs ws) => SightsOf_ok (some ⟨gs, 0, none⟩) fs.length fs (some ⟨gw, 0, none⟩) ws.length ws i W hf hx (h.flags hfl) (h.reads hwn HL.out))
    have HE := Lib.hid (fun (W : World) (gs gw : Nat) (bk : Nat → Nat) (B : Nat) (h : MC W B gs gw bk fs ws) (gs' gw' : Nat) (bk' : Nat → Nat) (B' : Nat) (h' : MC W B' gs' gw' bk' fs ws) => eqCode_ok (some ⟨gs, 0, none⟩) fs.length fs (some ⟨gw, 0, none⟩) ws.length ws (some ⟨gs', 0, none⟩) fs.length fs (some ⟨gw', 0, none⟩) ws.length ws W (h.flags hfl) (h.reads hwn HL.out) (h'.flags hfl) (h'.reads hwn HL.out))
    have HMK := Lib.hid (fun (W : World) (gs gw : Nat) (bk : Nat → Nat) (B : Nat) (h : MC W B gs gw bk fs ws) (hi : Nat) (h2 : gs < hi) (h3 : ∀ j, j < ws.length → bk j < hi) => markCode_ok B gs gw bk fs ws W hfl hwn HL.out hi h2 h3 h)
    rw [eqWB_iff.2 (rfl : fs = fs), eqWB_iff.2 (rfl : ws = ws)] at HE
    unfold cv at HTC HMK
    have hlen := sot_len (i := i) hf hx
    have HEACH := Lib.hid (sot_each fs ws i)
    generalize sotV fs ws i = r at *
    obtain ⟨ss, sc⟩ := r
    have HQ := Lib.hid (fun (W : World) (A0 : Option Addr) (c0 : Nat) (A1 : Option Addr) (c1 : Nat) (h : (Karr 6).C W A0 ss.length ss) (h' : (Karr 6).C W A1 ss.length ss) => eqSightS_ok A0 c0 ss A1 c1 ss W h h')
    rw [eqWB_iff.2 (rfl : ss = ss)] at HQ
    have q1 : (sc != sc) = false := by simp
    simp only at hlen HEACH HS HI
    go_enter Try.func5, Try.ntmps5
    go_wp2_with fail
    refine HSZ.out.mono ?_
    rintro e w1 ⟨rfl, hb1⟩
    obtain ⟨a0, a1, a2⟩ := HX.out w1 hb1
    have HB1 := Lib.hid hb1
    clear hb1
    go_wp2_with fail
    refine (HTC.out w1 HB1.out).mono ?_
    rintro e w2 ⟨gs, gw, bk, rfl, hmc, hb2⟩
    have HB2 := Lib.hid (HB1.out.trans (hb2.mono HB1.out.size))
    have HM := Lib.hid hmc
    clear hb2 hmc
    go_wp2_with fail
    refine (HS.out w2 gs gw bk _ HM.out).mono ?_
    rintro e w3 ⟨v6, rfl, hown, hb3⟩
    obtain ⟨A6, c6, g6, rfl, -, -, -⟩ := own_NF hown hb3.size
    have HB3 := Lib.hid (HB2.out.trans (hb3.mono HB2.out.size))
    have HO6 := Lib.hid hown
    have HL6 := Lib.hid (own_lt hown)
    obtain ⟨b0, b1, b2⟩ := HX.out w3 HB3.out
    clear hown hb3 a0 a1 a2
    go_wp2_with fail
    refine (HTC.out w3 HB3.out).mono ?_
    rintro e w4 ⟨gs2, gw2, bk2, rfl, hmc, hb4⟩
    have HB4 := Lib.hid (HB3.out.trans (hb4.mono HB3.out.size))
    have HO64 := Lib.hid (pw_own_below HO6.out hb4)
    have hs34 : w3.heap.size ≤ w4.heap.size := hb4.size
    have HM2 := Lib.hid hmc
    have HBK := Lib.hid hmc.blocks
    clear hb4 hmc b0 b1 b2
    go_wp2_with fail
    refine (HI.out _ gs2 gw2 bk2 _ (HM2.out.below (below_box _ _))).mono ?_
    rintro e w6 ⟨v9, rfl, hown, hb6⟩
    have hsz5 : w4.heap.size + 1 ≤ w6.heap.size := by have := hb6.size; simp at this; omega
    obtain ⟨A9, c9, g9, rfl, -, hg9, hnf9⟩ := own_NF hown hb6.size
    have hg9' : w4.heap.size + 1 ≤ g9 := by simpa using hg9
    have HNF9 := Lib.hid hnf9
    have HO9 := Lib.hid hown
    have HX6 := Lib.hid ((hb6.block w4.heap.size (by simp)).trans (heap_alloc_new w4 _))
    have HM6 := Lib.hid ((HM2.out.below (below_box w4 (.cells #[hd gs2 fs.length, hd gw2 ws.length] 46))).below hb6)
    have HO66 := Lib.hid (pw_own_below (pw_own_below HO64.out (below_box w4 (.cells #[hd gs2 fs.length, hd gw2 ws.length] 46))) hb6)
    have HB6 := Lib.hid ((below_alloc HB4.out (.cells #[hd gs2 fs.length, hd gw2 ws.length] 46)).trans (hb6.mono (below_alloc HB4.out _).size))
    clear hown hb6 hnf9 hg9
    go_wp2_with fail
    refine (HQ.out w6 A9 c9 A6 c6 (own_arrs (by omega) HO9.out rfl HEACH.out) (own_arrs (by omega) HO66.out rfl HEACH.out)).mono ?_
    rintro e w7 ⟨rfl, hb7⟩
    have HB7 := Lib.hid (HB6.out.trans (hb7.mono HB6.out.size))
    have HX7 := Lib.hid ((hb7.block w4.heap.size (by omega)).trans HX6.out)
    have HM7 := Lib.hid (HM6.out.below hb7)
    have HO67 := Lib.hid (pw_own_below HO66.out hb7)
    have HO97 := Lib.hid (pw_own_below HO9.out hb7)
    have hsz7 : w4.heap.size + 1 ≤ w7.heap.size := by have := hb7.size; omega
    clear hb7
    go_wp2_with fail
    have hdr : Below w7.heap.size w7 w7.drew := ⟨rfl, rfl, rfl, Nat.le_refl _, fun _ _ => rfl⟩
    have hbd := HB7.out.trans (hdr.mono HB7.out.size)
    have HK := Lib.hid (fun (W : World) (h : Below w7.heap.size w7 W) => And.intro ((blk_cell ((h.block w4.heap.size (by omega)).trans HX7.out) 0).trans (show _ = some (hd gs2 fs.length) from rfl)) (And.intro ((blk_cell ((h.block w4.heap.size (by omega)).trans HX7.out) 1).trans (show _ = some (hd gw2 ws.length) from rfl)) (And.intro (HX.out W (HB7.out.trans (h.mono HB7.out.size))).1 (HX.out W (HB7.out.trans (h.mono HB7.out.size))).2.1)))
    go_region_held3 (fun w' => w'.cell? ⟨w4.heap.size, 0, none⟩ = some (hd gs2 fs.length) ∧ w'.cell? ⟨w4.heap.size, 1, none⟩ = some (hd gw2 ws.length) ∧ w'.cell? ⟨w.heap.size, 0, none⟩ = some (.slice A fs.length c) ∧ w'.cell? ⟨w.heap.size, 1, none⟩ = some (.slice A1 ws.length c1))
      ((first | exact HK.out _ hdr | exact HK.out _ hq1 | exact HK.out _ hq2))
      ((first | (go_at_call 23; refine (HTC.out _ hbd).mono ?_; rintro e w7' ⟨gs3, gw3, bk3, rfl, hmc, hb7⟩; have hq1 := hdr.trans (hb7.mono hdr.size)) | (go_at_call 25; refine (HE.out w7' gs2 gw2 bk2 _ (HM7.out.below hq1) gs3 gw3 bk3 _ hmc).mono ?_; rintro e w8 ⟨rfl, hb8⟩; have hq2 := hq1.trans (hb8.mono hq1.size))))
    have hs8 : w4.heap.size + 1 ≤ w8.heap.size := by have := hq2.size; omega
    have HB8 := Lib.hid (HB7.out.trans (hq2.mono HB7.out.size))
    have HX8 := Lib.hid ((hq2.block w4.heap.size (by omega)).trans HX7.out)
    have HM8 := Lib.hid (HM7.out.below hq2)
    have HO68 := Lib.hid (pw_own_below HO67.out hq2)
    have HO98 := Lib.hid (pw_own_below HO97.out hq2)
    obtain ⟨y0, y1, -, -⟩ := HK.out _ hq2
    clear hq1 hq2 hb7 hb8 hmc HK hbd hdr
    go_wp2_with fail
    -- the marks
    refine (HMK.out w8 gs2 gw2 bk2 _ HM8.out w4.heap.size HBK.out.1 HBK.out.2).mono ?_
    rintro e w9 ⟨k1, rfl, hmid⟩
    have HB9 := Lib.hid (Mid.below HB8.out hmid (HB3.out.size) (Nat.le_refl _))
    have HO69 := Lib.hid (own_mid HO68.out hmid (fun k hk => .inl (HL6.out k hk)))
    have HO99 := Lib.hid (own_mid HO98.out hmid (fun k hk => .inr (by have := own_base HO9.out k hk; simp at this; omega)))
    have hs9 : w4.heap.size + 1 ≤ w9.heap.size := by have := hmid.size; omega
    clear hmid y0 y1
    go_wp2_with fail
    refine (HQ.out w9 A9 c9 A6 c6 (own_arrs (by omega) HO99.out rfl HEACH.out) (own_arrs (by omega) HO69.out rfl HEACH.out)).mono ?_
    rintro e w10 ⟨rfl, hb10⟩
    have HB10 := Lib.hid (HB9.out.trans (hb10.mono HB9.out.size))
    have HO610 := Lib.hid (pw_own_below HO69.out hb10)
    have HO910 := Lib.hid (pw_own_below HO99.out hb10)
    have hs10 : w4.heap.size + 1 ≤ w10.heap.size := by have := hb10.size; omega
    clear hb10
    obtain ⟨mm, hmm⟩ : ∃ mm : Nat, 1 + ss.length * 6 = mm := ⟨_, rfl⟩
    have q2 : ((mm : Int) != (mm : Int)) = false := by simp
    have HN10 := Lib.hid (own_NF_at HO910.out (by rw [size_box]; omega) (fun h => (HNF9.out h).1))
    have HMS := Lib.hid (markSightS_ok A9 c9 ss.length 1 g9 72 _ w10 (by omega) (by omega) HN10.out)
    have HHS := Lib.hid (fun (W : World) (f : Nat → Int) h => heldSightS_ok A9 c9 ss.length 1 g9 72 f W (by omega) (by omega) h)
    rw [hmm] at HMS HHS
    go_wp2_with fail
    refine HMS.out.mono ?_
    rintro e w11 ⟨rfl, hnf, hmid⟩
    have HNF11 := Lib.hid (fun h => And.intro (HN10.out h).1 (hnf h))
    have HB11 := Lib.hid (Mid.below HB10.out hmid (by have := HB4.out.size; omega) (Nat.le_refl _))
    have HO611 := Lib.hid (own_mid HO610.out hmid (fun k hk => .inl (by have := HL6.out k hk; omega)))
    clear hnf hmid
    go_wp2_with fail
    refine (HHS.out w11 _ HNF11.out).mono ?_
    rintro e w' ⟨rfl, hw⟩
    obtain rfl : w11 = w' := hw.symm
    obtain ⟨b0, b1, b2⟩ := HX.out w11 HB11.out
    go_wp2_with fail
    refine (HTC.out w11 HB11.out).mono ?_
    rintro e w12 ⟨gs4, gw4, bk4, rfl, hmc, hb12⟩
    have HB12 := Lib.hid (HB11.out.trans (hb12.mono HB11.out.size))
    have HM4 := Lib.hid hmc
    have HO612 := Lib.hid (pw_own_below HO611.out hb12)
    have HNF12 := Lib.hid (fun h => And.intro (HNF11.out h).1 ((HNF11.out h).2.below hb12))
    clear hb12 hmc b0 b1 b2
    go_wp2_with fail
    refine (HI.out w12 gs4 gw4 bk4 _ HM4.out).mono ?_
    rintro e w13 ⟨v14, rfl, hown, hb13⟩
    obtain ⟨A14, c14, g14, rfl, -, -, -⟩ := own_NF hown hb13.size
    have HO14 := Lib.hid hown
    have HB13 := Lib.hid (HB12.out.trans (hb13.mono HB12.out.size))
    have HO613 := Lib.hid (pw_own_below HO612.out hb13)
    have HNF13 := Lib.hid (fun h => And.intro (HNF12.out h).1 ((HNF12.out h).2.below hb13))
    clear hb13 hown
    go_wp2_with fail
    refine (HQ.out w13 A14 c14 A6 c6 (own_arrs (by omega) HO14.out rfl HEACH.out) (own_arrs (by omega) HO613.out rfl HEACH.out)).mono ?_
    rintro e w14 ⟨rfl, hb14⟩
    have HB14 := Lib.hid (HB13.out.trans (hb14.mono HB13.out.size))
    have HNF14 := Lib.hid (fun h => And.intro (HNF13.out h).1 ((HNF13.out h).2.below hb14))
    clear hb14
    go_wp2_with fail
    refine (HHS.out w14 _ HNF14.out).mono ?_
    rintro e w' ⟨rfl, hw⟩
    obtain rfl : w14 = w' := hw.symm
    go_wp2_with fail
    go_ret
    exact ⟨rfl, HB0.out.trans (HB14.out.mono (by omega))⟩
end Go.Proofs.Ytjadhhnajphibaa
