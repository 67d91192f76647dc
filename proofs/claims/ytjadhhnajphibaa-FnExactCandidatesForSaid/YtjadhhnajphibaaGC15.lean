/- Contracts of functions and plain lemmas that the row stands on: The law: the words near what has been seen are those that the reference names. No conditions beyond those that each theorem names. -/
import Derived.Test.YtjadhhnajphibaaGC14
set_option linter.unusedVariables false
set_option linter.unusedSimpArgs false
namespace Go.Proofs.Ytjadhhnajphibaa
open Go.RowKit Go.Proofs.YtjadhhnajphibaaW.PrintWords

theorem cand_len {fs ws ss : List (List Int)} {wrong : Int} (hf : ∀ k i, 0 ≤ rn (rl fs k) i) (hx : WBytes ws) : (candV fs ws ss wrong).1.length ≤ 60 := by
  unfold candV
  split
  · rename_i h
    have hm := (okC_good h hf hx).many
    split
    · split
      · have := candTo_len (dSee fs ws ss) wrong ws.length
        simp only
        omega
      · simp
    · simp
  · simp

set_option maxRecDepth 100000 in
set_option maxHeartbeats 8000000 in
theorem FnCandidatesFor_ok (A : Option Addr) (c : Nat) (fs : List (List Int)) (A1 : Option Addr) (c1 : Nat) (ws : List (List Int)) (A2 : Option Addr) (c2 : Nat) (ss : List (List Int)) (wrong : Int) (w : World) (hf : ∀ k i, 0 ≤ rn (rl fs k) i) (hx : WBytes ws) (hwl : ∀ j, (rl ws j).length ≤ 9223372036854775807)
    (h0 : (Karr 24).C w A fs.length fs) (h1 : (Kd.slice 5 (Kd.int .u8)).C w A1 ws.length ws) (h2 : (Karr 6).C w A2 ss.length ss) :
    Calls Try.prog 7 #[.agg #[.slice A fs.length c, .slice A1 ws.length c1], .slice A2 ss.length c2, .int .i64 wrong] w fun e w' => e = .returned (.bool true) ∧ Below w.heap.size w w' := by
  have hm1 : ws.length ≤ 9223372036854775807 := h1.2.1
  have hm0 : fs.length ≤ 9223372036854775807 := h0.2.1
  have hm2 : ss.length ≤ 9223372036854775807 := h2.2.1
  have hcc := heap_alloc_new w (.cells #[.slice A fs.length c, .slice A1 ws.length c1] 40)
  have hb0 := below_box w (.cells #[.slice A fs.length c, .slice A1 ws.length c1] 40)
  have hsz0 := size_box w (.cells #[.slice A fs.length c, .slice A1 ws.length c1] 40)
  have HSZ := Lib.hid (szCode_ok A c fs A1 c1 ws 1048576 (w.alloc (.cells #[.slice A fs.length c, .slice A1 ws.length c1] 40)) hm0 hm1 hwl (by omega) (by omega) (C_below' h1 hb0))
  have HCC := Lib.hid hcc
  have HB0 := Lib.hid hb0
  have H0 := Lib.hid (C_below' h0 hb0)
  have H1 := Lib.hid (C_below' h1 hb0)
  have H2 := Lib.hid (C_below' h2 hb0)
  have HLS := Lib.hid (lens_of (C_lens h2).2)
  have hbnd := szCV_bounds (fs := fs) (ws := ws)
  have hle := szCV_le (left := 1048576) (fs := fs) (ws := ws) (by omega)
  clear hcc hb0 h0 h1 h2
  generalize szCV 1048576 fs ws = sz at *
  by_cases hneg : sz < 0
  · clear hbnd
    go_enter Try.func7, Try.ntmps7
    go_wp2_with (first | (refine load_agg rfl 40 (.tmp 3) rfl ⟨w.heap.size, 0, none⟩ rfl [.slice A fs.length c, .slice A1 ws.length c1] _ (fun j v hv => by rw [add_plain, blk_cell HCC.out j]; simpa using hv) Try.underlying40 rfl ainfo_lcode ?_) | (go_at_call 21; refine HSZ.out.mono ?_; rintro e w1 ⟨rfl, hb1⟩))
    go_ret
    exact ⟨rfl, HB0.out.trans (hb1.mono (by omega))⟩
  · obtain ⟨hfl, hwn, hwl2⟩ := hbnd hneg
    have HL := Lib.hid hwl2
    have HS2 := Lib.hid (fun W => szSightS_ok A2 c2 ss.length sz W hm2 (by omega) hle)
    have hb2 := szV_neg (left := sz) (n := (ss.length : Int))
    clear hbnd hwl2 hwl
    generalize szV sz ss.length = sz2 at *
    by_cases hneg2 : sz2 < 0
    · clear hb2
      go_enter Try.func7, Try.ntmps7
      go_wp2_with (first | (go_at_call 21; refine HSZ.out.mono ?_; rintro e w1 ⟨rfl, hb1⟩) | (go_at_call 32; refine (HS2.out _).mono ?_; rintro e w' ⟨rfl, rfl⟩))
      go_ret
      exact ⟨rfl, HB0.out.trans (hb1.mono (by omega))⟩
    · have hsl : ss.length ≤ 1048576 := by have := hb2 hneg2; omega
      clear hb2
      have HTC := Lib.hid (fun (W : World) (h : Below (w.alloc (.cells #[.slice A fs.length c, .slice A1 ws.length c1] 40)).heap.size (w.alloc (.cells #[.slice A fs.length c, .slice A1 ws.length c1] 40)) W) => toCode_ok A c fs A1 c1 ws W hfl hwn HL.out (C_below' H0.out h) (C_below' H1.out h))
      have HTS := Lib.hid (fun (W : World) (h : Below (w.alloc (.cells #[.slice A fs.length c, .slice A1 ws.length c1] 40)).heap.size (w.alloc (.cells #[.slice A fs.length c, .slice A1 ws.length c1] 40)) W) => toSightS_ok A2 c2 ss W hsl (C_below' H2.out h))
      have HX := Lib.hid (fun (W : World) (h : Below (w.alloc (.cells #[.slice A fs.length c, .slice A1 ws.length c1] 40)).heap.size (w.alloc (.cells #[.slice A fs.length c, .slice A1 ws.length c1] 40)) W) => And.intro ((blk_cell ((h.block w.heap.size (by omega)).trans HCC.out) 0).trans (show _ = some (.slice A fs.length c) from rfl)) (And.intro ((blk_cell ((h.block w.heap.size (by omega)).trans HCC.out) 1).trans (show _ = some (.slice A1 ws.length c1) from rfl)) (show w.heap.size < W.heap.size by have := h.size; omega)))
      have HS := Lib.hid (fun (W : World) (gs gw : Nat) (bk : Nat → Nat) (B : Nat) (h : MC W B gs gw bk fs ws) (g : Nat) (h' : NB .u8 W g 72 (flat ss)) => CandidatesForS_ok (some ⟨gs, 0, none⟩) fs.length fs (some ⟨gw, 0, none⟩) ws.length ws (some ⟨g, 0, none⟩) ss.length ss wrong W hf hx (h.flags hfl) (h.reads hwn HL.out) (h'.arrs HLS.out hm2))
      have HI := Lib.hid (fun (W : World) (gs gw : Nat) (bk : Nat → Nat) (B : Nat) (h : MC W B gs gw bk fs ws) (g : Nat) (h' : NB .u8 W g 72 (flat ss)) => CandidatesFor_ok (some ⟨gs, 0, none⟩) fs.length fs (some ⟨gw, 0, none⟩) ws.length ws (some ⟨g, 0, none⟩) ss.length ss wrong W hf hx (h.flags hfl) (h.reads hwn HL.out) (h'.arrs HLS.out hm2))
      have HE := Lib.hid (fun (W : World) (gs gw : Nat) (bk : Nat → Nat) (B : Nat) (h : MC W B gs gw bk fs ws) (gs' gw' : Nat) (bk' : Nat → Nat) (B' : Nat) (h' : MC W B' gs' gw' bk' fs ws) => eqCode_ok (some ⟨gs, 0, none⟩) fs.length fs (some ⟨gw, 0, none⟩) ws.length ws (some ⟨gs', 0, none⟩) fs.length fs (some ⟨gw', 0, none⟩) ws.length ws W (h.flags hfl) (h.reads hwn HL.out) (h'.flags hfl) (h'.reads hwn HL.out))
      have HQ := Lib.hid (fun (W : World) (g g' : Nat) (h : NB .u8 W g 72 (flat ss)) (h' : NB .u8 W g' 72 (flat ss)) => eqSightS_ok (some ⟨g, 0, none⟩) ss.length ss (some ⟨g', 0, none⟩) ss.length ss W (h.arrs HLS.out hm2) (h'.arrs HLS.out hm2))
      rw [eqWB_iff.2 (rfl : fs = fs), eqWB_iff.2 (rfl : ws = ws)] at HE
      rw [eqWB_iff.2 (rfl : ss = ss)] at HQ
      unfold cv at HTC
      have HMK := Lib.hid (fun (W : World) (gs gw : Nat) (bk : Nat → Nat) (B : Nat) (h : MC W B gs gw bk fs ws) (hi : Nat) (h2 : gs < hi) (h3 : ∀ j, j < ws.length → bk j < hi) => markCode_ok B gs gw bk fs ws W hfl hwn HL.out hi h2 h3 h)
      unfold cv at HMK
      have hlen := cand_len (fs := fs) (ws := ws) (ss := ss) (wrong := wrong) hf hx
      generalize candV fs ws ss wrong = r at *
      obtain ⟨xs, sc⟩ := r
      have HQI := Lib.hid (fun (W : World) (A0 : Option Addr) (c0 : Nat) (A1 : Option Addr) (c1 : Nat) (h : (Kd.int .i64).C W A0 xs.length xs) (h' : (Kd.int .i64).C W A1 xs.length xs) => eqInt64S_ok A0 c0 xs A1 c1 xs W h h')
      rw [eqB_iff.2 (rfl : xs = xs)] at HQI
      have q1 : (sc != sc) = false := by simp
      simp only at hlen HS HI
      go_enter Try.func7, Try.ntmps7
      go_wp2_with fail
      refine HSZ.out.mono ?_
      rintro e w1 ⟨rfl, hb1⟩
      obtain ⟨a0, a1, a2⟩ := HX.out w1 hb1
      have HB1 := Lib.hid hb1
      clear hb1
      go_wp2_with fail
      refine (HS2.out _).mono ?_
      rintro e w' ⟨rfl, rfl⟩
      go_wp2_with fail
      refine (HTC.out w1 HB1.out).mono ?_
      rintro e w2 ⟨gs, gw, bk, rfl, hmc, hb2⟩
      have HB2 := Lib.hid (HB1.out.trans (hb2.mono HB1.out.size))
      have HM := Lib.hid hmc
      clear hb2 hmc a0 a1 a2
      go_wp2_with fail
      refine (HTS.out w2 HB2.out).mono ?_
      rintro e w3 ⟨g, rfl, -, -, hnb, -, hb3⟩
      have HB3 := Lib.hid (HB2.out.trans (hb3.mono HB2.out.size))
      have HM3 := Lib.hid (HM.out.below hb3)
      have HN3 := Lib.hid hnb
      clear hb3 hnb
      go_wp2_with fail
      refine (HS.out w3 gs gw bk _ HM3.out g HN3.out).mono ?_
      rintro e w4 ⟨v6, rfl, hown, hb4⟩
      obtain ⟨A6, c6, g6, rfl, -, -, -⟩ := own_NF hown hb4.size
      have HB4 := Lib.hid (HB3.out.trans (hb4.mono HB3.out.size))
      have HO4 := Lib.hid hown
      have HL6 := Lib.hid (own_lt hown)
      obtain ⟨b0, b1, b2⟩ := HX.out w4 HB4.out
      clear hb4 hown
      go_wp2_with fail
      refine (HTC.out w4 HB4.out).mono ?_
      rintro e w5 ⟨gs2, gw2, bk2, rfl, hmc, hb5⟩
      have HB5 := Lib.hid (HB4.out.trans (hb5.mono HB4.out.size))
      have HM2 := Lib.hid hmc
      have HBK := Lib.hid hmc.blocks
      have HO5 := Lib.hid (pw_own_below (pw_own_below HO4.out hb5) (below_box w5 (.cells #[hd gs2 fs.length, hd gw2 ws.length] 46)))
      have hs45 : w4.heap.size ≤ w5.heap.size := hb5.size
      clear hb5 hmc b0 b1 b2
      go_wp2_with fail
      have hb5' := below_alloc HB5.out (.cells #[hd gs2 fs.length, hd gw2 ws.length] 46)
      have HB5' := Lib.hid hb5'
      have HX5 := Lib.hid (heap_alloc_new w5 (.cells #[hd gs2 fs.length, hd gw2 ws.length] 46))
      have HM5 := Lib.hid (HM2.out.below (below_box w5 (.cells #[hd gs2 fs.length, hd gw2 ws.length] 46)))
      have hs5 := size_box w5 (.cells #[hd gs2 fs.length, hd gw2 ws.length] 46)
      clear hb5'
      refine (HTS.out _ HB5'.out).mono ?_
      rintro e w6 ⟨g2, rfl, hg2, hg2', hnb, -, hb6⟩
      have HO6 := Lib.hid (pw_own_below HO5.out hb6)
      have hs6 : w5.heap.size < w6.heap.size := by have := hb6.size; omega
      have HB6 := Lib.hid (HB5'.out.trans (hb6.mono HB5'.out.size))
      have HM6 := Lib.hid (HM5.out.below hb6)
      have HX6 := Lib.hid ((hb6.block w5.heap.size (by omega)).trans HX5.out)
      have HN6 := Lib.hid hnb
      have y0 := (blk_cell HX6.out 0).trans (show _ = some (hd gs2 fs.length) from rfl)
      have y1 := (blk_cell HX6.out 1).trans (show _ = some (hd gw2 ws.length) from rfl)
      have hg2l : w5.heap.size + 1 ≤ g2 := by omega
      clear hb6 hnb hs5 hg2
      go_wp2_with fail
      refine (HI.out w6 gs2 gw2 bk2 _ HM6.out g2 HN6.out).mono ?_
      rintro e w7 ⟨v12, rfl, hown, hb7⟩
      have hs7 : w6.heap.size ≤ w7.heap.size := hb7.size
      obtain ⟨A12, c12, g12, rfl, -, hg12, hnf12⟩ := own_NF hown hs7
      have HNF12 := Lib.hid hnf12
      have HO12 := Lib.hid hown
      have HO7 := Lib.hid (pw_own_below HO6.out hb7)
      have HB7 := Lib.hid (HB6.out.trans (hb7.mono HB6.out.size))
      have HM7 := Lib.hid (HM6.out.below hb7)
      have HX7 := Lib.hid ((hb7.block w5.heap.size (by omega)).trans HX6.out)
      have HN7 := Lib.hid (HN6.out.below hb7)
      clear hb7 y0 y1 hown hnf12
      go_wp2_with fail
      refine (HQI.out w7 A12 c12 A6 c6 (own_ints HO12.out rfl) (own_ints HO7.out rfl)).mono ?_
      rintro e w7q ⟨rfl, hq7⟩
      have hb7q : Below w7.heap.size w7 w7q := by obtain ⟨q, rfl⟩ := hq7; exact below_dN (Below.refl _ _) q
      have hs7q := hb7q.size
      have HB7q := Lib.hid (HB7.out.trans (hb7q.mono HB7.out.size))
      have HM7q := Lib.hid (HM7.out.below hb7q)
      have HX7q := Lib.hid ((hb7q.block w5.heap.size (by omega)).trans HX7.out)
      have HN7q := Lib.hid (HN7.out.below hb7q)
      have HO7q := Lib.hid (pw_own_below HO7.out hb7q)
      have HO12q := Lib.hid (pw_own_below HO12.out hb7q)
      clear hq7 hb7q HB7 HM7 HX7 HN7 HO7
      go_wp2_with fail
      have hdr : Below w7q.heap.size w7q w7q.drew := ⟨rfl, rfl, rfl, Nat.le_refl _, fun _ _ => rfl⟩
      have hbd := HB7q.out.trans (hdr.mono HB7q.out.size)
      have HK := Lib.hid (fun (W : World) (h : Below w7q.heap.size w7q W) => And.intro ((blk_cell ((h.block w5.heap.size (by omega)).trans HX7q.out) 0).trans (show _ = some (hd gs2 fs.length) from rfl)) (And.intro ((blk_cell ((h.block w5.heap.size (by omega)).trans HX7q.out) 1).trans (show _ = some (hd gw2 ws.length) from rfl)) (And.intro (HX.out W (HB7q.out.trans (h.mono HB7q.out.size))).1 (HX.out W (HB7q.out.trans (h.mono HB7q.out.size))).2.1)))
      go_region_held3 (fun w' => w'.cell? ⟨w5.heap.size, 0, none⟩ = some (hd gs2 fs.length) ∧ w'.cell? ⟨w5.heap.size, 1, none⟩ = some (hd gw2 ws.length) ∧ w'.cell? ⟨w.heap.size, 0, none⟩ = some (.slice A fs.length c) ∧ w'.cell? ⟨w.heap.size, 1, none⟩ = some (.slice A1 ws.length c1))
        ((first | exact HK.out _ hdr | exact HK.out _ hq1 | exact HK.out _ hq2))
        ((first | (go_at_call 23; refine (HTC.out _ hbd).mono ?_; rintro e w7' ⟨gs3, gw3, bk3, rfl, hmc, hb7⟩; have hq1 := hdr.trans (hb7.mono hdr.size)) | (go_at_call 25; refine (HE.out w7' gs2 gw2 bk2 _ (HM7q.out.below hq1) gs3 gw3 bk3 _ hmc).mono ?_; rintro e w8 ⟨rfl, hb8⟩; have hq2 := hq1.trans (hb8.mono hq1.size))))
      have hs8 : w6.heap.size ≤ w8.heap.size := by have := hq2.size; omega
      have HB8 := Lib.hid (HB7q.out.trans (hq2.mono HB7q.out.size))
      have HX8 := Lib.hid ((hq2.block w5.heap.size (by omega)).trans HX7q.out)
      have HM8 := Lib.hid (HM7q.out.below hq2)
      have HN8 := Lib.hid (HN7q.out.below hq2)
      have HO68 := Lib.hid (pw_own_below HO7q.out hq2)
      have HO128 := Lib.hid (pw_own_below HO12q.out hq2)
      clear hq1 hq2 hb7 hb8 hmc HK hbd hdr
      go_wp2_with fail
      refine (HTS.out w8 HB8.out).mono ?_
      rintro e w9 ⟨g3, rfl, -, -, hnb, -, hb9⟩
      have HB9 := Lib.hid (HB8.out.trans (hb9.mono HB8.out.size))
      have HX9 := Lib.hid ((hb9.block w5.heap.size (by omega)).trans HX8.out)
      have HM9 := Lib.hid (HM8.out.below hb9)
      have HN9 := Lib.hid (HN8.out.below hb9)
      have HN9' := Lib.hid hnb
      have HO69 := Lib.hid (pw_own_below HO68.out hb9)
      have HO129 := Lib.hid (pw_own_below HO128.out hb9)
      have hs9 := hb9.size
      clear hnb hb9
      go_wp2_with fail
      refine (HQ.out w9 g2 g3 HN9.out HN9'.out).mono ?_
      rintro e w10 ⟨rfl, hb10⟩
      have HB10 := Lib.hid (HB9.out.trans (hb10.mono HB9.out.size))
      have HX10 := Lib.hid ((hb10.block w5.heap.size (by omega)).trans HX9.out)
      have HM10 := Lib.hid (HM9.out.below hb10)
      have HN10 := Lib.hid (HN9.out.below hb10)
      have HO610 := Lib.hid (pw_own_below HO69.out hb10)
      have HO1210 := Lib.hid (pw_own_below HO129.out hb10)
      have hs10 := hb10.size
      have y0 := (blk_cell HX10.out 0).trans (show _ = some (hd gs2 fs.length) from rfl)
      have y1 := (blk_cell HX10.out 1).trans (show _ = some (hd gw2 ws.length) from rfl)
      clear hb10
      go_wp2_with fail
      -- the marks
      refine (HMK.out w10 gs2 gw2 bk2 _ HM10.out w5.heap.size HBK.out.1 HBK.out.2).mono ?_
      rintro e w11 ⟨k1, rfl, hk1, hmid⟩
      have HB11 := Lib.hid (Mid.below HB10.out hmid (HB4.out.size) (Nat.le_refl _))
      have HO611 := Lib.hid (own_mid HO610.out hmid (fun k hk => .inl (HL6.out k hk)))
      have HO1211 := Lib.hid (own_mid HO1210.out hmid (fun k hk => .inr (by have := own_base HO12.out k hk; omega)))
      have HN11 := Lib.hid (HN10.out.fn.mid hmid (.inr (by omega)))
      have hs11 := hmid.size
      clear hmid y0 y1
      have hfl6 := flat_length HLS.out
      rw [hfl6] at HN11
      go_wp2_with fail
      refine (markSightS_ok (some ⟨g2, 0, none⟩) ss.length ss.length k1 g2 72 _ w11 hsl (by omega) (fun _ => ⟨rfl, HN11.out⟩)).mono ?_
      rintro e w12 ⟨rfl, -, hmid⟩
      have HB12 := Lib.hid (Mid.below HB11.out hmid (by have := HB4.out.size; omega) (Nat.le_refl _))
      have HO612 := Lib.hid (own_mid HO611.out hmid (fun k hk => .inl (by have := HL6.out k hk; omega)))
      have HO1212 := Lib.hid (own_mid HO1211.out hmid (fun k hk => .inr (by have := own_base HO12.out k hk; omega)))
      have hs12 := hmid.size
      clear hmid
      obtain ⟨k2, hk2⟩ : ∃ k2 : Nat, k1 + ss.length * 6 = k2 := ⟨_, rfl⟩
      rw [hk2]
      go_wp2_with fail
      refine (HQI.out w12 A12 c12 A6 c6 (own_ints HO1212.out rfl) (own_ints HO612.out rfl)).mono ?_
      rintro e w13 ⟨rfl, hq13⟩
      have hb13 : Below w12.heap.size w12 w13 := by obtain ⟨q, rfl⟩ := hq13; exact below_dN (Below.refl _ _) q
      have HB13 := Lib.hid (HB12.out.trans (hb13.mono HB12.out.size))
      have HO613 := Lib.hid (pw_own_below HO612.out hb13)
      have HO1213 := Lib.hid (pw_own_below HO1212.out hb13)
      have hs13 := hb13.size
      clear hb13 hq13
      obtain ⟨mm, hmm⟩ : ∃ mm : Nat, 1 + xs.length = mm := ⟨_, rfl⟩
      have q2 : ((mm : Int) != (mm : Int)) = false := by simp
      have hn13 := own_NF_at HO1213.out (by omega) (fun h => (HNF12.out h).1)
      rw [Nat.mul_one] at hn13
      have HN13 := Lib.hid hn13
      have HMS := Lib.hid (markInt64S_ok A12 c12 xs.length 1 g12 2 _ w13 (by omega) (by omega) HN13.out)
      have HHS := Lib.hid (fun (W : World) (f : Nat → Int) h => heldInt64S_ok A12 c12 xs.length 1 g12 2 f W (by omega) (by omega) h)
      rw [hmm] at HMS HHS
      clear hn13
      go_wp2_with fail
      refine HMS.out.mono ?_
      rintro e w14 ⟨rfl, hnf, hmid⟩
      have HNF14 := Lib.hid (fun h => And.intro (HN13.out h).1 (hnf (HN13.out h).2))
      have HB14 := Lib.hid (Mid.below HB13.out hmid (by have := HB4.out.size; omega) (Nat.le_refl _))
      have HO614 := Lib.hid (own_mid HO613.out hmid (fun k hk => .inl (by have := HL6.out k hk; omega)))
      clear hnf hmid
      go_wp2_with fail
      refine (HHS.out w14 _ HNF14.out).mono ?_
      rintro e w' ⟨rfl, hw⟩
      obtain rfl : w14 = w' := hw.symm
      obtain ⟨b0, b1, b2⟩ := HX.out w14 HB14.out
      go_wp2_with fail
      refine (HTC.out w14 HB14.out).mono ?_
      rintro e w15 ⟨gs4, gw4, bk4, rfl, hmc, hb15⟩
      have HB15 := Lib.hid (HB14.out.trans (hb15.mono HB14.out.size))
      have HM4 := Lib.hid hmc
      have HO615 := Lib.hid (pw_own_below HO614.out hb15)
      have HNF15 := Lib.hid (fun h => And.intro (HNF14.out h).1 ((HNF14.out h).2.below hb15))
      clear hb15 hmc b0 b1 b2
      go_wp2_with fail
      refine (HTS.out w15 HB15.out).mono ?_
      rintro e w16 ⟨g4, rfl, -, -, hnb, -, hb16⟩
      have HB16 := Lib.hid (HB15.out.trans (hb16.mono HB15.out.size))
      have HM5 := Lib.hid (HM4.out.below hb16)
      have HN16 := Lib.hid hnb
      have HO616 := Lib.hid (pw_own_below HO615.out hb16)
      have HNF16 := Lib.hid (fun h => And.intro (HNF15.out h).1 ((HNF15.out h).2.below hb16))
      clear hnb hb16
      go_wp2_with fail
      refine (HI.out w16 gs4 gw4 bk4 _ HM5.out g4 HN16.out).mono ?_
      rintro e w17 ⟨v14, rfl, hown, hb17⟩
      obtain ⟨A14, c14, g14, rfl, -, -, -⟩ := own_NF hown hb17.size
      have HO14 := Lib.hid hown
      have HB17 := Lib.hid (HB16.out.trans (hb17.mono HB16.out.size))
      have HO617 := Lib.hid (pw_own_below HO616.out hb17)
      have HNF17 := Lib.hid (fun h => And.intro (HNF16.out h).1 ((HNF16.out h).2.below hb17))
      clear hb17 hown
      go_wp2_with fail
      refine (HQI.out w17 A14 c14 A6 c6 (own_ints HO14.out rfl) (own_ints HO617.out rfl)).mono ?_
      rintro e w18 ⟨rfl, hq18⟩
      have hb18 : Below w17.heap.size w17 w18 := by obtain ⟨q, rfl⟩ := hq18; exact below_dN (Below.refl _ _) q
      have HB18 := Lib.hid (HB17.out.trans (hb18.mono HB17.out.size))
      have HNF18 := Lib.hid (fun h => And.intro (HNF17.out h).1 ((HNF17.out h).2.below hb18))
      clear hb18 hq18
      go_wp2_with fail
      refine (HHS.out w18 _ HNF18.out).mono ?_
      rintro e w' ⟨rfl, hw⟩
      obtain rfl : w18 = w' := hw.symm
      go_wp2_with fail
      go_ret
      exact ⟨rfl, HB0.out.trans (HB18.out.mono (by omega))⟩
end Go.Proofs.Ytjadhhnajphibaa
