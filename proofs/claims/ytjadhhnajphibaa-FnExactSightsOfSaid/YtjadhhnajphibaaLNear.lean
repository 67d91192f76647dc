/- The law: the program's nearest words are the reference's. -/
import Derived.Test.YtjadhhnajphibaaV11
set_option linter.unusedVariables false
set_option linter.unusedSimpArgs false
namespace Go.Proofs.Ytjadhhnajphibaa
open Go.RowKit Go.Proofs.YtjadhhnajphibaaW.PrintWords

theorem ainfo_lcode : (Try.prog.info? 40).map (·.size) = some 2 := by kernel_rfl
theorem szTo_each {left : Int} {ws : List (List Int)} (hl : 0 ≤ left) (hm : left ≤ 1048576) : ∀ {k : Nat}, 0 ≤ szTo left ws k → ∀ j, j < k → (rl ws j).length ≤ 1048576 := by
  intro k
  induction k with
  | zero => intro _ j hj; omega
  | succ k ih =>
    intro h j hj
    have h1 := szTo_le (left := left) (ws := ws) (k := k) hl
    unfold szTo at h
    split at h
    · omega
    · rename_i h2
      by_cases e : j = k
      · subst e
        unfold szV at h
        split at h <;> omega
      · exact ih (by omega) j (by omega)
theorem szCV_bounds {fs ws : List (List Int)} (h : ¬ szCV 1048576 fs ws < 0) : fs.length ≤ 1048576 ∧ ws.length ≤ 1048576 ∧ ∀ j, (rl ws j).length ≤ 1048576 := by
  unfold szCV at h
  split at h
  · omega
  · rename_i h1
    have h2 : szV 1048576 fs.length = 1048576 - fs.length := by
      unfold szV
      rw [if_neg]
      intro hlt
      apply h1
      unfold szV
      rw [if_pos hlt]
      omega
    split at h
    · omega
    · rename_i h3
      unfold szWV at h3
      rw [h2] at h1 h3
      split at h3
      · omega
      · refine ⟨by omega, by omega, fun j => ?_⟩
        rcases Nat.lt_or_ge j ws.length with hj | hj
        · exact szTo_each (left := 1048576 - (fs.length : Int) - ws.length) (ws := ws) (by omega) (by omega) (k := ws.length) (by omega) j hj
        · simp [rl, List.getD_eq_getElem?_getD, List.getElem?_eq_none hj]
theorem MC.flags {w : World} {B gs gw : Nat} {bk : Nat → Nat} {fs ws : List (List Int)} (h : MC w B gs gw bk fs ws) (hf : fs.length ≤ 1048576) : (Karr 24).C w (some ⟨gs, 0, none⟩) fs.length fs := h.set.arrs h.len (by omega)
theorem MC.reads {w : World} {B gs gw : Nat} {bk : Nat → Nat} {fs ws : List (List Int)} (h : MC w B gs gw bk fs ws) (hn : ws.length ≤ 1048576) (hl : ∀ j, (rl ws j).length ≤ 1048576) : (Kd.slice 5 (Kd.int .u8)).C w (some ⟨gw, 0, none⟩) ws.length ws := h.words.reads (by omega) (fun j => by have := hl j; omega)

set_option maxRecDepth 100000 in
set_option maxHeartbeats 8000000 in
theorem FnNear_ok (A : Option Addr) (c : Nat) (fs : List (List Int)) (A1 : Option Addr) (c1 : Nat) (ws : List (List Int)) (w : World) (hf : ∀ k i, 0 ≤ rn (rl fs k) i) (hx : WBytes ws) (hwl : ∀ j, (rl ws j).length ≤ 9223372036854775807)
    (h0 : (Karr 24).C w A fs.length fs) (h1 : (Kd.slice 5 (Kd.int .u8)).C w A1 ws.length ws) :
    Calls Try.prog 4 #[.agg #[.slice A fs.length c, .slice A1 ws.length c1]] w fun e w' => e = .returned (.bool true) ∧ Below w.heap.size w w' := by
  have hm1 : ws.length ≤ 9223372036854775807 := h1.2.1
  have hm0 : fs.length ≤ 9223372036854775807 := h0.2.1
  have hcc := heap_alloc_new w (.cells #[.slice A fs.length c, .slice A1 ws.length c1] 40)
  have hb0 := below_box w (.cells #[.slice A fs.length c, .slice A1 ws.length c1] 40)
  have hsz0 := size_box w (.cells #[.slice A fs.length c, .slice A1 ws.length c1] 40)
  have HSZ := Lib.hid (szCode_ok A c fs A1 c1 ws 1048576 (w.alloc (.cells #[.slice A fs.length c, .slice A1 ws.length c1] 40)) hm0 hm1 hwl (by omega) (by omega) (C_below' h1 hb0))
  have HCC := Lib.hid hcc
  have HB0 := Lib.hid hb0
  have H0 := Lib.hid (C_below' h0 hb0)
  have H1 := Lib.hid (C_below' h1 hb0)
  have hbnd := szCV_bounds (fs := fs) (ws := ws)
  clear hcc hb0 h0 h1
  generalize szCV 1048576 fs ws = sz at *
  by_cases hneg : sz < 0
  · clear hbnd
    go_enter Try.func4, Try.ntmps4
    go_wp2_with (first | (refine load_agg rfl 40 (.tmp 1) rfl ⟨w.heap.size, 0, none⟩ rfl [.slice A fs.length c, .slice A1 ws.length c1] _ (fun j v hv => by rw [add_plain, blk_cell HCC.out j]; simpa using hv) Try.underlying40 rfl ainfo_lcode ?_) | (go_at_call 21; refine HSZ.out.mono ?_; rintro e w1 ⟨rfl, hb1⟩))
    go_ret
    exact ⟨rfl, HB0.out.trans (hb1.mono (by omega))⟩
  · obtain ⟨hfl, hwn, hwl2⟩ := hbnd hneg
    have HL := Lib.hid hwl2
    clear hbnd hwl2 hwl
    have HTC := Lib.hid (fun (W : World) (h : Below (w.alloc (.cells #[.slice A fs.length c, .slice A1 ws.length c1] 40)).heap.size (w.alloc (.cells #[.slice A fs.length c, .slice A1 ws.length c1] 40)) W) => toCode_ok A c fs A1 c1 ws W hfl hwn HL.out (C_below' H0.out h) (C_below' H1.out h))
    have HX := Lib.hid (fun (W : World) (h : Below (w.alloc (.cells #[.slice A fs.length c, .slice A1 ws.length c1] 40)).heap.size (w.alloc (.cells #[.slice A fs.length c, .slice A1 ws.length c1] 40)) W) => And.intro ((blk_cell ((h.block w.heap.size (by omega)).trans HCC.out) 0).trans (show _ = some (.slice A fs.length c) from rfl)) (And.intro ((blk_cell ((h.block w.heap.size (by omega)).trans HCC.out) 1).trans (show _ = some (.slice A1 ws.length c1) from rfl)) (show w.heap.size < W.heap.size by have := h.size; omega)))
    have HS := Lib.hid (fun (W : World) (gs gw : Nat) (bk : Nat → Nat) (B : Nat) (h : MC W B gs gw bk fs ws) => NearestWordsS_ok (some ⟨gs, 0, none⟩) fs.length fs (some ⟨gw, 0, none⟩) ws.length ws W hf hx (h.flags hfl) (h.reads hwn HL.out))
    have HI := Lib.hid (fun (W : World) (gs gw : Nat) (bk : Nat → Nat) (B : Nat) (h : MC W B gs gw bk fs ws) => NearestWords_ok (some ⟨gs, 0, none⟩) fs.length fs (some ⟨gw, 0, none⟩) ws.length ws W hf hx (h.flags hfl) (h.reads hwn HL.out))
    have HE := Lib.hid (fun (W : World) (gs gw : Nat) (bk : Nat → Nat) (B : Nat) (h : MC W B gs gw bk fs ws) (gs' gw' : Nat) (bk' : Nat → Nat) (B' : Nat) (h' : MC W B' gs' gw' bk' fs ws) => eqCode_ok (some ⟨gs, 0, none⟩) fs.length fs (some ⟨gw, 0, none⟩) ws.length ws (some ⟨gs', 0, none⟩) fs.length fs (some ⟨gw', 0, none⟩) ws.length ws W (h.flags hfl) (h.reads hwn HL.out) (h'.flags hfl) (h'.reads hwn HL.out))
    rw [eqWB_iff.2 (rfl : fs = fs), eqWB_iff.2 (rfl : ws = ws)] at HE
    unfold cv at HTC
    generalize nwV fs ws = r at *
    have q1 : (r.1 != r.1) = false := by simp
    have q2 : (r.2.1 != r.2.1) = false := by simp
    have q3 : (r.2.2.1 != r.2.2.1) = false := by simp
    have q4 : (r.2.2.2 != r.2.2.2) = false := by simp
    go_enter Try.func4, Try.ntmps4
    go_wp2_with (first | (go_at_call 21; refine HSZ.out.mono ?_; rintro e w1 ⟨rfl, hb1⟩; obtain ⟨a0, a1, a2⟩ := HX.out w1 hb1; have HB1 := Lib.hid hb1; clear hb1) | (go_at_call 23; refine (HTC.out w1 HB1.out).mono ?_; rintro e w2 ⟨gs, gw, bk, rfl, hmc, hb2⟩; have HB2 := Lib.hid (HB1.out.trans (hb2.mono HB1.out.size)); have HM := Lib.hid hmc; clear hb2 hmc) | (go_at_call 22; refine (HS.out w2 gs gw bk _ HM.out).mono ?_; rintro e w3 ⟨rfl, hb3⟩; unfold tup4; have HB3 := Lib.hid (HB2.out.trans (hb3.mono HB2.out.size)); obtain ⟨b0, b1, b2⟩ := HX.out w3 HB3.out; clear hb3) | (go_at_call 23; refine (HTC.out w3 HB3.out).mono ?_; rintro e w4 ⟨gs2, gw2, bk2, rfl, hmc, hb4⟩; have HB4 := Lib.hid (HB3.out.trans (hb4.mono HB3.out.size)); have HM2 := Lib.hid hmc; clear hb4 hmc) | (go_at_call 24; refine (HI.out _ gs2 gw2 bk2 _ (HM2.out.below (below_box _ _))).mono ?_; rintro e w6 ⟨rfl, hb6⟩; unfold tup4; have hx6 := (hb6.block w4.heap.size (by simp)).trans (heap_alloc_new w4 _); have HX6 := Lib.hid hx6; have HM6 := Lib.hid ((HM2.out.below (below_box w4 (.cells #[hd gs2 fs.length, hd gw2 ws.length] 46))).below hb6); have HB6 := Lib.hid ((below_alloc HB4.out (.cells #[hd gs2 fs.length, hd gw2 ws.length] 46)).trans (hb6.mono (below_alloc HB4.out _).size)); have hl6 : w4.heap.size < w6.heap.size := (by have := hb6.size; simp at this; omega); clear hx6 hb6))
    have hdr : Below w6.heap.size w6 w6.drew := ⟨rfl, rfl, rfl, Nat.le_refl _, fun _ _ => rfl⟩
    have hbd := HB6.out.trans (hdr.mono HB6.out.size)
    have HK := Lib.hid (fun (W : World) (h : Below w6.heap.size w6 W) => And.intro ((blk_cell ((h.block w4.heap.size hl6).trans HX6.out) 0).trans (show _ = some (hd gs2 fs.length) from rfl)) (And.intro ((blk_cell ((h.block w4.heap.size hl6).trans HX6.out) 1).trans (show _ = some (hd gw2 ws.length) from rfl)) (And.intro (HX.out W (HB6.out.trans (h.mono HB6.out.size))).1 (HX.out W (HB6.out.trans (h.mono HB6.out.size))).2.1)))
    go_region_held3 (fun w' => w'.cell? ⟨w4.heap.size, 0, none⟩ = some (hd gs2 fs.length) ∧ w'.cell? ⟨w4.heap.size, 1, none⟩ = some (hd gw2 ws.length) ∧ w'.cell? ⟨w.heap.size, 0, none⟩ = some (.slice A fs.length c) ∧ w'.cell? ⟨w.heap.size, 1, none⟩ = some (.slice A1 ws.length c1))
      ((first | exact HK.out _ hdr | exact HK.out _ hq1 | exact HK.out _ hq2))
      ((first | (go_at_call 23; refine (HTC.out _ hbd).mono ?_; rintro e w7 ⟨gs3, gw3, bk3, rfl, hmc, hb7⟩; have hq1 := hdr.trans (hb7.mono hdr.size)) | (go_at_call 25; refine (HE.out w7 gs2 gw2 bk2 _ (HM6.out.below hq1) gs3 gw3 bk3 _ hmc).mono ?_; rintro e w8 ⟨rfl, hb8⟩; have hq2 := hq1.trans (hb8.mono hq1.size))))
    go_wp2
    go_ret
    exact ⟨rfl, HB0.out.trans ((HB6.out.trans (hq2.mono HB6.out.size)).mono (by omega))⟩
end Go.Proofs.Ytjadhhnajphibaa
