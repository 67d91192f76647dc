/- The nearest words: the program's. -/
import Derived.Test.YtjadhhnajphibaaV10
import Derived.Deep.RegionLaw
set_option linter.unusedVariables false
set_option linter.unusedSimpArgs false
namespace Go.Proofs.Ytjadhhnajphibaa
open Go.RowKit Go.Proofs.YtjadhhnajphibaaW.PrintWords

set_option maxHeartbeats 4000000 in
theorem near1_ok (g6 b1 b2 n : Nat) (v : Value) (el : Nat → Value) (fs ws : List (List Int)) (i k : Nat) (w : World) (hg : Good fs ws) (hn : n = ws.length) (hi : i < n) (hk : k < n) (hv : w.cell? ⟨g6, 0, none⟩ = some v)
    (hrow : w.ownsRow b1 50 1 v n ((List.range n).map el)) (hel : ∀ j, j < n → w.ownsRow b2 72 6 (el j) (rl ws j).length (nums .u8 (flat (see fs (rl ws j))))) :
    Calls Try.prog 84 #[.int .i64 i, .int .i64 k, .pointer (some ⟨g6, 0, none⟩)] w fun e w' => e = .returned (.int .i64 (distD fs ws i k)) ∧ Below w.heap.size w w' := by
  have hlen := hg.many
  obtain ⟨A, c, rfl, hc, hcells⟩ := own_cells hrow
  obtain ⟨A5, c5, he5, hr5⟩ := see_read (by have := (hg.len i (by omega)).2; omega) (hel i hi)
  obtain ⟨A6, c6, he6, hr6⟩ := see_read (by have := (hg.len k (by omega)).2; omega) (hel k hk)
  obtain ⟨ad, rfl, hx5⟩ := hcells i (el i) (by simp [hi])
  obtain ⟨ad', e, hx6⟩ := hcells k (el k) (by simp [hk])
  cases e
  rw [he5] at hx5
  rw [he6] at hx6
  have hii : (i : Int) < (n : Int) := by omega
  have hki : (k : Int) < (n : Int) := by omega
  have hl56 : (see fs (rl ws i)).length ≤ (see fs (rl ws k)).length := by rw [see_length, see_length, (hg.len i (by omega)).1, (hg.len k (by omega)).1]; omega
  have hl8 : (see fs (rl ws i)).length ≤ 1000000000000 := by rw [see_length]; have := (hg.len i (by omega)).2; omega
  have HC := Lib.hid (fun q => sightsApart_ok A5 c5 (see fs (rl ws i)) A6 c6 (see fs (rl ws k)) (w.drewN q) hr5 hr6 hl56 hl8)
  have HD : Hid (distD fs ws i k = (farS (see fs (rl ws i)) (see fs (rl ws k)) : Nat)) := rfl
  clear hrow hel hcells he5 he6 hr5 hr6 hg hl56 hl8 hn
  go_enter Try.func84, Try.ntmps84
  go_wp2
  go_quiet ((go_at_call 85; first | exact quiet_add (HC.out _) | exact quiet_any (HC.out _)))
  go_wp2
  go_ret
  exact ⟨ret_int HD.out.symm, below_dN (Below.refl _ _) _⟩

theorem cells_new (w : World) (t : Nat) (v : Value) : Cells (w.alloc (.cells #[v] t)) (some ⟨w.heap.size, 0, none⟩) [v] := fun j u hu => by
  refine ⟨_, rfl, ?_⟩
  rw [add_plain, blk_cell (heap_alloc_new w _) j]
  simpa using hu
theorem range_snoc (el : Nat → Value) (k : Nat) (x : Value) : (List.range (k + 1)).map (fun j => if j = k then x else el j) = (List.range k).map el ++ [x] := by
  rw [List.range_succ, List.map_append]
  congr 1
  · refine List.map_congr_left fun j hj => ?_
    have := List.mem_range.1 hj
    rw [if_neg (by omega)]
  · simp
theorem size_setCell (w : World) (p : Addr) (v : Value) : (w.setCell p v).heap.size = w.heap.size := by simp [World.setCell]
theorem uinfo_sights : (Try.prog.info? 50).map (fun i => (i.zero, i.size, i.bytes)) = some (some (.slice none 0 0), 1, 24) := by kernel_rfl
theorem ainfo_code : (Try.prog.info? 46).map (·.size) = some 2 := by kernel_rfl
theorem nw_pos {fs ws : List (List Int)} : (0 ≤ (nOut (distD fs ws) ws.length ws.length).l) ↔ ¬ ws.length < 2 := by
  constructor
  · intro h h2
    rw [nOut_none h2] at h
    omega
  · intro h
    exact nOut_some (fun i k => by unfold distD; omega) (by omega) _ (by omega)

set_option maxRecDepth 100000 in
set_option maxHeartbeats 8000000 in
theorem NearestWords_ok (A : Option Addr) (c : Nat) (fs : List (List Int)) (A1 : Option Addr) (c1 : Nat) (ws : List (List Int)) (w : World) (hf : ∀ k i, 0 ≤ rn (rl fs k) i) (hx : WBytes ws)
    (h0 : (Karr 24).C w A fs.length fs) (h1 : (Kd.slice 5 (Kd.int .u8)).C w A1 ws.length ws) :
    Calls Try.prog 24 #[.agg #[.slice A fs.length c, .slice A1 ws.length c1]] w fun e w' => e = tup4 (nwV fs ws) ∧ Below w.heap.size w w' := by
  have hm1 : ws.length ≤ 9223372036854775807 := h1.2.1
  have hcc := heap_alloc_new w (.cells #[.slice A fs.length c, .slice A1 ws.length c1] 46)
  have hb0 := below_box w (.cells #[.slice A fs.length c, .slice A1 ws.length c1] 46)
  have hsz0 := size_box w (.cells #[.slice A fs.length c, .slice A1 ws.length c1] 46)
  have HC0 := Lib.hid (ValidCode_ok A c fs A1 c1 ws _ hx (C_below' h0 hb0) (C_below' h1 hb0))
  have HCC := Lib.hid hcc
  have HB0 := Lib.hid hb0
  have H0 := Lib.hid (C_below' h0 hb0)
  have H1 := Lib.hid (C_below' h1 hb0)
  have HV : Hid (nwV fs ws = if okC fs ws then (if ws.length < 2 then (0, 0, 0, 6) else ((nOut (distD fs ws) ws.length ws.length).a, (nOut (distD fs ws) ws.length ws.length).b, (nOut (distD fs ws) ws.length ws.length).l, 0)) else (0, 0, 0, 1)) := rfl
  have hgood := fun h => okC_good (fs := fs) (ws := ws) h hf hx
  clear hcc hb0 h0 h1 hf hx
  rcases hok : okC fs ws with _ | _
  · have HS := Lib.hid (show nwV fs ws = (0, 0, 0, 1) by rw [HV.out, hok]; rfl)
    rw [hok] at HC0
    clear HV hok hgood
    go_enter Try.func24, Try.ntmps24
    go_wp2_with (first | (refine load_agg rfl 46 (.tmp 1) rfl ⟨w.heap.size, 0, none⟩ rfl [.slice A fs.length c, .slice A1 ws.length c1] _ (fun j v hv => by rw [add_plain, blk_cell HCC.out j]; simpa using hv) Try.underlying46 rfl ainfo_code ?_) | (go_at_call 42; refine HC0.out.mono ?_; rintro e w' ⟨rfl, hb'⟩))
    refine bodyPost_ret (results_tmp4 rfl _ _ _) rfl ?_
    rw [HS.out]
    exact ⟨rfl, HB0.out.trans (hb'.mono (by omega))⟩
  · have HG := Lib.hid (hgood hok)
    rw [hok] at HC0 HV
    clear hok hgood
    go_enter Try.func24, Try.ntmps24
    go_wp2_with (first | (refine load_agg rfl 46 (.tmp 1) rfl ⟨w.heap.size, 0, none⟩ rfl [.slice A fs.length c, .slice A1 ws.length c1] _ (fun j v hv => by rw [add_plain, blk_cell HCC.out j]; simpa using hv) Try.underlying46 rfl ainfo_code ?_) | (go_at_call 42; refine HC0.out.mono ?_; rintro e w1 ⟨rfl, hb1⟩; have hx1 := (blk_cell ((hb1.block w.heap.size (by omega)).trans HCC.out) 1).trans (show _ = some (.slice A1 ws.length c1) from rfl); have hlt1 : w.heap.size < w1.heap.size := (by have := hb1.size; omega); have hne0 : w.heap.size ≠ w1.heap.size := (by omega); have hne1 : w.heap.size ≠ w1.heap.size + 1 := (by omega); have hne2 := Ne.symm hne0; have hne3 := Ne.symm hne1))
    have HBV := Lib.hid hb1
    have hg6 := heap_alloc_new (w1.alloc (.cells #[] 50)) (.cells #[.slice (some ⟨w1.heap.size, 0, none⟩) 0 0] 111)
    rw [size_box] at hg6
    have HG6 := Lib.hid hg6
    have HR0 := Lib.hid (show ((w1.alloc (.cells #[] 50)).alloc (.cells #[.slice (some ⟨w1.heap.size, 0, none⟩) 0 0] 111)).ownsRow w1.heap.size 50 1 (.slice (some ⟨w1.heap.size, 0, none⟩) 0 0) 0 ((List.range 0).map (fun _ => Value.slice none 0 0)) from ⟨rfl, .inr ⟨_, 0, #[], rfl, Nat.le_refl _, blk_alloc (heap_alloc_new w1 _) _, Nat.le_refl _, Nat.zero_le _, rfl, rfl⟩⟩)
    have HB2 := Lib.hid (below_alloc (below_box w1 (.cells #[] 50)) (.cells #[.slice (some ⟨w1.heap.size, 0, none⟩) 0 0] 111))
    have hs2 : w1.heap.size + 2 ≤ ((w1.alloc (.cells #[] 50)).alloc (.cells #[.slice (some ⟨w1.heap.size, 0, none⟩) 0 0] 111)).heap.size := by rw [size_box, size_box]; omega
    have HCD := Lib.hid ((hb1.block w.heap.size (by omega)).trans HCC.out)
    have H01 := Lib.hid (C_below' H0.out hb1)
    have H11 := Lib.hid (C_below' H1.out hb1)
    clear hg6 hb1 hx1 hne0 hne1 hne2 hne3 HC0
    generalize ((w1.alloc (.cells #[] 50)).alloc (.cells #[.slice (some ⟨w1.heap.size, 0, none⟩) 0 0] 111)) = W2 at *
    go_loopw [8, 20] (fun _ u wr => ∃ (k : Nat) (v : Value) (el : Nat → Value), k ≤ ws.length ∧ u = .int .i64 k ∧ w1.heap.size + 2 ≤ wr.heap.size ∧ Hid (wr.heap[w1.heap.size + 1]? = some (.cells #[v] 111 (0, 0))) ∧ Hid (wr.ownsRow w1.heap.size 50 1 v k ((List.range k).map el)) ∧ Hid (∀ j, j < k → wr.ownsRow w1.heap.size 72 6 (el j) (rl ws j).length (nums .u8 (flat (see fs (rl ws j))))) ∧ Hid (Below w1.heap.size w1 wr)) (fun _ u _ => ws.length - (intOf u).toNat)
    case atStart => exact ⟨0, _, fun _ => Value.slice none 0 0, Nat.zero_le _, rfl, hs2, HG6, HR0, fun j hj => absurd hj (by omega), HB2⟩
    case round =>
      clear HG6 HR0 HB2 hs2
      obtain ⟨k, v, el, hk, rfl, hsz, HG6, HR, HE, HB⟩ := hrel
      by_cases hlt : k < ws.length
      · have hlti : (k : Int) < (ws.length : Int) := by omega
        obtain ⟨ad1, A3, c3, rfl, hx3, hl3, hr3⟩ := at_row (C_below' H11.out HB.out) hlt
        have hdr : Below wr.heap.size wr wr.drew := ⟨rfl, rfl, rfl, Nat.le_refl _, fun _ _ => rfl⟩
        have HSI := Lib.hid (fun W (h : Below wr.heap.size wr W) => sights_ok A c fs (.slice (some ad1) ws.length c1) A3 c3 (rl ws k) W (by have := (HG.out.len k hlt).2; omega) HG.out.flags (HG.out.words k hlt) (C_below' (C_below' H01.out HB.out) h) (C_below' hr3 h))
        have hcd := (HB.out.block w.heap.size (by omega)).trans HCD.out
        have HK := Lib.hid (fun W (h : Below wr.heap.size wr W) => And.intro ((blk_cell ((h.block (w1.heap.size + 1) (by omega)).trans HG6.out) 0).trans (show _ = some v from rfl)) (And.intro ((blk_cell ((h.block w.heap.size (by omega)).trans hcd) 0).trans (show _ = some (.slice A fs.length c) from rfl)) ((blk_cell ((h.block w.heap.size (by omega)).trans hcd) 1).trans (show _ = some (.slice (some ad1) ws.length c1) from rfl))))
        have hlen60 := HG.out.many
        have HCR := Lib.hid hcd
        clear hr3 hcd
        go_wp2
        obtain ⟨y6, y7, y8⟩ := HK.out _ (Below.refl _ _)
        go_region_law
          (first | (go_simp; go_at_call 83; refine (HSI.out _ hdr).mono ?_; rintro e w2 ⟨v2, rfl, hown, hb2⟩; have hq1 := hdr.trans (hb2.mono hdr.size); obtain ⟨A7, c7, rfl, hc7, hcl7⟩ := own_cells hown; have HO1 := Lib.hid (pw_own_below HR.out hq1); have hsz2 : wr.heap.size ≤ w2.heap.size := hq1.size; obtain ⟨z6, z7, z8⟩ := HK.out _ hq1; have z9 := (HK.out _ (below_alloc hq1 (.cells #[.slice A7 (rl ws k).length c7] 50))).1; have hne9 : w1.heap.size + 1 ≠ w2.heap.size := (by omega); have hne8 : w2.heap.size ≠ w1.heap.size + 1 := (by omega); have hne7 : w2.heap.size ≠ w.heap.size := (by omega); have hne6 : w.heap.size ≠ w2.heap.size := (by omega); clear hcl7) | (refine step_own_append _ (by rfl) _ _ _ (by rfl) w1.heap.size 50 (.slice none 0 0) 1 24 Try.underlying111 uinfo_sights (by rfl) (by omega) (by omega) v k _ (by rfl) (pw_own_below HO1.out (below_box _ _)) (some ⟨w2.heap.size, 0, none⟩) 1 1 [.slice A7 (rl ws k).length c7] (by rfl) (by rfl) (cells_new w2 50 _) (by simp [Value.oneCell']) (by omega) (by simp; omega) ?_; intro v3 w3 hO3 hg3 hat3; obtain ⟨A9, c9, rfl, hc9, hcl9⟩ := own_cells hO3; clear hcl9; have hq3 := below_alloc hq1 (.cells #[.slice A7 (rl ws k).length c7] 50); have hG3 := (hg3.block (w1.heap.size + 1) (by have := hq3.size; omega) (own_ne HR.out HG6.out (by decide))).trans ((hq3.block (w1.heap.size + 1) (by omega)).trans HG6.out); have hC3 := (hg3.block w.heap.size (by have := hq3.size; omega) (fun e => by have := own_base HR.out _ e.symm; omega)).trans ((hq3.block w.heap.size (by omega)).trans HCR.out); have x6 := (blk_cell hG3 0).trans (show _ = some v from rfl); have x7 := (blk_cell hC3 0).trans (show _ = some (.slice A fs.length c) from rfl); have x8 := (blk_cell hC3 1).trans (show _ = some (.slice (some ad1) ws.length c1) from rfl); have x9 := blk_frozen hG3 0))
        all_goals
          go_wp2
          go_roundw
          case rel =>
            have hsz3 := hq3.size
            have hw23 := hg3.size
            have hne36 := own_ne hO3 hG3 (by decide)
            have hown1 := own_weaken (base' := w1.heap.size) hown (by have := hdr.size; omega)
            have hup : ∀ (u : Value) (n : Nat) (xs : List Value), w2.ownsRow w1.heap.size 72 6 u n xs → (w3.setCell ⟨w1.heap.size + 1, 0, none⟩ (.slice A9 (k + 1) c9)).ownsRow w1.heap.size 72 6 u n xs := fun u n xs h =>
              have h2 := pw_own_below h (below_box w2 (.cells #[.slice A7 (rl ws k).length c7] 50))
              have h3 := own_other h2 hg3 (own_type_ne h2 (pw_own_below HO1.out (below_box w2 (.cells #[.slice A7 (rl ws k).length c7] 50))) (by decide))
              own_setCell h3 (own_ne h3 hG3 (by decide)) _
            refine ⟨k + 1, .slice A9 (k + 1) c9, fun j => if j = k then .slice A7 (rl ws k).length c7 else el j, by omega, by go_num, ?_, blk_set hG3 0 _, ?_, ?_, ?_⟩
            · rw [size_setCell]; omega
            · have hR3 := own_setCell hO3 (p := ⟨w1.heap.size + 1, 0, none⟩) hne36 (.slice A9 (k + 1) c9)
              rw [range_snoc]
              exact hR3
            · intro j hj
              by_cases e : j = k
              · subst e
                simp only [if_true]
                exact hup _ _ _ hown1
              · simp only [if_neg e]
                exact hup _ _ _ (pw_own_below (HE.out j (by omega)) hq1)
            · exact set_below ((HB.out.trans (hq3.mono (by omega))).grown hg3 (by omega) (own_base HO1.out)) (by simp) _
          case measure => first|(simp [intOf]; done)|(simp [intOf]; omega)
      · obtain rfl : k = ws.length := by omega
        have x6 := (blk_cell HG6.out 0).trans (show _ = some v from rfl)
        obtain ⟨A8, c8, rfl, hc8, hcl8⟩ := own_cells HR.out
        have HP : Hid (PairB Try.prog 84 #[.pointer (some ⟨w1.heap.size + 1, 0, none⟩)] ws.length (distD fs ws) wr) := by
          intro i k W hik hkn hW
          exact near1_ok (w1.heap.size + 1) w1.heap.size w1.heap.size ws.length (.slice A8 ws.length c8) el fs ws i k W HG.out rfl (by omega) hkn ((hW.cell (cell_lt x6)).trans x6) (pw_own_below HR.out hW) (fun j hj => pw_own_below (HE.out j hj) hW)
        have eg : ∀ args w, (callFunc 84 args).run Try.prog w = .ok (.enter 84 args) w := enters_of Try.func84 (by kernel_rfl) rfl
        have HN := Lib.hid (nearest_ok 84 _ eg ws.length (by have := HG.out.many; omega) (distD fs ws) wr HP.out)
        have hpos := nw_pos (fs := fs) (ws := ws)
        clear HP eg hcl8 HR HE HCC H0 H1 H01 H11 HCD
        generalize nOut (distD fs ws) ws.length ws.length = s at *
        by_cases h2 : ws.length < 2
        · have HS := Lib.hid (show nwV fs ws = (0, 0, 0, 6) by rw [HV.out]; simp [h2])
          have hd : decide (0 ≤ s.l) = false := by rw [decide_eq_false_iff_not, hpos]; omega
          rw [hd] at HN
          clear HV hpos hd
          go_wp2_with (go_at_call 70; refine HN.out.mono ?_; rintro e w' ⟨rfl, hb'⟩)
          refine bodyPost_ret (results_tmp4 rfl _ _ _) rfl ?_
          rw [HS.out]
          exact ⟨rfl, HB0.out.trans ((HBV.out.trans ((HB.out.trans (hb'.mono HB.out.size)).mono HBV.out.size)).mono (by omega))⟩
        · have HS := Lib.hid (show nwV fs ws = (s.a, s.b, s.l, 0) by rw [HV.out]; simp [h2])
          have hd : decide (0 ≤ s.l) = true := by rw [decide_eq_true_iff, hpos]; exact h2
          rw [hd] at HN
          clear HV hpos hd
          go_wp2_with (go_at_call 70; refine HN.out.mono ?_; rintro e w' ⟨rfl, hb'⟩)
          refine bodyPost_ret (results_tmp4 rfl _ _ _) rfl ?_
          rw [HS.out]
          exact ⟨rfl, HB0.out.trans ((HBV.out.trans ((HB.out.trans (hb'.mono HB.out.size)).mono HBV.out.size)).mono (by omega))⟩
end Go.Proofs.Ytjadhhnajphibaa
