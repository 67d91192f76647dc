/- Contracts of functions and plain lemmas that the row stands on: The walk of the law on what is seen. No conditions beyond those that each theorem names. -/
import Derived.Test.YtjadhhnajphibaaGSee3
import Derived.Deep.DeepCutAuto
set_option linter.unusedVariables false
set_option linter.unusedSimpArgs false
namespace Go.Proofs.Ytjadhhnajphibaa
open Go.RowKit Go.Proofs.YtjadhhnajphibaaW.PrintWords

theorem sot_yes {fs ws : List (List Int)} (h : okC fs ws = true) {i : Nat} (hi : i < ws.length) : sotV fs ws i = (see fs (rl ws i), 0) := by
  unfold sotV
  rw [h, inB_yes (by omega) (by omega)]
  rfl
theorem own_cells_at {w : World} {base : Nat} {e : TypeId} {size n c : Nat} {A : Option Addr} {xs : List Value} (h : w.ownsRow base e size (.slice A n c) n xs) : Cells w A xs := by
  obtain ⟨A', c', hv, -, hc⟩ := own_cells h
  injection hv with h1 h2 h3
  subst h1
  exact hc
theorem cells_of_ints {w : World} {kd : IntKind} {A : Option Addr} {n : Nat} {xs : List Int} (h : (Kd.int kd).C w A n xs) : Cells w A (nums kd xs) := fun j u hu => by
  have hj : j < xs.length := by
    have := (List.getElem?_eq_some_iff.1 hu).1
    rwa [nums_length] at this
  obtain ⟨ad, e, hc⟩ := at_nat h (k := j) (by rw [← h.1]; exact hj)
  have : u = .int kd (rn xs j) := by
    simp only [nums, List.getElem?_map, List.getElem?_eq_getElem hj, Option.map_some, Option.some.injEq] at hu
    rw [← hu]
    simp [rn, List.getD_eq_getElem?_getD, List.getElem?_eq_getElem hj]
  exact ⟨ad, e, by rw [this]; exact hc⟩
theorem own_lit1 (w : World) (e : TypeId) (v : Value) : (w.alloc (.cells #[v] e)).ownsRow w.heap.size e 1 (.slice (some ⟨w.heap.size, 0, none⟩) 1 1) 1 [v] :=
  ⟨rfl, .inr ⟨_, 1, #[v], rfl, Nat.le_refl _, heap_alloc_new _ _, Nat.le_refl _, by decide, rfl, rfl⟩⟩
theorem bytes_cons {xs : List Int} {v : Int} (h : Bytes xs) (h0 : 0 ≤ v) (h1 : v ≤ 255) : Bytes (v :: xs) := fun i => by
  cases i with
  | zero => exact ⟨by show 0 ≤ v; exact h0, by show v ≤ 255; exact h1⟩
  | succ i => exact h i
theorem C_empty {α : Type} {d : Kd α} (w : World) (A : Option Addr) : d.C w A 0 [] := ⟨rfl, by omega, fun h => absurd h (by omega)⟩

set_option maxRecDepth 100000 in
set_option maxHeartbeats 16000000 in
theorem FnSights_ok (A0 : Option Addr) (c0 : Nat) (xs : List Int) (A1 : Option Addr) (c1 : Nat) (ys : List Int) (w : World) (hx : Bytes xs) (hy : Bytes ys) (h0 : (Kd.int .u8).C w A0 xs.length xs) (h1 : (Kd.int .u8).C w A1 ys.length ys) :
    Calls Try.prog 8 #[.slice A0 xs.length c0, .slice A1 ys.length c1] w fun e w' => e = .returned (.bool true) ∧ Below w.heap.size w w' := by
  have hm0 : xs.length ≤ 9223372036854775807 := h0.2.1
  have hm1 : ys.length ≤ 9223372036854775807 := h1.2.1
  have HX := Lib.hid hx
  have HY := Lib.hid hy
  have H0 := Lib.hid h0
  have H1 := Lib.hid h1
  clear hx hy h0 h1
  by_cases hb0 : 4096 < xs.length
  · have hd0 : decide (4096 < xs.length) = true := decide_eq_true hb0
    go_enter Try.func8, Try.ntmps8
    go_wp2_with fail
    refine (f6big_ok _ _ _ _ hm0).mono ?_
    rintro e w' ⟨rfl, rfl⟩
    go_wp2_with fail
    go_ret
    exact ⟨rfl, Below.refl _ _⟩
  · have hd0 : decide (4096 < xs.length) = false := decide_eq_false hb0
    by_cases hb1 : 4096 < ys.length
    · have hd1 : decide (4096 < ys.length) = true := decide_eq_true hb1
      go_enter Try.func8, Try.ntmps8
      go_wp2_with fail
      refine (f6big_ok _ _ _ _ hm0).mono ?_
      rintro e w' ⟨rfl, rfl⟩
      go_wp2_with fail
      refine (f6big_ok _ _ _ _ hm1).mono ?_
      rintro e w' ⟨rfl, rfl⟩
      go_wp2_with fail
      go_ret
      exact ⟨rfl, Below.refl _ _⟩
    have hd1 : decide (4096 < ys.length) = false := decide_eq_false hb1
    go_enter Try.func8, Try.ntmps8
    go_wp2_with fail
    refine (f6big_ok _ _ _ _ hm0).mono ?_
    rintro e w' ⟨rfl, rfl⟩
    go_wp2_with fail
    refine (f6big_ok _ _ _ _ hm1).mono ?_
    rintro e w' ⟨rfl, rfl⟩
    go_wp2_with fail

    clear hd0 hd1
    refine (P6Code_ok w A0 c0 xs H0.out HX.out).mono ?_
    rintro e w1 ⟨A, c, fs, B, d, ws, rfl, hCf, hCw, hD, hb1⟩
    have HB1 := Lib.hid hb1
    have HD := Lib.hid hD
    have HCf := Lib.hid hCf
    have HCw := Lib.hid hCw
    have HOK := Lib.hid hD.ok
    have HG := Lib.hid (okC_good hD.ok hD.hf hD.bytes)
    have hfl7 : fs.length ≤ 7 := hD.many
    have hfl2 : 2 ≤ fs.length := hD.few
    have hwl6 : ws.length ≤ 6 := hD.words
    clear hCf hCw hD hb1
    have hb2 := below_box w1 (.cells #[.slice A fs.length c, .slice B ws.length d] 46)
    have HB2 := Lib.hid (HB1.out.trans (hb2.mono HB1.out.size))
    have HCf2 := Lib.hid (C_below' HCf.out hb2)
    have HCw2 := Lib.hid (C_below' HCw.out hb2)
    have hz2 := size_box w1 (.cells #[.slice A fs.length c, .slice B ws.length d] 46)
    have HX2 := Lib.hid (fun (W : World) (h : Below (w1.alloc (.cells #[.slice A fs.length c, .slice B ws.length d] 46)).heap.size (w1.alloc (.cells #[.slice A fs.length c, .slice B ws.length d] 46)) W) => And.intro ((blk_cell ((h.block w1.heap.size (by omega)).trans (heap_alloc_new w1 _)) 0).trans (show _ = some (.slice A fs.length c) from rfl)) ((blk_cell ((h.block w1.heap.size (by omega)).trans (heap_alloc_new w1 _)) 1).trans (show _ = some (.slice B ws.length d) from rfl)))
    clear hb2
    go_wp2_with fail
    generalize (w1.alloc (.cells #[.slice A fs.length c, .slice B ws.length d] 46)) = w2 at *
    have hv := ValidCode_ok A c fs B d ws w2 HD.out.bytes HCf2.out HCw2.out
    rw [HOK.out] at hv
    refine hv.mono ?_
    rintro e w3 ⟨rfl, hb3⟩
    obtain ⟨y0, y1⟩ := HX2.out w3 hb3
    have HB3 := Lib.hid (HB2.out.trans (hb3.mono HB2.out.size))
    have HBB3 := Lib.hid hb3
    clear hb3 hv
    by_cases hn0 : ws.length = 0
    · have hnb : ((ws.length : Int) == 0) = true := by simp [hn0]
      have hr := ReadSights_ok A c fs B d ws (some ⟨w3.heap.size, 0, none⟩) 0 [] (w3.alloc (.cells #[] 72)) HD.out.hf HD.out.bytes (C_below' HCf2.out (below_alloc HBB3.out _)) (C_below' HCw2.out (below_alloc HBB3.out _)) (C_empty _ _)
      rw [show rsV fs ws [] = (0, 0, 6) by unfold rsV; rw [HOK.out]; simp [hn0, okS, allB]] at hr
      have HR := Lib.hid hr
      clear hr hn0
      go_wp2_with fail
      refine HR.out.mono ?_
      rintro e w4 ⟨rfl, hb4⟩
      unfold tup3
      have HB4 := Lib.hid ((below_alloc HB3.out (.cells #[] 72)).trans (hb4.mono (below_alloc HB3.out _).size))
      clear hb4
      go_wp2_with fail
      go_ret
      exact ⟨rfl, HB4.out⟩
    have hnp : 0 < ws.length := by omega
    have hnb : ((ws.length : Int) == 0) = false := beq_eq_false_iff_ne.2 (by omega)
    go_wp2_with fail
    refine (P6Pick_ok w3 A1 c1 ys _ (by omega) (C_below' H1.out HB3.out) HY.out).mono ?_
    rintro e w4 ⟨i, rfl, hi0, hi1, hi2, hb4⟩
    obtain ⟨i, rfl⟩ : ∃ i' : Nat, i = i' := ⟨i.toNat, by omega⟩
    have hin : i < ws.length := by
      by_cases h : 1 < ws.length
      · have := hi1 (by omega); omega
      · have := hi2 (by omega); omega
    have HB4 := Lib.hid (HB3.out.trans (hb4.mono HB3.out.size))
    have HBB4 := Lib.hid (HBB3.out.trans (hb4.mono HBB3.out.size))
    obtain ⟨y0, y1⟩ := HX2.out w4 HBB4.out
    clear hb4 hi0 hi1 hi2
    have HSO := Lib.hid (fun (j : Nat) (hj : j < ws.length) (W : World) (h : Below w2.heap.size w2 W) => SightsOf_ok A c fs B d ws j W HD.out.hf HD.out.bytes (C_below' HCf2.out h) (C_below' HCw2.out h))
    have HSS := Lib.hid (fun (j : Nat) (hj : j < ws.length) (W : World) (h : Below w2.heap.size w2 W) => SightsOfS_ok A c fs B d ws j W HD.out.hf HD.out.bytes (C_below' HCf2.out h) (C_below' HCw2.out h))
    have HSY := Lib.hid (fun (j : Nat) (hj : j < ws.length) => sot_yes HOK.out hj)
    have hso := HSO.out i hin w4 HBB4.out
    have hss := fun W h => HSS.out i hin W h
    rw [HSY.out i hin] at hso
    simp only [HSY.out i hin] at hss
    dsimp only at hso hss
    have HSOi := Lib.hid hso
    have HSSi := Lib.hid hss
    clear hso hss
    have hdl : 1 ≤ (see fs (rl ws i)).length ∧ (see fs (rl ws i)).length ≤ 4 := by
      obtain ⟨q, h1, h2, h3⟩ := HD.out.len
      have := h3 i hin
      rw [see_length]
      omega
    have hwl0 : (rl ws 0).length = (see fs (rl ws i)).length := by rw [see_length]; exact ((HG.out.len i hin).1).symm
    obtain ⟨due, hdue⟩ : ∃ due, see fs (rl ws i) = due := ⟨_, rfl⟩
    have HEACH := Lib.hid (show ∀ s ∈ due, s.length = 6 by rw [← hdue]; exact see_each fs (rl ws i))
    have HDOK := Lib.hid (show okS due = true by rw [← hdue]; exact okS_see fs (rl ws i))
    rw [hdue] at hdl HSOi HSSi hwl0
    obtain ⟨hdl1, hdl4⟩ := hdl
    have HWL := Lib.hid hwl0
    clear hwl0
    have HDUE := Lib.hid hdue
    clear hdue
    go_wp2_with fail
    refine HSOi.out.mono ?_
    rintro e w5 ⟨v11, rfl, ho11, hb5⟩
    obtain ⟨A11, c11, g11, rfl, -, -, -⟩ := own_NF ho11 hb5.size
    have HO11 := Lib.hid ho11
    have HBB5 := Lib.hid (HBB4.out.trans (hb5.mono HBB4.out.size))
    have hs45 := hb5.size
    obtain ⟨y0, y1⟩ := HX2.out w5 HBB5.out
    clear ho11 hb5
    go_wp2_with fail
    refine (HSSi.out w5 HBB5.out).mono ?_
    rintro e w6 ⟨v13, rfl, ho13, hb6⟩
    obtain ⟨A13, c13, g13, rfl, -, -, -⟩ := own_NF ho13 hb6.size
    have HO13 := Lib.hid ho13
    have HO116 := Lib.hid (pw_own_below HO11.out hb6)
    have HBB6 := Lib.hid (HBB5.out.trans (hb6.mono HBB5.out.size))
    clear ho13 hb6
    go_wp2_with fail
    refine (SameSights_ok A11 c11 due A13 c13 w6 (own_arrs (by omega) HO116.out rfl HEACH.out) (own_arrs (by omega) HO13.out rfl HEACH.out) (by omega)).mono ?_
    rintro e w7 ⟨rfl, hq7⟩
    have hb7 : Below w6.heap.size w6 w7 := by obtain ⟨q, rfl⟩ := hq7; exact below_dN (Below.refl _ _) q
    have HBB7 := Lib.hid (HBB6.out.trans (hb7.mono HBB6.out.size))
    have HO137 := Lib.hid (pw_own_below HO13.out hb7)
    clear hq7 hb7 HO11 HO116 HO13
    have HFL := Lib.hid (show (nums .u8 (flat due)).length = due.length * 6 by rw [nums_length, flat_length HEACH.out])
    have HBW7 := Lib.hid (HB2.out.trans (HBB7.out.mono HB2.out.size))
    go_wp2_with (at_builtin; refine own_append _ rfl (.tmp 104) (.tmp 105) 50 rfl w7.heap.size 72 (av (List.replicate 6 0)) 6 6 Try.underlying50 uinfo_sight rfl (by omega) (by omega) _ 0 [] rfl (own_made w7 72 w7.heap.size 6 _ rfl (Nat.le_refl _)) A13 due.length c13 (nums .u8 (flat due)) rfl HFL.out (own_cells_at (pw_own_below HO137.out (below_box w7 _))) (nums_one _ _) (by omega) (by simp) ?_; intro v15 w8 hO15 hg15 hat15; simp only [Nat.zero_add, List.nil_append] at hO15; have hb8 : Below w7.heap.size w7 w8 := ((below_box w7 (.cells #[] 72)).grown hg15 (by simp) (own_base (own_made w7 72 w7.heap.size 6 _ rfl (Nat.le_refl _)))); obtain ⟨A15, c15, g15, rfl, hc15, hg15b, hnf15⟩ := own_NF hO15 hb8.size; obtain ⟨rfl, -⟩ := hnf15 (by omega); have HO15 := Lib.hid hO15; have HB78 := Lib.hid hb8; clear hO15 hg15 hat15 hb8 hnf15)
    have HBW8 := Lib.hid (HBW7.out.trans (HB78.out.mono HBW7.out.size))
    refine (P6Pick_ok w8 A1 c1 ys _ (by omega) (C_below' H1.out HBW8.out) HY.out).mono ?_
    rintro e w9 ⟨k, rfl, hk0, hk1, hk2, hb9⟩
    obtain ⟨k, rfl⟩ : ∃ k' : Nat, k = k' := ⟨k.toNat, by omega⟩
    have hkm : k < due.length := by
      by_cases h : 1 < due.length
      · have := hk1 (by omega); omega
      · have := hk2 (by omega); omega
    have hki : (k : Int) < (due.length : Int) := by omega
    have HBW9 := Lib.hid (HBW8.out.trans (hb9.mono HBW8.out.size))
    have HB79 := Lib.hid (HB78.out.trans (hb9.mono HB78.out.size))
    have HO159 := Lib.hid (pw_own_below HO15.out hb9)
    clear hb9 hk0 hk1 hk2 HO15
    go_upto_region 17 with fail
    have hdr : Below w9.heap.size w9 w9.drew := ⟨rfl, rfl, rfl, Nat.le_refl _, fun _ _ => rfl⟩
    have HP1 := Lib.hid (fun W (h : Below w9.heap.size w9 W) => P6Pick_ok W A0 c0 xs 6 (by omega) (C_below' H0.out (HBW9.out.trans (h.mono HBW9.out.size))) HX.out)
    have HM := Lib.hid (fun W (h : Below w9.heap.size w9 W) => cells_of_ints (C_below' H1.out (HBW9.out.trans (h.mono HBW9.out.size))))
    have hyl : ys.length ≤ 4096 := by omega
    have hlen2 : ((2 : Int) :: ys).length = 1 + ys.length := by simp; omega
    have HL2 := Lib.hid hlen2
    have HB2Y := Lib.hid (bytes_cons HY.out (v := 2) (by omega) (by omega))
    clear hlen2
    go_cut [121] (fun _ wx => ∃ (j : Nat) (v : Int), j < 6 ∧ 0 ≤ v ∧ v ≤ 5 ∧ Hid (wx.ownsRow w7.heap.size 72 6 (.slice (some ⟨g15, 0, none⟩) due.length c15) due.length (nums .u8 (flat (seenV due k j v)))) ∧ Hid (Below w7.heap.size w7 wx))
    case first =>
      as_aux_lemma =>
        go_region_law
          (first
            | (go_simp; go_at_call 10; refine (HP1.out _ (by first | exact hdr | exact below_alloc hdr _ | exact hq2)).mono ?_; rintro e wa ⟨j, rfl, hj0, hj1, -, hba⟩; obtain ⟨j, rfl⟩ : ∃ j' : Nat, j = j' := ⟨j.toNat, by omega⟩; have hj6 : (j : Int) < 6 := hj1 (by omega); have hq1 := Below.trans (show Below w9.heap.size w9 _ by first | exact hdr | exact below_alloc hdr _ | exact hq2) (hba.mono (by first | exact hdr.size | exact (below_alloc hdr _).size | exact hq2.size)))
            | (refine step_own_append (wa.alloc (.cells #[.int .u8 2] 5)) (by rfl) _ _ _ (by rfl) wa.heap.size 5 (.int .u8 0) 1 1 Try.underlying22 uinfo_u8 (by rfl) (by omega) (by omega) _ 1 [.int .u8 2] (by rfl) (own_lit1 wa 5 (.int .u8 2)) A1 ys.length c1 (nums .u8 ys) (by rfl) (by rw [nums_length, Nat.mul_one]) (HM.out _ (below_alloc hq1 _)) (nums_one _ _) (by omega) (by simp) ?_; intro v17 w17 hO17 hg17 hat17; have hq2 := (show Below w9.heap.size w9 (wa.alloc (.cells #[.int .u8 2] 5)) from (below_alloc hq1 _)).grown hg17 (below_alloc hq1 _).size (fun k hk => Nat.le_trans hq1.size (own_base (own_lit1 wa 5 (.int .u8 2)) k hk)); obtain ⟨A17, c17, rfl, hc17, hcl17⟩ := own_cells hO17)
            | (refine step_own_append wa (by rfl) _ _ _ (by rfl) w9.drew.heap.size 5 (.int .u8 0) 1 1 Try.underlying22 uinfo_u8 (by rfl) (by omega) (by omega) _ 1 [.int .u8 2] (by rfl) (pw_own_below (own_lit1 w9.drew 5 (.int .u8 2)) hba) A1 ys.length c1 (nums .u8 ys) (by rfl) (by rw [nums_length, Nat.mul_one]) (HM.out _ hq1) (nums_one _ _) (by omega) hq1.size ?_; intro v17 w17 hO17 hg17 hat17; have hq2 := (show Below w9.heap.size w9 wa from hq1).grown hg17 hq1.size (fun k hk => Nat.le_trans (Nat.le_refl _) (own_base (pw_own_below (own_lit1 w9.drew 5 (.int .u8 2)) hba) k hk)); obtain ⟨A17, c17, rfl, hc17, hcl17⟩ := own_cells hO17)
            | (go_simp; go_at_call 10; have hp := P6Pick_ok w17 A17 c17 (2 :: ys) 6 (by omega) (C_of_nums (by rw [HL2.out]; omega) hcl17) HB2Y.out; rw [HL2.out] at hp; refine hp.mono ?_; clear hp; rintro e w18 ⟨v, rfl, hv0, hv1, -, hb18⟩; have hv6 : v < 6 := hv1 (by omega); have hq3 := hq2.trans (hb18.mono hq2.size); have hn18 := own_NF_at (pw_own_below HO159.out hq3) (by have := HB79.out.size; have := hq3.size; omega) (fun _ => rfl) (by omega); have hcell18 := hn18.2.cell (i := k * 6 + j) (by omega); have hfr18 := hn18.2.frozen (k * 6 + j); generalize rn (flat due) (k * 6 + j) = old18 at hcell18; clear hn18))
        all_goals
          have hwr : IntKind.u8.wrap v = v := by rw [IntKind.wrap_u8]; omega
          have HROW := Lib.hid (show ((w18.setCell ⟨g15, k * 6 + j, none⟩ (.int .u8 (IntKind.u8.wrap v))).ownsRow w7.heap.size 72 6 (.slice (some ⟨g15, 0, none⟩) due.length c15) due.length (nums .u8 (flat (seenV due k j v)))) by
            have h1 := ((pw_own_below HO159.out hq3).stored (k * 6 + j) (.int .u8 v)).1
            rw [flat_set due k j v HEACH.out hkm (by omega), hwr]
            simpa [nums, List.map_set] using h1)
          have HBEL := Lib.hid (show Below w7.heap.size w7 (w18.setCell ⟨g15, k * 6 + j, none⟩ (.int .u8 (IntKind.u8.wrap v))) from set_below (HB79.out.trans (hq3.mono HB79.out.size)) hg15b _)
          clear hwr
          go_wp2_with fail
          go_meet
          exact ⟨j, v, by omega, hv0, by omega, HROW.out, HBEL.out⟩
    case rest =>
      as_aux_lemma =>
        obtain ⟨wS, rfl⟩ : ∃ wS : World, wS = wc := ⟨_, rfl⟩
        obtain ⟨j, v, hj6, hv0, hv5, HSEEN, HB7c⟩ := hcut
        have HBWc := Lib.hid (HBW7.out.trans (HB7c.out.mono HBW7.out.size))
        have HBBc := Lib.hid (HBB7.out.trans (HB7c.out.mono HBB7.out.size))
        have HDUEc := Lib.hid (pw_own_below HO137.out HB7c.out)
        have HSL := Lib.hid (seen_len due k j v)
        have HSE := Lib.hid (seen_each (j := j) (v := v) HEACH.out hkm)
        have HSOK := Lib.hid (seen_ok (k := k) (j := j) HDOK.out hv5)
        have HFAR := Lib.hid (far_seen due k j v)
        clear HB7c HBW7 HBB7 HO137 hdr HP1 HM HL2 HB2Y HB79 HO159 HBW8 HBW9 HB78 HFL hki hkm hj6 hv0 hv5
        generalize seenV due k j v = seen at *
        have HCF := Lib.hid (fun W (h : Below wS.heap.size wS W) => C_below' HCf2.out (HBBc.out.trans (h.mono HBBc.out.size)))
        have HCW := Lib.hid (fun W (h : Below wS.heap.size wS W) => C_below' HCw2.out (HBBc.out.trans (h.mono HBBc.out.size)))
        have HXc := Lib.hid (fun W (h : Below wS.heap.size wS W) => HX2.out W (HBBc.out.trans (h.mono HBBc.out.size)))
        have HCS := Lib.hid (fun W (h : Below wS.heap.size wS W) => (show (Karr 6).C W (some ⟨g15, 0, none⟩) seen.length seen by have h1 := own_arrs (by omega) (pw_own_below HSEEN.out h) HSL.out HSE.out; rw [HSL.out]; exact h1))
        have HCD := Lib.hid (fun W (h : Below wS.heap.size wS W) => own_arrs (by omega) (pw_own_below HDUEc.out h) rfl HEACH.out)
        have HV1 := Lib.hid (show rsV fs ws seen = rsOut (rsTo (dSee fs ws seen) ws.length) by unfold rsV; rw [HOK.out, HSOK.out, HSL.out, HWL.out, if_pos rfl, if_pos rfl, if_neg (by omega), if_pos rfl])
        have HV2 := Lib.hid (show candV fs ws seen 1 = (candTo (dSee fs ws seen) 1 ws.length, 0) by unfold candV; rw [HOK.out, HSOK.out, HSL.out, HWL.out]; simp [inB])
        have HV3 := Lib.hid (show rsV fs ws due = rsOut (rsTo (dSee fs ws due) ws.length) by unfold rsV; rw [HOK.out, HDOK.out, HWL.out, if_pos rfl, if_pos rfl, if_neg (by omega), if_pos rfl])
        have hri := fun W h => ReadSights_ok A c fs B d ws (some ⟨g15, 0, none⟩) c15 seen W HD.out.hf HD.out.bytes (HCF.out W h) (HCW.out W h) (HCS.out W h)
        have hrs := fun W h => ReadSightsS_ok A c fs B d ws (some ⟨g15, 0, none⟩) c15 seen W HD.out.hf HD.out.bytes (HCF.out W h) (HCW.out W h) (HCS.out W h)
        have hci := fun W h => CandidatesFor_ok A c fs B d ws (some ⟨g15, 0, none⟩) c15 seen 1 W HD.out.hf HD.out.bytes (HCF.out W h) (HCW.out W h) (HCS.out W h)
        have hcs := fun W h => CandidatesForS_ok A c fs B d ws (some ⟨g15, 0, none⟩) c15 seen 1 W HD.out.hf HD.out.bytes (HCF.out W h) (HCW.out W h) (HCS.out W h)
        have hrd := fun W h => ReadSights_ok A c fs B d ws A13 c13 due W HD.out.hf HD.out.bytes (HCF.out W h) (HCW.out W h) (HCD.out W h)
        rw [HV1.out, HSL.out] at hri hrs
        rw [HV2.out, HSL.out] at hci hcs
        rw [HV3.out] at hrd
        dsimp only at hci hcs
        have hdw : ∀ q, q < ws.length → ∀ A3 c3 W, Below wS.heap.size wS W → (Karr 6).C W A3 (see fs (rl ws q)).length (see fs (rl ws q)) → Calls Try.prog 46 #[.slice A3 (see fs (rl ws q)).length c3, .slice (some ⟨g15, 0, none⟩) due.length c15] W fun e w' => e = .returned (.tuple #[.int .i64 (dSee fs ws seen q), .int .i64 0]) ∧ Below W.heap.size W w' := fun q hq A3 c3 W h hc => by
          have hl : (see fs (rl ws q)).length = seen.length := by rw [see_length, HSL.out, ← HWL.out]; exact (HG.out.len q hq).1
          have h1 := SightDistance_ok A3 c3 (see fs (rl ws q)) (some ⟨g15, 0, none⟩) c15 seen W hc (HCS.out W h) (okS_see _ _) HSOK.out hl (by rw [hl, HSL.out]; omega)
          rw [HSL.out] at h1
          exact h1
        have hdd : ∀ q, q < ws.length → ∀ A3 c3 W, Below wS.heap.size wS W → (Karr 6).C W A3 (see fs (rl ws q)).length (see fs (rl ws q)) → Calls Try.prog 46 #[.slice A3 (see fs (rl ws q)).length c3, .slice A13 due.length c13] W fun e w' => e = .returned (.tuple #[.int .i64 (dSee fs ws due q), .int .i64 0]) ∧ Below W.heap.size W w' := fun q hq A3 c3 W h hc => by
          have hl : (see fs (rl ws q)).length = due.length := by rw [see_length, ← HWL.out]; exact (HG.out.len q hq).1
          exact SightDistance_ok A3 c3 (see fs (rl ws q)) A13 c13 due W hc (HCD.out W h) (okS_see _ _) HDOK.out hl (by rw [hl]; omega)
        have HDi := Lib.hid (show dSee fs ws seen i ≤ 1 by unfold dSee; rw [HDUE.out]; exact HFAR.out)
        have HDi' := Lib.hid (show dSee fs ws due i = 0 by unfold dSee; rw [HDUE.out]; exact farS_self _)
        have HD48 := Lib.hid (fun q (hq : q < ws.length) => dSee_le (ss := seen) HG.out hq)
        have HD48' := Lib.hid (fun q (hq : q < ws.length) => dSee_le (ss := due) HG.out hq)
        have HRI := Lib.hid hri
        have HRS := Lib.hid hrs
        have HCI := Lib.hid hci
        have HCSS := Lib.hid hcs
        have HRD := Lib.hid hrd
        have HDW := Lib.hid hdw
        have HDD := Lib.hid hdd
        clear hri hrs hci hcs hrd hdw hdd HV1 HV2 HV3 HFAR
        generalize dSee fs ws seen = D at *
        generalize dSee fs ws due = D' at *
        have HLEAST := Lib.hid (fun q hq => rs_least D ws.length q hq)
        have HNEARi := Lib.hid (hasB_iff.2 (candTo_mem.2 ⟨i, rfl, hin, show ((D i : Nat) : Int) ≤ 1 by have := HDi.out; omega⟩))
        have HNEAR := Lib.hid (fun (q : Nat) (hq : q < ws.length) => (show hasB (candTo D 1 ws.length) q = decide ((D q : Int) ≤ 1) by
          rw [Bool.eq_iff_iff, hasB_iff, candTo_mem, decide_eq_true_iff]
          constructor
          · rintro ⟨m, h1, h2, h3⟩
            have : m = q := by omega
            subst this
            exact h3
          · exact fun h => ⟨q, rfl, hq, h⟩))
        have hnl : (candTo D 1 ws.length).length ≤ 60 := by have := candTo_len D 1 ws.length; omega
        have HCODE := Lib.hid (read_code D ws.length)
        generalize candTo D 1 ws.length = near at *
        have HREAD := Lib.hid (read_due hin HDi'.out)
        generalize rsOut (rsTo D' ws.length) = rd at *
        generalize rsOut (rsTo D ws.length) = r at *
        obtain ⟨r1, r2, r3⟩ := r
        unfold tup3 at HRI HRS
        dsimp only at HRI HRS
        generalize rsTo D ws.length = rr at *
        obtain ⟨b, l, cc⟩ := rr
        dsimp only at HCODE HLEAST
        have qb : (b != b) = false := by simp
        have ql : (l != l) = false := by simp
        have HNWI := Lib.hid (fun W (h : Below wS.heap.size wS W) => NearestWords_ok A c fs B d ws W HD.out.hf HD.out.bytes (HCF.out W h) (HCW.out W h))
        have HNWS := Lib.hid (fun W (h : Below wS.heap.size wS W) => NearestWordsS_ok A c fs B d ws W HD.out.hf HD.out.bytes (HCF.out W h) (HCW.out W h))
        have HNC := Lib.hid (show (nwV fs ws).2.2.2 = (if ws.length < 2 then 6 else 0) by unfold nwV; rw [HOK.out, if_pos rfl]; split <;> rfl)
        generalize nwV fs ws = nw at *
        obtain ⟨n1, n2, n3, n4⟩ := nw
        unfold tup4 at HNWI HNWS
        dsimp only at HNWI HNWS HNC
        have q1 : (n1 != n1) = false := by simp
        have q2 : (n2 != n2) = false := by simp
        have q3 : (n3 != n3) = false := by simp
        have q4 : (n4 != n4) = false := by simp
        have qi : ((i : Int) != (i : Int)) = false := by simp
        have HCONF := Lib.hid (fun W (h : Below wS.heap.size wS W) => ConfusedFlags_ok A c fs W hfl2 hfl7 HD.out.flags (HCF.out W h))
        have HBD := Lib.hid (fun (q : Nat) (hq : q < fs.length) W => BlurDistance_ok (rl fs 0) (rl fs q) (HD.out.flags 0 (by omega)).1 (HD.out.flags q hq).1 (HD.out.flags 0 (by omega)).ok (HD.out.flags q hq).ok (fun i => HD.out.hf 0 i) (fun i => HD.out.hf q i) W)
        have HCH := Lib.hid (fun (q : Nat) (hq : q < fs.length) (h1 : 1 ≤ q) => (show hasB (confTo (dFar fs) fs.length) q = decide ((dFar fs q : Int) ≤ 3) by
          rw [Bool.eq_iff_iff, hasB_iff, confTo_mem, decide_eq_true_iff]
          constructor
          · rintro ⟨m, h2, h3, h4, h5⟩
            have : m = q := by omega
            subst this
            omega
          · exact fun h => ⟨q, rfl, hq, by omega, by omega⟩))
        have HC0 := Lib.hid (show hasB (confTo (dFar fs) fs.length) 0 = false by
          rw [← Bool.not_eq_true, hasB_iff, confTo_mem]
          rintro ⟨m, h2, h3, h4, h5⟩
          omega)
        have hcl7 : (confTo (dFar fs) fs.length).length ≤ 7 := by have := confTo_len (dFar fs) fs.length; omega
        have HDFA : Hid (∀ q, dFar fs q = diffs (blurV (rl fs 0)) (blurV (rl fs q))) := fun _ => rfl
        have HDF6 := Lib.hid (fun q => (show dFar fs q ≤ 6 by unfold dFar; have := diffs_le (blurV (rl fs 0)) (blurV (rl fs q)); rw [blurV_length] at this; exact this))
        simp only [← HDFA.out] at HBD
        generalize confTo (dFar fs) fs.length = conf at *
        generalize dFar fs = F at *
        obtain ⟨y0, y1⟩ := HXc.out wS (Below.refl _ _)
        go_wp2_with fail
        refine (HRI.out wS (Below.refl _ _)).mono ?_
        rintro e w20 ⟨rfl, hb20⟩
        have HB20 := Lib.hid hb20
        obtain ⟨y0, y1⟩ := HXc.out w20 HB20.out
        clear hb20
        go_wp2_with fail
        refine (HRS.out w20 HB20.out).mono ?_
        rintro e w21 ⟨rfl, hb21⟩
        have HB21 := Lib.hid (HB20.out.trans (hb21.mono HB20.out.size))
        obtain ⟨y0, y1⟩ := HXc.out w21 HB21.out
        clear hb21
        go_wp2_with fail
        refine (HCI.out w21 HB21.out).mono ?_
        rintro e w22 ⟨v23, rfl, ho23, hb22⟩
        have HB22 := Lib.hid (HB21.out.trans (hb22.mono HB21.out.size))
        obtain ⟨A23, c23, g23, rfl, -, -, -⟩ := own_NF ho23 hb22.size
        have HO23 := Lib.hid ho23
        obtain ⟨y0, y1⟩ := HXc.out w22 HB22.out
        clear ho23 hb22
        go_wp2_with fail
        refine (HCSS.out w22 HB22.out).mono ?_
        rintro e w23 ⟨v25, rfl, ho25, hb23⟩
        have HB23 := Lib.hid (HB22.out.trans (hb23.mono HB22.out.size))
        obtain ⟨A25, c25, g25, rfl, -, -, -⟩ := own_NF ho25 hb23.size
        have HN25 := Lib.hid (own_ints ho25 rfl)
        have HN23 := Lib.hid (own_ints (pw_own_below HO23.out hb23) rfl)
        clear ho25 hb23
        go_upto_region 22 with fail
        go_cut [189] (fun sv wx => sv = .bool false ∧ Hid (Below w23.heap.size w23 wx))
        case first =>
          as_aux_lemma =>
            rcases HCODE.out with ⟨-, hr⟩ | hr
            all_goals
              injection hr with hr1 hr
              injection hr with hr2 hr3
              subst hr1 hr2 hr3
              go_wp2_with fail
              refine (SameNumbers_ok A23 c23 near A25 c25 near w23 HN23.out HN25.out).mono ?_
              rintro e w24 ⟨rfl, hq24⟩
              rw [show eqB near near = true from eqB_iff.2 rfl]
              have hb24 : Below w23.heap.size w23 w24 := by obtain ⟨q, rfl⟩ := hq24; exact below_dN (Below.refl _ _) q
              have HB24 := Lib.hid hb24
              have HN24 := Lib.hid (C_below' HN25.out hb24)
              clear hq24 hb24
              go_wp2_with fail
              refine (HasNumber_ok A25 c25 near i w24 HN24.out).mono ?_
              rintro e w' ⟨rfl, rfl⟩
              rw [HNEARi.out]
              go_wp2_with fail
              go_meet
              exact ⟨rfl, HB24.out⟩
        case rest =>
          as_aux_lemma =>
            obtain ⟨w24, rfl⟩ : ∃ w24 : World, w24 = wc := ⟨_, rfl⟩
            obtain ⟨rfl, HBx⟩ := hcut
            have HB24 := Lib.hid (HB23.out.trans (HBx.out.mono HB23.out.size))
            have HN24 := Lib.hid (C_below' HN25.out HBx.out)
            clear HBx HN23 HN25 HCI HCSS
            go_wp2_with fail
            go_loopw [27, 28, 29, 30, 31, 32, 33, 34] (fun va t _ _ _ _ _ _ wr => ∃ (q : Nat), q ≤ ws.length ∧ t = .int .i64 q ∧ va = .bool (aloneTo D' i q) ∧ Hid (Below w24.heap.size w24 wr)) (fun _ t _ _ _ _ _ _ _ => ws.length - (intOf t).toNat)
            case atStart => exact ⟨0, Nat.zero_le _, rfl, rfl, Below.refl _ _⟩
            case round =>
              obtain ⟨q, hq, rfl, rfl, HB⟩ := hrel
              have HBr := Lib.hid (HB24.out.trans (HB.out.mono HB24.out.size))
              obtain ⟨y0, y1⟩ := HXc.out wr HBr.out
              by_cases hlt : q < ws.length
              · have hlti : (q : Int) < (ws.length : Int) := by omega
                have hss := HSS.out q hlt wr (HBBc.out.trans (HBr.out.mono HBBc.out.size))
                simp only [HSY.out q hlt] at hss
                have HSSq := Lib.hid hss
                clear hss
                go_wp2_with fail
                refine HSSq.out.mono ?_
                rintro e w26 ⟨v29, rfl, ho, hb⟩
                obtain ⟨A29, c29, g29, rfl, -, -, -⟩ := own_NF ho hb.size
                have HC29 := Lib.hid (own_arrs (by omega) ho rfl (see_each fs (rl ws q)))
                have HB26 := Lib.hid (HBr.out.trans (hb.mono HBr.out.size))
                have HQ26 := Lib.hid hb
                clear ho hb
                go_wp2_with fail
                refine (HDW.out q hlt A29 c29 w26 HB26.out HC29.out).mono ?_
                rintro e w27 ⟨rfl, hb⟩
                have HB27 := Lib.hid (HB26.out.trans (hb.mono HB26.out.size))
                have HC27 := Lib.hid (C_below' HC29.out hb)
                have HQ27 := Lib.hid (HQ26.out.trans (hb.mono HQ26.out.size))
                clear hb
                go_wp2_with fail
                refine (HDD.out q hlt A29 c29 w27 HB27.out HC27.out).mono ?_
                rintro e w28 ⟨rfl, hb⟩
                have HB28 := Lib.hid (HB27.out.trans (hb.mono HB27.out.size))
                have HQ28 := Lib.hid (HB.out.trans ((HQ27.out.trans (hb.mono HQ27.out.size)).mono HB.out.size))
                clear hb
                have hx48 := HD48.out q hlt
                have hz48 := HD48'.out q hlt
                have hlq := HLEAST.out q hlt
                have has := aloneTo_succ D' i q
                have HN28 := Lib.hid (C_below' HN24.out HQ28.out)
                have HNQ := Lib.hid (HNEAR.out q hlt)
                have HAS := Lib.hid has
                clear has
                generalize D q = x at *
                generalize D' q = z at *
                generalize hal : aloneTo D' i q = al at *
                clear hal
                have hbb : (decide ((x : Int) ≤ 1) != decide ((x : Int) ≤ 1)) = false := by simp
                go_upto_region 31 with fail
                go_cut [239] (fun sv wx => sv = .bool false ∧ wx = w28)
                case first =>
                  as_aux_lemma =>
                    rcases HCODE.out with ⟨-, hr⟩ | hr
                    all_goals
                      injection hr with hr1 hr
                      injection hr with hr2 hr3
                      subst hr1 hr2 hr3
                      try (have hlt3 : ¬ (x : Int) < r2 := by omega)
                      go_wp2_with fail
                      refine (HasNumber_ok A25 c25 near q w28 HN28.out).mono ?_
                      rintro e w' ⟨rfl, rfl⟩
                      rw [HNQ.out]
                      go_wp2_with fail
                      go_meet
                      exact ⟨rfl, rfl⟩
                case rest =>
                  as_aux_lemma =>
                    obtain ⟨rfl, rfl⟩ := hcut
                    rcases al with _ | _
                    · have HNX := Lib.hid (show aloneTo D' i (q + 1) = false by rw [HAS.out]; rfl)
                      go_wp2
                      go_roundw
                      case rel => exact ⟨q + 1, by omega, by go_num, by rw [HNX.out], HQ28.out⟩
                      case measure => first|(simp [intOf]; done)|(simp [intOf]; omega)
                    · by_cases hqi : q = i
                      · have HNX := Lib.hid (show aloneTo D' i (q + 1) = true by rw [HAS.out]; simp [hqi])
                        have hqb : ((q : Int) == (i : Int)) = true := by simp [hqi]
                        clear hqi
                        go_wp2
                        go_roundw
                        case rel => exact ⟨q + 1, by omega, by go_num, by rw [HNX.out], HQ28.out⟩
                        case measure => first|(simp [intOf]; done)|(simp [intOf]; omega)
                      · have hqb : ((q : Int) == (i : Int)) = false := beq_eq_false_iff_ne.2 (by omega)
                        by_cases hz : 0 < z
                        · have HNX := Lib.hid (show aloneTo D' i (q + 1) = true by rw [HAS.out]; simp [hz])
                          have hzi : (0 : Int) < (z : Int) := by omega
                          clear hqi
                          go_wp2
                          go_roundw
                          case rel => exact ⟨q + 1, by omega, by go_num, by rw [HNX.out], HQ28.out⟩
                          case measure => first|(simp [intOf]; done)|(simp [intOf]; omega)
                        · have HNX := Lib.hid (show aloneTo D' i (q + 1) = false by rw [HAS.out]; simp [hz, hqi])
                          have hzi : ¬ (0 : Int) < (z : Int) := by omega
                          clear hqi
                          go_wp2
                          go_roundw
                          case rel => exact ⟨q + 1, by omega, by go_num, by rw [HNX.out], HQ28.out⟩
                          case measure => first|(simp [intOf]; done)|(simp [intOf]; omega)
              · obtain rfl : q = ws.length := by omega
                generalize hal : aloneTo D' i ws.length = al at *
                clear hal
                obtain ⟨d1, d2, d3⟩ := rd
                unfold tup3 at HRD
                dsimp only at HRD
                clear HDW HDD HSO HSS HN24 HNEAR HLEAST HD48 HD48' HSOi HSSi HCS HRI HRS HO23
                go_wp2_with fail
                refine (HRD.out wr HBr.out).mono ?_
                rintro e w30 ⟨rfl, hb⟩
                have HB30 := Lib.hid (HBr.out.trans (hb.mono HBr.out.size))
                clear hb y0 y1
                go_upto_region 35 with fail
                go_cut [272] (fun sv wx => sv = .bool false ∧ wx = w30)
                case first =>
                  as_aux_lemma =>
                    rcases HREAD.out with ⟨ha, hr⟩ | ⟨ha, hr⟩
                    all_goals
                      injection hr with hr1 hr
                      injection hr with hr2 hr3
                      subst hr1 hr2 hr3 ha
                      go_wp2_with fail
                      go_meet
                      exact ⟨rfl, rfl⟩
                case rest =>
                  as_aux_lemma =>
                    obtain ⟨hsv, hwc⟩ := hcut
                    subst hsv
                    obtain rfl : w30 = wc := hwc.symm
                    obtain ⟨y0, y1⟩ := HXc.out w30 HB30.out
                    go_wp2_with fail
                    refine (HNWI.out w30 HB30.out).mono ?_
                    rintro e w31 ⟨rfl, hb⟩
                    have HB31 := Lib.hid (HB30.out.trans (hb.mono HB30.out.size))
                    clear hb y0 y1
                    obtain ⟨y0, y1⟩ := HXc.out w31 HB31.out
                    go_wp2_with fail
                    refine (HNWS.out w31 HB31.out).mono ?_
                    rintro e w32 ⟨rfl, hb⟩
                    have HB32 := Lib.hid (HB31.out.trans (hb.mono HB31.out.size))
                    clear hb y0 y1
                    go_upto_region 39 with fail
                    go_cut [311] (fun sv wx => sv = .bool false ∧ wx = w32)
                    case first =>
                      as_aux_lemma =>
                        by_cases h2 : ws.length < 2
                        · have hn4 := HNC.out
                          rw [if_pos h2] at hn4
                          have hgt : ¬ (1 : Int) < (ws.length : Int) := by omega
                          subst hn4
                          clear HNC h2
                          go_wp2_with fail
                          go_meet
                          exact ⟨rfl, rfl⟩
                        · have hn4 := HNC.out
                          rw [if_neg h2] at hn4
                          have hgt : (1 : Int) < (ws.length : Int) := by omega
                          subst hn4
                          clear HNC h2
                          go_wp2_with fail
                          go_meet
                          exact ⟨rfl, rfl⟩
                    case rest =>
                      as_aux_lemma =>
                        obtain ⟨hsv, hwc⟩ := hcut
                        subst hsv
                        obtain rfl : w32 = wc := hwc.symm
                        obtain ⟨y0, y1⟩ := HXc.out w32 HB32.out
                        go_wp2_with fail
                        refine (HCONF.out w32 HB32.out).mono ?_
                        rintro e w33 ⟨v46, rfl, ho, hb⟩
                        obtain ⟨A46, c46, g46, rfl, -, -, -⟩ := own_NF ho hb.size
                        have HN46 := Lib.hid (own_ints ho rfl)
                        have HB33 := Lib.hid (HB32.out.trans (hb.mono HB32.out.size))
                        clear ho hb y0 y1
                        go_wp2_with fail
                        go_loopw [48, 49, 50] (fun t _ _ wr => ∃ q : Nat, 1 ≤ q ∧ q ≤ fs.length ∧ t = .int .i64 q ∧ Hid (Below w33.heap.size w33 wr)) (fun t _ _ _ => fs.length - (intOf t).toNat)
                        case atStart => exact ⟨1, by omega, by omega, rfl, Below.refl _ _⟩
                        case round =>
                          obtain ⟨q, hq1, hq, rfl, HB⟩ := hrel
                          have HBr := Lib.hid (HB33.out.trans (HB.out.mono HB33.out.size))
                          have HNr := Lib.hid (C_below' HN46.out HB.out)
                          obtain ⟨y0, y1⟩ := HXc.out wr HBr.out
                          by_cases hlt : q < fs.length
                          · have hlti : (q : Int) < (fs.length : Int) := by omega
                            have h0l : (0 : Int) < (fs.length : Int) := by omega
                            have HCFr := Lib.hid (HCF.out wr HBr.out)
                            obtain ⟨ad, hA, hl0, hx0⟩ := at_arr HCFr.out (show 0 < fs.length by omega)
                            obtain ⟨ad', hA', hlq, hxq⟩ := at_arr HCFr.out hlt
                            rw [hA] at hA' y0
                            injection hA' with hA'
                            subst hA'
                            rw [Nat.zero_mul, Addr.add_zero'] at hx0
                            have hlt0 := cell_lt (cells_nums hx0 (k := 0) (by omega))
                            rw [addr_block] at hlt0
                            have HF0 := Lib.hid (fun W (h : Below wr.heap.size wr W) j v hv => (h.cell (p := ad.add j) (by rw [addr_block]; exact hlt0)).trans (hx0 j v hv))
                            have HFq := Lib.hid (fun W (h : Below wr.heap.size wr W) j v hv => (h.cell (p := (ad.add (q * 24)).add j) (by rw [addr_block, addr_block]; exact hlt0)).trans (hxq j v hv))
                            have HL0 := Lib.hid hl0
                            have HLq := Lib.hid hlq
                            have HBq := Lib.hid (fun W => HBD.out q hlt W)
                            have HCq := Lib.hid (HCH.out q hlt hq1)
                            have hf6 := HDF6.out q
                            unfold av at HBq
                            generalize F q = x at *
                            have hbb : (decide ((x : Int) ≤ 3) != decide ((x : Int) ≤ 3)) = false := by simp
                            have z0 := fun (n : Fam wr.heap.size wr) => (n.below.cell (cell_lt y0)).trans y0
                            clear hA hx0 hxq hl0 hlq hlt0
                            go_wp2_with fail
                            (haveI hne9 := fam_ne wr.heap.size wr; refine wp_region_fam wr.heap.size wr (Below.refl _ _) (by kernel_rfl) (by kernel_rfl) ?_; (repeat (first | (refine quiet_step_agg (by rfl) 78 (.tmp 330) rfl ad rfl (nums .u8 (rl fs 0)) _ (fun w' hw' => by obtain ⟨nn, rfl⟩ := hw'; exact HF0.out _ nn.below) Try.underlying78 rfl (by rw [nums_length, HL0.out]; exact ainfo_flag) ?_; simp only [Act.put, List.setIfInBounds_toArray, List.set_cons_zero, List.set_cons_succ]) | (refine quiet_step_agg (by rfl) 78 (.tmp 335) rfl (ad.add (q * 24)) rfl (nums .u8 (rl fs q)) _ (fun w' hw' => by obtain ⟨nn, rfl⟩ := hw'; exact HFq.out _ nn.below) Try.underlying78 rfl (by rw [nums_length, HLq.out]; exact ainfo_flag) ?_; simp only [Act.put, List.setIfInBounds_toArray, List.set_cons_zero, List.set_cons_succ]) | go_big_quiet_step ((go_at_call 48; exact fam_call (Nat.le_refl _) (HBq.out _))))); refine wpQuiet_nil ?_; intro _ hw'; obtain ⟨nq, hw''⟩ := hw'; subst hw''; clear hne9)
                            have HB5 := Lib.hid (HB.out.trans (nq.below.mono HB.out.size))
                            have HN5 := Lib.hid (C_below' HNr.out nq.below)
                            generalize nq.at = w36 at *
                            go_wp2_with fail
                            refine (HasNumber_ok A46 c46 conf q w36 HN5.out).mono ?_
                            rintro e w' ⟨rfl, rfl⟩
                            rw [HCq.out]
                            go_wp2_with fail
                            go_roundw
                            case rel => exact ⟨q + 1, by omega, by omega, by go_num, HB5.out⟩
                            case measure => first|(simp [intOf]; done)|(simp [intOf]; omega)
                          · obtain rfl : q = fs.length := by omega
                            go_wp2_with fail
                            refine (HasNumber_ok A46 c46 conf 0 wr HNr.out).mono ?_
                            rintro e w' ⟨rfl, rfl⟩
                            rw [HC0.out]
                            go_wp2_with fail
                            go_ret
                            exact ⟨rfl, HBWc.out.trans (HBr.out.mono HBWc.out.size)⟩
end Go.Proofs.Ytjadhhnajphibaa
