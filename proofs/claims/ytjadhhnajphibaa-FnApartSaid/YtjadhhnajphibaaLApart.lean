/- The walk of the law on words that are taken. -/
import Derived.Test.YtjadhhnajphibaaP2
import Derived.Test.YtjadhhnajphibaaW9
set_option linter.unusedVariables false
set_option linter.unusedSimpArgs false
namespace Go.Proofs.Ytjadhhnajphibaa
open Go.RowKit Go.Proofs.YtjadhhnajphibaaW.PrintWords

set_option maxRecDepth 100000 in
set_option maxHeartbeats 8000000 in
theorem FnApart_ok (A0 : Option Addr) (c0 : Nat) (xs : List Int) (A1 : Option Addr) (c1 : Nat) (ys : List Int) (w : World) (hx : Bytes xs) (hy : Bytes ys) (h0 : (Kd.int .u8).C w A0 xs.length xs) (h1 : (Kd.int .u8).C w A1 ys.length ys) :
    Calls Try.prog 3 #[.slice A0 xs.length c0, .slice A1 ys.length c1] w fun e w' => e = .returned (.bool true) ∧ Below w.heap.size w w' := by
  have hm0 : xs.length ≤ 9223372036854775807 := h0.2.1
  have hm1 : ys.length ≤ 9223372036854775807 := h1.2.1
  have HX := Lib.hid hx
  have HY := Lib.hid hy
  have H0 := Lib.hid h0
  have H1 := Lib.hid h1
  clear hx hy h0 h1
  by_cases hb0 : 4096 < xs.length
  · have hd0 : decide (4096 < xs.length) = true := decide_eq_true hb0
    go_enter Try.func3, Try.ntmps3
    go_wp2_with fail
    refine (f6big_ok _ _ _ _ hm0).mono ?_
    rintro e w' ⟨rfl, rfl⟩
    go_wp2_with fail
    go_ret
    exact ⟨rfl, Below.refl _ _⟩
  · have hd0 : decide (4096 < xs.length) = false := decide_eq_false hb0
    by_cases hb1 : 4096 < ys.length
    · have hd1 : decide (4096 < ys.length) = true := decide_eq_true hb1
      go_enter Try.func3, Try.ntmps3
      go_wp2_with fail
      refine (f6big_ok _ _ _ _ hm0).mono ?_
      rintro e w' ⟨rfl, rfl⟩
      go_wp2_with fail
      refine (f6big_ok _ _ _ _ hm1).mono ?_
      rintro e w' ⟨rfl, rfl⟩
      go_wp2_with fail
      go_ret
      exact ⟨rfl, Below.refl _ _⟩
    · have hd1 : decide (4096 < ys.length) = false := decide_eq_false hb1
      go_enter Try.func3, Try.ntmps3
      go_wp2_with fail
      refine (f6big_ok _ _ _ _ hm0).mono ?_
      rintro e w' ⟨rfl, rfl⟩
      go_wp2_with fail
      refine (f6big_ok _ _ _ _ hm1).mono ?_
      rintro e w' ⟨rfl, rfl⟩
      clear hd0 hd1
      go_wp2_with fail
      refine (P6Pick_ok w A0 c0 xs 3 (by omega) H0.out HX.out).mono ?_
      rintro e w1 ⟨r1, rfl, hr1, hr1', _, hbw1⟩
      have hr1'' := hr1' (by omega)
      have HB1 := Lib.hid hbw1
      clear hr1' hbw1
      go_wp2_with fail
      refine (P6Pick_ok w1 A1 c1 ys 4 (by omega) (C_below' H1.out HB1.out) HY.out).mono ?_
      rintro e w2 ⟨r2, rfl, hr2, hr2', _, hbw2⟩
      have hr2'' := hr2' (by omega)
      have HB2 := Lib.hid (HB1.out.trans (hbw2.mono HB1.out.size))
      clear hr2' hbw2 HB1
      go_wp2_with fail
      refine (P6Pick_ok w2 A0 c0 xs _ (by omega) (C_below' H0.out HB2.out) HX.out).mono ?_
      rintro e w3 ⟨r3, rfl, hr3, hr3', hr3z, hbw3⟩
      have hr3'' : r3 ≤ r2 := by
        by_cases h : 1 < 1 + r2
        · have := hr3' h; omega
        · have := hr3z (by omega); omega
      have HB3 := Lib.hid (HB2.out.trans (hbw3.mono HB2.out.size))
      clear hr3' hr3z hbw3 HB2
      go_wp2_with fail
      obtain ⟨q, hq⟩ : ∃ q : Nat, (2 + r1 : Int) = q := ⟨(2 + r1).toNat, by omega⟩
      obtain ⟨m, hm⟩ : ∃ m : Nat, (1 + r2 : Int) = m := ⟨(1 + r2).toNat, by omega⟩
      obtain ⟨d, hd⟩ : ∃ d : Nat, (1 + r3 : Int) = d := ⟨(1 + r3).toNat, by omega⟩
      rw [hq, hm, hd]
      have hq2 : 2 ≤ q := by omega
      have hq4 : q ≤ 4 := by omega
      have hm1' : 1 ≤ m := by omega
      have hm4 : m ≤ 4 := by omega
      have hd1 : 1 ≤ d := by omega
      have hdm : d ≤ m := by omega
      clear hq hm hd hr1 hr2 hr3 hr1'' hr2'' hr3''
      have HLE := Lib.hid (grTo_le q m d (pw q m))
      have HPOS := Lib.hid (grTo_pos (q := q) (m := m) (d := d) (r := pw q m) (Nat.pow_pos (by omega)))
      have HBD := Lib.hid (gr_bound hq2 hq4 hd1 hdm hm4)
      have HWD := Lib.hid (gr_words (q := q) (m := m) (d := d) (r := pw q m) (by omega) (by omega) hm1' (by omega))
      have HWD' := Lib.hid (fun zs => gr_words' (q := q) (m := m) (d := d) (r := pw q m) (ys := zs) (by omega) (by omega) hm1' (by omega))
      have HBY := Lib.hid (gr_bytes (q := q) (m := m) (d := d) (r := pw q m) (by omega) (by omega))
      have HAP := Lib.hid (fun i k => grTo_apart (q := q) (m := m) (d := d) (r := pw q m) (i := i) (k := k))
      have HLN := Lib.hid (fun k => grTo_len (q := q) (m := m) (d := d) (r := pw q m) (k := k))
      have HDEC := Lib.hid (fun zs => dec_ok (q := q) (m := m) (d := d) (r := pw q m) (ys := zs) hd1)
      have HEND := Lib.hid (fun zs => near_end (q := q) (m := m) (d := d) (ys := zs) (by omega) hd1)
      have HG1 := Lib.hid (GreedyWords_ok q m d hq2 hq4 hm1' hm4 hd1 hdm w3)
      have HG2 := Lib.hid (fun W => GreedyWords_spec_ok q m d hq2 hq4 hm1' hm4 hd1 hdm W)
      have HSB := Lib.hid (fun W => SphereBound_ok q m d hq2 hq4 hd1 hdm hm4 W)
      generalize grTo q m d (pw q m) = due at *
      generalize sphV q m d = bound at *
      refine HG1.out.mono ?_
      rintro e w4 ⟨v1, rfl, hR1, hb4⟩
      obtain ⟨A2, c2, rfl, hc2, hC2⟩ := Kd.R_reads hR1
      have HC2 := Lib.hid hC2
      have HB4 := Lib.hid (HB3.out.trans (hb4.mono HB3.out.size))
      clear hR1 hC2 hb4 HG1 HB3
      go_wp2_with fail
      refine (HG2.out w4).mono ?_
      rintro e w5 ⟨v2, rfl, hR2, hb5⟩
      obtain ⟨A3, c3, rfl, hc3, hC3⟩ := Kd.R_reads hR2
      have HC2' := Lib.hid (C_below' HC2.out hb5)
      have HC3 := Lib.hid hC3
      have HB5 := Lib.hid (HB4.out.trans (hb5.mono HB4.out.size))
      clear hR2 hC3 hb5 HG2 HB4 HC2
      go_wp2_with fail
      refine (HSB.out w5).mono ?_
      rintro e w5' ⟨rfl, rfl⟩
      have hle := HLE.out
      have hpos := HPOS.out
      have hbd : (due.length : Int) ≤ (bound : Int) := by have := HBD.out; omega
      have hne0 : ((due.length : Int) == 0) = false := beq_eq_false_iff_ne.2 (by omega)
      go_wp2_with fail
      refine (SameWords_spec_ok A2 c2 due A3 c3 due w5 HC2'.out HC3.out).mono ?_
      rintro e w6 ⟨rfl, q6, rfl⟩
      rw [show eqWB due due = true from eqWB_iff.2 rfl]
      go_wp2_with fail
      refine (SameWords_ok A2 c2 due A3 c3 due (w5.drewN q6) HC2'.out HC3.out).mono ?_
      rintro e w7 ⟨rfl, q7, rfl⟩
      rw [show eqWB due due = true from eqWB_iff.2 rfl]
      rw [World.drewN_drewN]
      have HC7 : Hid ((Kd.slice 5 (Kd.int .u8)).C (w5.drewN (q6 + q7)) A3 due.length due) := HC3.out
      have HB7 := Lib.hid (below_dN HB5.out (q6 + q7))
      generalize w5.drewN (q6 + q7) = w7 at *
      clear HC2' HC3 HB5 HSB
      go_wp2_with fail
      -- how far the nearest words are apart
      have HLA := Lib.hid (LeastApart_ok A3 c3 due w7 HBY.out HWD.out HLE.out HC7.out)
      refine HLA.out.mono ?_
      rintro e w8 ⟨rfl, hb8⟩
      have HC8 := Lib.hid (C_below' HC7.out hb8)
      have HB8 := Lib.hid (HB7.out.trans (hb8.mono HB7.out.size))
      clear hb8 HLA HC7 HB7
      have HLV : Hid ((due.length < 2 → leastV due = (0, 6)) ∧ (2 ≤ due.length → ∃ l : Int, leastV due = (l, 0) ∧ d ≤ l)) := ⟨least_few, fun h => least_many h (fun i k a b => HAP.out i k a b)⟩
      generalize leastV due = lv at *
      obtain ⟨la, lc⟩ := lv
      by_cases h2 : due.length < 2
      · obtain ⟨rfl, rfl⟩ := Prod.mk.inj (HLV.out.1 h2)
        clear HLV
        go_wp2_with fail
        refine (P6Word_ok w8 A1 c1 ys q m (by omega) (by omega) (by omega) (C_below' H1.out HB8.out) HY.out).mono ?_
        rintro e w9 ⟨vw, zs, rfl, hzl, hzL, hO, hb9⟩
        obtain ⟨_, A4, c4, rfl, hc4, hC4⟩ := own_C hO
        subst hzl
        have HC9 := Lib.hid (C_below' HC8.out hb9)
        have HZ9 := Lib.hid hC4
        have HB9 := Lib.hid (HB8.out.trans (hb9.mono HB8.out.size))
        have HZL := Lib.hid hzL
        clear hO hb9 hC4 HC8 HB8 hzL
        have hzm : zs.length ≤ 9223372036854775807 := by omega
        have ht0 : 0 ≤ ((d : Int) - 1) / 2 := by omega
        have ht8 : ((d : Int) - 1) / 2 ≤ 8 := by omega
        go_wp2_with fail
        refine (DecodeWord_ok A3 c3 due A4 c4 zs (((d : Int) - 1) / 2) w9 HBY.out (HZL.out.bytes (by omega)) (HWD'.out zs rfl HZL.out) HLE.out ht0 ht8 HC9.out HZ9.out hc4).mono ?_
        rintro e w10 ⟨rfl, hb10⟩
        have HC10 := Lib.hid (C_below' HC9.out hb10)
        have HZ10 := Lib.hid (C_below' HZ9.out hb10)
        have HB10 := Lib.hid (HB9.out.trans (hb10.mono HB9.out.size))
        clear hb10 HC9 HZ9 HB9
        go_wp2_with fail
        refine (DecodeWord_spec_ok A3 c3 due A4 c4 zs (((d : Int) - 1) / 2) w10 HWD.out (wordB_of (q := q) (by omega) (by omega) HZL.out (by omega)) (fun i hi => HLN.out i hi) HLE.out ht0 ht8 HC10.out HZ10.out).mono ?_
        rintro e w11 ⟨rfl, q11, rfl⟩
        have HC11 : Hid ((Kd.slice 5 (Kd.int .u8)).C (w10.drewN q11) A3 due.length due) := HC10.out
        have HZ11 : Hid ((Kd.int .u8).C (w10.drewN q11) A4 zs.length zs) := HZ10.out
        have HB11 := Lib.hid (below_dN HB10.out q11)
        generalize w10.drewN q11 = w11 at *
        clear HC10 HZ10 HB10
        have HD := Lib.hid (HDEC.out zs rfl)
        have HPD : Hid (∀ i, nearP due zs (((d : Int) - 1) / 2) i = decide ((diffs (rl due i) zs : Int) ≤ ((d : Int) - 1) / 2)) := fun _ => rfl
        have HE := Lib.hid (fun h => HEND.out zs rfl HZL.out h)
        generalize nearP due zs (((d : Int) - 1) / 2) = p at *
        generalize decP p due.length = dp at *
        obtain ⟨dv, dc⟩ := dp
        have hdc : (dc == 8) = false := beq_eq_false_iff_ne.2 (HD.out.1)
        go_wp2_with fail
        go_loopw [21, 22] (fun nr i wr => ∃ k : Nat, k ≤ due.length ∧ i = .int .i64 k ∧ nr = .int .i64 (minTo zs.length (fun i => (diffs (rl due i) zs : Nat)) k) ∧ Hid (Below w11.heap.size w11 wr)) (fun _ i _ => due.length - (intOf i).toNat)
        case atStart => exact ⟨0, Nat.zero_le _, rfl, rfl, Below.refl _ _⟩
        case round =>
          obtain ⟨k, hk, rfl, rfl, HBR⟩ := hrel
          have hmr := minTo_range (m := (zs.length : Int)) (f := fun i => ((diffs (rl due i) zs : Nat) : Int)) (n := k) (fun _ => by omega) (by omega)
          obtain ⟨hmr0, hmr1⟩ := hmr
          have HMS : Hid (∀ x : Nat, x = diffs (rl due k) zs → minTo zs.length (fun i => (diffs (rl due i) zs : Nat)) (k + 1) = if minTo zs.length (fun i => (diffs (rl due i) zs : Nat)) k ≤ x then minTo zs.length (fun i => (diffs (rl due i) zs : Nat)) k else x) := by
            rintro x rfl
            rfl
          by_cases hlt : k < due.length
          · obtain ⟨ad, A5, c5, rfl, hx5, hl5, hr5⟩ := at_row (C_below' HC11.out HBR.out) hlt
            have hln := HLN.out k hlt
            have hm5 : (rl due k).length ≤ 9223372036854775807 := hr5.2.1
            have HLT := Lib.hid (LettersApart_ok A5 c5 (rl due k) A4 c4 zs wr (HBY.out k) (HZL.out.bytes (by omega)) hr5 (C_below' HZ11.out HBR.out))
            have hlv : lettersV (rl due k) zs = (((diffs (rl due k) zs : Nat) : Int), 0) := by
              have e1 := allB_iff.1 HWD.out k hlt
              rw [Bool.and_eq_true] at e1
              rw [lettersV, e1.1, wordB_of (q := q) (by omega) (by omega) HZL.out (by omega)]
              simp [hln]
            rw [hlv] at HLT
            have hpk := HPD.out k
            have hxl := diffs_le (rl due k) zs
            have HMS' := Lib.hid (HMS.out _ rfl)
            obtain ⟨hDk1, hDk2⟩ := HD.out.2 k hlt
            generalize diffs (rl due k) zs = x at HLT hpk hxl HMS'
            generalize minTo zs.length (fun i => (diffs (rl due i) zs : Nat)) k = nr at *
            clear hr5 hlv HMS hln
            by_cases hxt : (x : Int) ≤ ((d : Int) - 1) / 2
            · have hpt : p k = true := by rw [hpk]; exact decide_eq_true hxt
              obtain ⟨rfl, rfl⟩ := Prod.mk.inj (hDk1 hpt)
              clear hDk1 hDk2 hpk hpt hdc HD HE
              by_cases hnx : nr ≤ x
              all_goals
                go_wp2_with fail
                refine HLT.out.mono ?_
                rintro e w12 ⟨rfl, hb12⟩
                go_wp2_with fail
                go_roundw
                case rel => exact ⟨k + 1, by omega, by go_num, by first | rw [HMS'.out, if_pos (by omega)] | rw [HMS'.out, if_neg (by omega)], HBR.out.trans (hb12.mono HBR.out.size)⟩
                case measure => first|(simp [intOf]; done)|(simp [intOf]; omega)
            · have hpf : p k = false := by rw [hpk]; exact decide_eq_false hxt
              have hne := hDk2 hpf
              clear hDk1 hDk2 hpk hpf HD
              by_cases hc0 : dc = 0
              · have hc0b : (dc == 0) = true := by simp [hc0]
                have hne' : ((k : Int) == dv) = false := beq_eq_false_iff_ne.2 (fun e => hne hc0 e.symm)
                clear hne hc0
                by_cases hnx : nr ≤ x
                all_goals
                  go_wp2_with fail
                  refine HLT.out.mono ?_
                  rintro e w12 ⟨rfl, hb12⟩
                  go_wp2_with fail
                  go_roundw
                  case rel => exact ⟨k + 1, by omega, by go_num, by first | rw [HMS'.out, if_pos (by omega)] | rw [HMS'.out, if_neg (by omega)], HBR.out.trans (hb12.mono HBR.out.size)⟩
                  case measure => first|(simp [intOf]; done)|(simp [intOf]; omega)
              · have hc0b : (dc == 0) = false := beq_eq_false_iff_ne.2 hc0
                clear hne hc0
                by_cases hnx : nr ≤ x
                all_goals
                  go_wp2_with fail
                  refine HLT.out.mono ?_
                  rintro e w12 ⟨rfl, hb12⟩
                  go_wp2_with fail
                  go_roundw
                  case rel => exact ⟨k + 1, by omega, by go_num, by first | rw [HMS'.out, if_pos (by omega)] | rw [HMS'.out, if_neg (by omega)], HBR.out.trans (hb12.mono HBR.out.size)⟩
                  case measure => first|(simp [intOf]; done)|(simp [intOf]; omega)
          · have ek : k = due.length := by omega
            subst ek
            have HFIN := Lib.hid (HB11.out.trans (HBR.out.mono HB11.out.size))
            have hle := HLE.out
            by_cases h60 : due.length < 60
            · have hend := HE.out h60
              have h60b : ((due.length : Int) == 60) = false := beq_eq_false_iff_ne.2 (by omega)
              clear hdc
              go_wp2_with fail
              go_ret
              exact ⟨rfl, HFIN.out⟩
            · have h60b : ((due.length : Int) == 60) = true := beq_iff_eq.2 (by omega)
              clear hdc
              go_wp2_with fail
              go_ret
              exact ⟨rfl, HFIN.out⟩

      · obtain ⟨l, hl, hdl⟩ := HLV.out.2 (by omega)
        obtain ⟨rfl, rfl⟩ := Prod.mk.inj hl
        clear HLV hl
        go_wp2_with fail
        refine (P6Word_ok w8 A1 c1 ys q m (by omega) (by omega) (by omega) (C_below' H1.out HB8.out) HY.out).mono ?_
        rintro e w9 ⟨vw, zs, rfl, hzl, hzL, hO, hb9⟩
        obtain ⟨_, A4, c4, rfl, hc4, hC4⟩ := own_C hO
        subst hzl
        have HC9 := Lib.hid (C_below' HC8.out hb9)
        have HZ9 := Lib.hid hC4
        have HB9 := Lib.hid (HB8.out.trans (hb9.mono HB8.out.size))
        have HZL := Lib.hid hzL
        clear hO hb9 hC4 HC8 HB8 hzL
        have hzm : zs.length ≤ 9223372036854775807 := by omega
        have ht0 : 0 ≤ ((d : Int) - 1) / 2 := by omega
        have ht8 : ((d : Int) - 1) / 2 ≤ 8 := by omega
        go_wp2_with fail
        refine (DecodeWord_ok A3 c3 due A4 c4 zs (((d : Int) - 1) / 2) w9 HBY.out (HZL.out.bytes (by omega)) (HWD'.out zs rfl HZL.out) HLE.out ht0 ht8 HC9.out HZ9.out hc4).mono ?_
        rintro e w10 ⟨rfl, hb10⟩
        have HC10 := Lib.hid (C_below' HC9.out hb10)
        have HZ10 := Lib.hid (C_below' HZ9.out hb10)
        have HB10 := Lib.hid (HB9.out.trans (hb10.mono HB9.out.size))
        clear hb10 HC9 HZ9 HB9
        go_wp2_with fail
        refine (DecodeWord_spec_ok A3 c3 due A4 c4 zs (((d : Int) - 1) / 2) w10 HWD.out (wordB_of (q := q) (by omega) (by omega) HZL.out (by omega)) (fun i hi => HLN.out i hi) HLE.out ht0 ht8 HC10.out HZ10.out).mono ?_
        rintro e w11 ⟨rfl, q11, rfl⟩
        have HC11 : Hid ((Kd.slice 5 (Kd.int .u8)).C (w10.drewN q11) A3 due.length due) := HC10.out
        have HZ11 : Hid ((Kd.int .u8).C (w10.drewN q11) A4 zs.length zs) := HZ10.out
        have HB11 := Lib.hid (below_dN HB10.out q11)
        generalize w10.drewN q11 = w11 at *
        clear HC10 HZ10 HB10
        have HD := Lib.hid (HDEC.out zs rfl)
        have HPD : Hid (∀ i, nearP due zs (((d : Int) - 1) / 2) i = decide ((diffs (rl due i) zs : Int) ≤ ((d : Int) - 1) / 2)) := fun _ => rfl
        have HE := Lib.hid (fun h => HEND.out zs rfl HZL.out h)
        generalize nearP due zs (((d : Int) - 1) / 2) = p at *
        generalize decP p due.length = dp at *
        obtain ⟨dv, dc⟩ := dp
        have hdc : (dc == 8) = false := beq_eq_false_iff_ne.2 (HD.out.1)
        go_wp2_with fail
        go_loopw [21, 22] (fun nr i wr => ∃ k : Nat, k ≤ due.length ∧ i = .int .i64 k ∧ nr = .int .i64 (minTo zs.length (fun i => (diffs (rl due i) zs : Nat)) k) ∧ Hid (Below w11.heap.size w11 wr)) (fun _ i _ => due.length - (intOf i).toNat)
        case atStart => exact ⟨0, Nat.zero_le _, rfl, rfl, Below.refl _ _⟩
        case round =>
          obtain ⟨k, hk, rfl, rfl, HBR⟩ := hrel
          have hmr := minTo_range (m := (zs.length : Int)) (f := fun i => ((diffs (rl due i) zs : Nat) : Int)) (n := k) (fun _ => by omega) (by omega)
          obtain ⟨hmr0, hmr1⟩ := hmr
          have HMS : Hid (∀ x : Nat, x = diffs (rl due k) zs → minTo zs.length (fun i => (diffs (rl due i) zs : Nat)) (k + 1) = if minTo zs.length (fun i => (diffs (rl due i) zs : Nat)) k ≤ x then minTo zs.length (fun i => (diffs (rl due i) zs : Nat)) k else x) := by
            rintro x rfl
            rfl
          by_cases hlt : k < due.length
          · obtain ⟨ad, A5, c5, rfl, hx5, hl5, hr5⟩ := at_row (C_below' HC11.out HBR.out) hlt
            have hln := HLN.out k hlt
            have hm5 : (rl due k).length ≤ 9223372036854775807 := hr5.2.1
            have HLT := Lib.hid (LettersApart_ok A5 c5 (rl due k) A4 c4 zs wr (HBY.out k) (HZL.out.bytes (by omega)) hr5 (C_below' HZ11.out HBR.out))
            have hlv : lettersV (rl due k) zs = (((diffs (rl due k) zs : Nat) : Int), 0) := by
              have e1 := allB_iff.1 HWD.out k hlt
              rw [Bool.and_eq_true] at e1
              rw [lettersV, e1.1, wordB_of (q := q) (by omega) (by omega) HZL.out (by omega)]
              simp [hln]
            rw [hlv] at HLT
            have hpk := HPD.out k
            have hxl := diffs_le (rl due k) zs
            have HMS' := Lib.hid (HMS.out _ rfl)
            obtain ⟨hDk1, hDk2⟩ := HD.out.2 k hlt
            generalize diffs (rl due k) zs = x at HLT hpk hxl HMS'
            generalize minTo zs.length (fun i => (diffs (rl due i) zs : Nat)) k = nr at *
            clear hr5 hlv HMS hln
            by_cases hxt : (x : Int) ≤ ((d : Int) - 1) / 2
            · have hpt : p k = true := by rw [hpk]; exact decide_eq_true hxt
              obtain ⟨rfl, rfl⟩ := Prod.mk.inj (hDk1 hpt)
              clear hDk1 hDk2 hpk hpt hdc HD HE
              by_cases hnx : nr ≤ x
              all_goals
                go_wp2_with fail
                refine HLT.out.mono ?_
                rintro e w12 ⟨rfl, hb12⟩
                go_wp2_with fail
                go_roundw
                case rel => exact ⟨k + 1, by omega, by go_num, by first | rw [HMS'.out, if_pos (by omega)] | rw [HMS'.out, if_neg (by omega)], HBR.out.trans (hb12.mono HBR.out.size)⟩
                case measure => first|(simp [intOf]; done)|(simp [intOf]; omega)
            · have hpf : p k = false := by rw [hpk]; exact decide_eq_false hxt
              have hne := hDk2 hpf
              clear hDk1 hDk2 hpk hpf HD
              by_cases hc0 : dc = 0
              · have hc0b : (dc == 0) = true := by simp [hc0]
                have hne' : ((k : Int) == dv) = false := beq_eq_false_iff_ne.2 (fun e => hne hc0 e.symm)
                clear hne hc0
                by_cases hnx : nr ≤ x
                all_goals
                  go_wp2_with fail
                  refine HLT.out.mono ?_
                  rintro e w12 ⟨rfl, hb12⟩
                  go_wp2_with fail
                  go_roundw
                  case rel => exact ⟨k + 1, by omega, by go_num, by first | rw [HMS'.out, if_pos (by omega)] | rw [HMS'.out, if_neg (by omega)], HBR.out.trans (hb12.mono HBR.out.size)⟩
                  case measure => first|(simp [intOf]; done)|(simp [intOf]; omega)
              · have hc0b : (dc == 0) = false := beq_eq_false_iff_ne.2 hc0
                clear hne hc0
                by_cases hnx : nr ≤ x
                all_goals
                  go_wp2_with fail
                  refine HLT.out.mono ?_
                  rintro e w12 ⟨rfl, hb12⟩
                  go_wp2_with fail
                  go_roundw
                  case rel => exact ⟨k + 1, by omega, by go_num, by first | rw [HMS'.out, if_pos (by omega)] | rw [HMS'.out, if_neg (by omega)], HBR.out.trans (hb12.mono HBR.out.size)⟩
                  case measure => first|(simp [intOf]; done)|(simp [intOf]; omega)
          · have ek : k = due.length := by omega
            subst ek
            have HFIN := Lib.hid (HB11.out.trans (HBR.out.mono HB11.out.size))
            have hle := HLE.out
            by_cases h60 : due.length < 60
            · have hend := HE.out h60
              have h60b : ((due.length : Int) == 60) = false := beq_eq_false_iff_ne.2 (by omega)
              clear hdc
              go_wp2_with fail
              go_ret
              exact ⟨rfl, HFIN.out⟩
            · have h60b : ((due.length : Int) == 60) = true := beq_iff_eq.2 (by omega)
              clear hdc
              go_wp2_with fail
              go_ret
              exact ⟨rfl, HFIN.out⟩

end Go.Proofs.Ytjadhhnajphibaa
