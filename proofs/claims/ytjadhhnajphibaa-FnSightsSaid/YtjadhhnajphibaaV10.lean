/- The nearest words: the reference's. -/
import Derived.Test.YtjadhhnajphibaaV9
import Derived.Test.YtjadhhnajphibaaW11
import Derived.Test.YtjadhhnajphibaaP2
set_option linter.unusedVariables false
set_option linter.unusedSimpArgs false
namespace Go.Proofs.Ytjadhhnajphibaa
open Go.RowKit Go.Proofs.YtjadhhnajphibaaW.PrintWords

theorem arrs_of_cells {w : World} {A : Option Addr} {n : Nat} {ss : List (List Int)} (hc : Cells w A (nums .u8 (flat ss))) (hn : ∀ f ∈ ss, f.length = n) (h0 : 0 < n) (hm : ss.length ≤ 9223372036854775807) : (Karr n).C w A ss.length ss := by
  refine ⟨rfl, hm, fun hpos => ?_⟩
  have hfl := flat_length hn
  have hlen : 0 < (nums .u8 (flat ss)).length := by rw [nums_length, hfl]; exact Nat.mul_pos hpos h0
  obtain ⟨ad, rfl, _⟩ := hc 0 _ (List.getElem?_eq_getElem hlen)
  refine ⟨_, rfl, fun j p hj => ?_⟩
  have hjl := (List.getElem?_eq_some_iff.1 hj).1
  have hp : rl ss j = p := by simp [rl, List.getD_eq_getElem?_getD, hj]
  have hpl : p.length = n := by rw [← hp]; have := hn (rl ss j) (by simp [rl, List.getD_eq_getElem?_getD, hjl]); exact this
  have hsz : (Karr n).sz = n := by simp [Kd.arr, Kd.int, Kd.scalar]
  refine ⟨nums .u8 p, by rw [nums_length, hpl, hsz], ⟨hpl, Kd.reps_scalar p⟩, fun i u hi => ?_⟩
  rw [hsz]
  have hil : i < p.length := by
    have := (List.getElem?_eq_some_iff.1 hi).1
    rwa [nums_length] at this
  have hget : (nums .u8 (flat ss))[j * n + i]? = some u := by
    have hseg := flat_seg hn hjl
    rw [hp] at hseg
    rw [← hseg] at hi
    simp only [nums, List.getElem?_map, List.getElem?_take, List.getElem?_drop] at hi ⊢
    rw [if_pos (by omega)] at hi
    exact hi
  obtain ⟨ad', e, h⟩ := hc _ _ hget
  cases e
  exact h
theorem see_read {w : World} {base : Nat} {e : TypeId} {v : Value} {fs : List (List Int)} {x : List Int} (hm : x.length ≤ 1048576) (h : w.ownsRow base e 6 v x.length (nums .u8 (flat (see fs x)))) :
    ∃ A c, v = .slice A (see fs x).length c ∧ (Karr 6).C w A (see fs x).length (see fs x) := by
  obtain ⟨A, c, hv, hc, hcells⟩ := own_cells h
  exact ⟨A, c, by rw [see_length]; exact hv, arrs_of_cells hcells (see_each fs x) (by omega) (by rw [see_length]; omega)⟩

/-- what is known of a code that is valid. -/
structure Good (fs ws : List (List Int)) : Prop where
  flags : GoodF fs
  words : ∀ i, i < ws.length → GoodW fs (rl ws i)
  many : ws.length ≤ 60
  len : ∀ i, i < ws.length → (rl ws i).length = (rl ws 0).length ∧ (rl ws i).length ≤ 8
theorem okC_good {fs ws : List (List Int)} (h : okC fs ws = true) (hf : ∀ k i, 0 ≤ rn (rl fs k) i) (hw : WBytes ws) : Good fs ws := by
  simp only [okC, Bool.and_eq_true, decide_eq_true_iff] at h
  obtain ⟨⟨⟨⟨h1, h2⟩, h3⟩, h4⟩, h5⟩ := h
  unfold wordsB at h5
  rw [allB_iff] at h5
  refine ⟨⟨fun k hk => allB_iff.1 h2 k hk, hf⟩, fun i hi j hj => ?_, h4, fun i hi => ?_⟩
  · have h6 := h5 i hi
    rw [Bool.and_eq_true] at h6
    unfold wordB at h6
    rw [Bool.and_eq_true, allB_iff] at h6
    have h7 := h6.1.2 j hj
    rw [decide_eq_true_iff, lim_lt] at h7
    exact ⟨(hw i j).1, h7.1⟩
  · have h6 := h5 i hi
    rw [Bool.and_eq_true] at h6
    unfold wordB at h6
    rw [Bool.and_eq_true, inB_iff] at h6
    have h8 := h6.2
    rw [decide_eq_true_iff] at h8
    exact ⟨h8, by omega⟩
def distD (fs ws : List (List Int)) (i k : Nat) : Int := (farS (see fs (rl ws i)) (see fs (rl ws k)) : Nat)
theorem farS_le {a b : List (List Int)} (h : ∀ s ∈ a, s.length = 6) : farS a b ≤ 6 * a.length := by
  refine farTo_le (fun i => ?_) _
  rcases Nat.lt_or_ge i a.length with hi | hi
  · exact Nat.le_of_eq (h _ (by simp [rl, List.getD_eq_getElem?_getD, hi]))
  · simp [rl, List.getD_eq_getElem?_getD, List.getElem?_eq_none hi]
def nwV (fs ws : List (List Int)) : Int × Int × Int × Int :=
  if okC fs ws then (if ws.length < 2 then (0, 0, 0, 6) else ((nOut (distD fs ws) ws.length ws.length).a, (nOut (distD fs ws) ws.length ws.length).b, (nOut (distD fs ws) ws.length ws.length).l, 0)) else (0, 0, 0, 1)
def tup4 (r : Int × Int × Int × Int) : Ending := .returned (.tuple #[.int .i64 r.1, .int .i64 r.2.1, .int .i64 r.2.2.1, .int .i64 r.2.2.2])

set_option maxRecDepth 100000 in
set_option maxHeartbeats 8000000 in
theorem NearestWordsS_ok (A : Option Addr) (c : Nat) (fs : List (List Int)) (A1 : Option Addr) (c1 : Nat) (ws : List (List Int)) (w : World) (hf : ∀ k i, 0 ≤ rn (rl fs k) i) (hx : WBytes ws)
    (h0 : (Karr 24).C w A fs.length fs) (h1 : (Kd.slice 5 (Kd.int .u8)).C w A1 ws.length ws) :
    Calls Try.prog 22 #[.agg #[.slice A fs.length c, .slice A1 ws.length c1]] w fun e w' => e = tup4 (nwV fs ws) ∧ Below w.heap.size w w' := by
  have hm1 : ws.length ≤ 9223372036854775807 := h1.2.1
  have hcc := heap_alloc_new w (.cells #[.slice A fs.length c, .slice A1 ws.length c1] 46)
  have hb0 := below_box w (.cells #[.slice A fs.length c, .slice A1 ws.length c1] 46)
  have HC0 := Lib.hid (l05Ok_ok w.heap.size A c fs A1 c1 ws _ hx hcc (C_below' h0 hb0) (C_below' h1 hb0))
  have HCC := Lib.hid hcc
  have HB0 := Lib.hid hb0
  have H0 := Lib.hid (C_below' h0 hb0)
  have H1 := Lib.hid (C_below' h1 hb0)
  have HV : Hid (nwV fs ws = if okC fs ws then (if ws.length < 2 then (0, 0, 0, 6) else ((nOut (distD fs ws) ws.length ws.length).a, (nOut (distD fs ws) ws.length ws.length).b, (nOut (distD fs ws) ws.length ws.length).l, 0)) else (0, 0, 0, 1)) := rfl
  have hgood := fun h => okC_good (fs := fs) (ws := ws) h hf hx
  clear hcc hb0 h0 h1 hf hx
  rcases hok : okC fs ws with _ | _
  · have HS := Lib.hid (show nwV fs ws = (0, 0, 0, 1) by rw [HV.out, hok]; rfl)
    rw [hok] at HC0
    clear HV hok hgood
    go_enter Try.func22, Try.ntmps22
    go_wp2_with (go_at_call 78; refine HC0.out.mono ?_; rintro e w' ⟨rfl, q, rfl⟩)
    refine bodyPost_ret (results_tmp4 rfl _ _ _) rfl ?_
    rw [HS.out]
    exact ⟨rfl, below_dN HB0.out _⟩
  · have HG := Lib.hid (hgood hok)
    rw [hok] at HC0 HV
    clear hok hgood
    by_cases h2 : ws.length < 2
    · have HS := Lib.hid (show nwV fs ws = (0, 0, 0, 6) by rw [HV.out, if_pos rfl, if_pos h2])
      have h2i : (ws.length : Int) < 2 := by omega
      clear HV
      go_enter Try.func22, Try.ntmps22
      go_wp2_with (go_at_call 78; refine HC0.out.mono ?_; rintro e w' ⟨rfl, q, rfl⟩)
      refine bodyPost_ret (results_tmp4 rfl _ _ _) rfl ?_
      rw [HS.out]
      exact ⟨rfl, below_dN HB0.out _⟩
    · have HS := Lib.hid (show nwV fs ws = ((nOut (distD fs ws) ws.length ws.length).a, (nOut (distD fs ws) ws.length ws.length).b, (nOut (distD fs ws) ws.length ws.length).l, 0) by rw [HV.out, if_pos rfl, if_neg h2])
      have h2i : ¬ (ws.length : Int) < 2 := by omega
      clear HV
      go_enter Try.func22, Try.ntmps22
      go_wp2_with (go_at_call 78; refine HC0.out.mono ?_; rintro e w' ⟨rfl, q, rfl⟩)
      have HB1 := Lib.hid (below_dN (Below.refl (w.alloc (.cells #[.slice A fs.length c, .slice A1 ws.length c1] 46)).heap.size (w.alloc (.cells #[.slice A fs.length c, .slice A1 ws.length c1] 46))) q)
      have hsz0 := size_box w (.cells #[.slice A fs.length c, .slice A1 ws.length c1] 46)
      generalize (w.alloc (.cells #[.slice A fs.length c, .slice A1 ws.length c1] 46)) = W0 at *
      generalize W0.drewN q = W1 at *
      clear HC0
      have hgc : w.heap.size < W0.heap.size := by omega
      have HSI := Lib.hid (fun (i : Nat) (W : World) (hi : i < ws.length) (h : Below W0.heap.size W0 W) => l05Sights_ok w.heap.size A c fs A1 c1 ws i W hi (by have := HG.out.many; omega) (by have := (HG.out.len i hi).2; omega) HG.out.flags (HG.out.words i hi) ((h.block _ hgc).trans HCC.out) (C_below' H0.out h) (C_below' H1.out h))
      have hlen60 : ws.length ≤ 60 := HG.out.many
      go_loopw [7, 8, 9, 10, 11, 12, 13] (fun va vb vl i _ _ _ wr => ∃ (k : Nat) (s : Near), k ≤ ws.length ∧ i = .int .i64 k ∧ va = .int .i64 s.a ∧ vb = .int .i64 s.b ∧ vl = .int .i64 s.l ∧ Hid (s = nOut (distD fs ws) ws.length k) ∧ Hid (Below W0.heap.size W0 wr)) (fun _ _ _ i _ _ _ _ => ws.length - (intOf i).toNat)
      case atStart => exact ⟨0, ⟨0, 0, -1⟩, Nat.zero_le _, rfl, rfl, rfl, rfl, rfl, HB1⟩
      case round =>
        clear HB1
        obtain ⟨i, ⟨a, b, l⟩, hi, rfl, rfl, rfl, rfl, HS1, HB⟩ := hrel
        by_cases hlt : i < ws.length
        · have hlti : (i : Int) < (ws.length : Int) := by omega
          go_wp2_with fail
          refine (HSI.out i _ hlt HB.out).mono ?_
          rintro e w1 ⟨v, rfl, hown, hb1⟩
          obtain ⟨A5, c5, rfl, hr5⟩ := see_read (by have := (HG.out.len i hlt).2; omega) hown
          have HR5 := Lib.hid hr5
          have HB1 := Lib.hid (HB.out.trans (hb1.mono HB.out.size))
          have hl5 : (see fs (rl ws i)).length ≤ 8 := by rw [see_length]; exact (HG.out.len i hlt).2
          clear hown hb1 hr5
          go_wp2
          go_loopw [7, 8, 9, 12, 13] (fun va vb vl k _ wr => ∃ (j : Nat) (s : Near), i < j ∧ j ≤ ws.length ∧ k = .int .i64 j ∧ va = .int .i64 s.a ∧ vb = .int .i64 s.b ∧ vl = .int .i64 s.l ∧ Hid (s = nIn (distD fs ws) i (nOut (distD fs ws) ws.length i) j) ∧ Hid (Below w1.heap.size w1 wr)) (fun _ _ _ k _ _ => ws.length - (intOf k).toNat)
          case atStart => exact ⟨i + 1, ⟨a, b, l⟩, by omega, by omega, by go_num, rfl, rfl, rfl, by rw [nIn_start _ _ _ _ (Nat.le_refl _)]; exact HS1, Below.refl _ _⟩
          case round =>
            obtain ⟨j, ⟨a, b, l⟩, hij, hj, rfl, rfl, rfl, rfl, HSJ, HBI⟩ := hrel
            by_cases hjn : j < ws.length
            · have hjni : (j : Int) < (ws.length : Int) := by omega
              go_wp2_with fail
              refine (HSI.out j _ hjn (HB1.out.trans (HBI.out.mono HB1.out.size))).mono ?_
              rintro e w2 ⟨v, rfl, hown, hb2⟩
              obtain ⟨A6, c6, rfl, hr6⟩ := see_read (by have := (HG.out.len j hjn).2; omega) hown
              have hb12 := HBI.out.trans (hb2.mono HBI.out.size)
              have HC6 := Lib.hid (l05Far_ok A5 c5 (see fs (rl ws i)) A6 c6 (see fs (rl ws j)) w2 (C_below' HR5.out hb12) hr6 (by rw [see_length, see_length, (HG.out.len i hlt).1, (HG.out.len j hjn).1]; omega) (by omega))
              have HB2 := Lib.hid hb12
              have hfar := farS_le (b := see fs (rl ws j)) (see_each fs (rl ws i))
              have hd : distD fs ws i j = (farS (see fs (rl ws i)) (see fs (rl ws j)) : Nat) := rfl
              have HD := Lib.hid hd
              clear hown hb2 hb12 hr6 hd
              generalize farS (see fs (rl ws i)) (see fs (rl ws j)) = d at *
              by_cases hl0 : l < 0
              · have hst := Lib.hid (nStep_yes (D := distD fs ws) (i := i) (k := j) (s := ⟨a, b, l⟩) (.inl hl0))
                go_wp2_with (go_at_call 80; refine HC6.out.mono ?_; rintro e w' ⟨rfl, q6, rfl⟩)
                go_roundw
                case rel =>
                  refine ⟨j + 1, ⟨i, j, d⟩, by omega, by omega, by go_num, rfl, rfl, rfl, ?_, below_dN HB2.out _⟩
                  show _ = _
                  rw [nIn_step _ _ _ _ hij, ← HSJ.out, hst.out, HD.out]
                case measure => first|(simp [intOf]; done)|(simp [intOf]; omega)
              · by_cases hdl : (d : Int) < l
                · have hst := Lib.hid (nStep_yes (D := distD fs ws) (i := i) (k := j) (s := ⟨a, b, l⟩) (.inr (by rw [HD.out]; exact hdl)))
                  go_wp2_with (go_at_call 80; refine HC6.out.mono ?_; rintro e w' ⟨rfl, q6, rfl⟩)
                  go_roundw
                  case rel =>
                    refine ⟨j + 1, ⟨i, j, d⟩, by omega, by omega, by go_num, rfl, rfl, rfl, ?_, below_dN HB2.out _⟩
                    show _ = _
                    rw [nIn_step _ _ _ _ hij, ← HSJ.out, hst.out, HD.out]
                  case measure => first|(simp [intOf]; done)|(simp [intOf]; omega)
                · have hst := Lib.hid (nStep_no (D := distD fs ws) (i := i) (k := j) (s := ⟨a, b, l⟩) (by rw [HD.out]; simp only; omega))
                  go_wp2_with (go_at_call 80; refine HC6.out.mono ?_; rintro e w' ⟨rfl, q6, rfl⟩)
                  go_roundw
                  case rel =>
                    refine ⟨j + 1, ⟨a, b, l⟩, by omega, by omega, by go_num, rfl, rfl, rfl, ?_, below_dN HB2.out _⟩
                    show _ = _
                    rw [nIn_step _ _ _ _ hij, ← HSJ.out, hst.out]
                  case measure => first|(simp [intOf]; done)|(simp [intOf]; omega)
            · obtain rfl : j = ws.length := by omega
              go_wp2
              go_roundw
              case rel => exact ⟨i + 1, ⟨a, b, l⟩, by omega, by go_num, rfl, rfl, rfl, HSJ, HB1.out.trans (HBI.out.mono HB1.out.size)⟩
              case measure => first|(simp [intOf]; done)|(simp [intOf]; omega)
        · obtain rfl : i = ws.length := by omega
          go_wp2
          refine bodyPost_ret (results_tmp4 rfl _ _ _) rfl ?_
          rw [HS.out, ← HS1.out]
          exact ⟨rfl, HB0.out.trans (HB.out.mono (by omega))⟩
end Go.Proofs.Ytjadhhnajphibaa
