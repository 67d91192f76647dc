/- Contracts of functions and plain lemmas that the row stands on: The codes of lists of words; the nearest pair. The nearest pair; how far words are apart. How far words are apart; words that are decoded. Words that are decoded: the reference. The bound of the spheres. No conditions beyond those that each theorem names. -/
import Derived.Test.YtjadhhnajphibaaGC5
import Derived.Test.YtjadhhnajphibaaGC2
set_option linter.unusedVariables false
set_option linter.unusedSimpArgs false
namespace Go.Proofs.Ytjadhhnajphibaa
open Go.RowKit Go.Proofs.YtjadhhnajphibaaW.PrintWords

/-- the first of two codes that is not 0. -/
def firstV (a b : Int) : Int := if a != 0 then a else b
theorem firstV_0 {a b : Int} (h : (a != 0) = true) : firstV a b = a := by simp [firstV, h]
theorem firstV_1 {a b : Int} (h : (a != 0) = false) : firstV a b = b := by simp [firstV, h]
theorem firstV_2 {a b : Int} (h : (a != 0) = false) (h' : (b != 0) = false) : firstV a b = 0 := by rw [firstV_1 h]; simpa using h'
def pick2 (a b : Int) (k : Nat) : Int := if k = 0 then a else b
theorem firstOf2_ok (B : Nat) (c : Nat) (a b : Int) (w : World) (h0 : w.cell? ⟨B, 0, none⟩ = some (.int .i64 a)) (h1 : w.cell? ⟨B, 1, none⟩ = some (.int .i64 b)) :
    Calls Try.prog 51 #[.slice (some ⟨B, 0, none⟩) 2 c] w fun e w' => e = .returned (.int .i64 (firstV a b)) ∧ w = w' := by
  have HF : Hid (∀ k : Nat, k < 2 → w.cell? ⟨B, k, none⟩ = some (.int .i64 (pick2 a b k))) := by
    intro k hk
    rcases k with _ | _ | k
    · exact h0
    · exact h1
    · omega
  clear h0 h1
  go_enter Try.func51, Try.ntmps51
  go_wp2
  go_loop [7] (fun i => ∃ k : Nat, k ≤ 2 ∧ i = .int .i64 k ∧ Hid (∀ j, j < k → (pick2 a b j != 0) = false)) (fun i => 2 - (intOf i).toNat)
  case atStart => exact ⟨0, by omega, rfl, fun j h => absurd h (by omega)⟩
  case round =>
    obtain ⟨k, hk, rfl, Ha⟩ := hrel
    by_cases hlt : k < 2
    · have hc := HF.out k hlt
      have hlti : (k : Int) < 2 := by omega
      rcases hq : (pick2 a b k != 0) with _ | _
      · have HQ := Lib.hid hq
        go_wp2
        go_round
        case rel =>
          refine ⟨k + 1, by omega, by go_num, fun j hj => ?_⟩
          by_cases e : j = k
          · rw [e]; exact HQ.out
          · exact Ha.out j (by omega)
        case measure => first|(simp [intOf]; done)|(simp [intOf]; omega)
      · have HS : Hid (pick2 a b k = firstV a b) := by
          rcases k with _ | _ | k
          · exact (firstV_0 hq).symm
          · exact (firstV_1 (Ha.out 0 (by omega))).symm
          · omega
        go_wp2
        go_ret
        exact ⟨ret_int HS.out, rfl⟩
    · obtain rfl : k = 2 := by omega
      have HS := Lib.hid (firstV_2 (Ha.out 0 (by omega)) (Ha.out 1 (by omega)))
      go_wp2
      go_ret
      exact ⟨ret_int HS.out.symm, rfl⟩

theorem catTo_two (cs : Nat → List Value) : catTo cs 2 = cs 0 ++ cs 1 := by simp [catTo]
theorem sumTo_two (f : Nat → Nat) : sumTo f 2 = f 0 + f 1 := by simp [sumTo]
theorem rl_append_left {α : Type} {xs ys : List (List α)} {k : Nat} (h : k < xs.length) : rl (xs ++ ys) k = rl xs k := by simp [rl, List.getD_eq_getElem?_getD, List.getElem?_append_left h]
theorem rl_append_right {α : Type} {xs ys : List (List α)} {k : Nat} (h : xs.length ≤ k) : rl (xs ++ ys) k = rl ys (k - xs.length) := by simp [rl, List.getD_eq_getElem?_getD, List.getElem?_append_right h]

/-- the code of a list of words, with others. -/
def wordsV (xss yss : List (List Int)) : Int := if wordsB (xss ++ yss) 37 then unlessV (decide (xss.length ≤ 60)) 3 else 1
theorem WBytes_append {xs ys : List (List Int)} (h : WBytes xs) (h' : WBytes ys) : WBytes (xs ++ ys) := by
  intro i
  by_cases hi : i < xs.length
  · rw [rl_append_left hi]; exact h i
  · rw [rl_append_right (by omega)]; exact h' _

/-- rows of rows, cell by cell. -/
theorem row_cells {α : Type} {d : Kd α} {w : World} {t : Nat} {A : Option Addr} {xss : List (List α)} (h : (Kd.slice t d).C w A xss.length xss) :
    ∃ cs : List Value, cs.length = xss.length ∧ Cells w A cs ∧ (∀ u ∈ cs, u.oneCell' = true) ∧ ∀ k, k < xss.length → ∃ A1 c1, cs[k]? = some (.slice A1 (rl xss k).length c1) ∧ (rl xss k).length ≤ c1 ∧ d.C w A1 (rl xss k).length (rl xss k) := by
  obtain ⟨ac, hraw, hrow⟩ := raw_row h
  refine ⟨_, by simp, cells_of_raw hraw, fun u hu => ?_, fun k hk => ⟨(ac k).1, (ac k).2, by simp [hk], hrow k hk⟩⟩
  obtain ⟨k, _, rfl⟩ := List.mem_map.1 hu
  rfl

set_option maxHeartbeats 2000000 in
theorem wordsCode_ok (A0 : Option Addr) (c0 : Nat) (xss : List (List Int)) (A1 : Option Addr) (c1 : Nat) (yss : List (List Int)) (w : World) (hx : WBytes xss) (hy : WBytes yss) (hn : xss.length + yss.length ≤ 1000000000000)
    (h0 : (Kd.slice 5 (Kd.int .u8)).C w A0 xss.length xss) (h1 : (Kd.slice 5 (Kd.int .u8)).C w A1 yss.length yss) :
    Calls Try.prog 69 #[.slice A0 xss.length c0, .slice A1 yss.length c1] w fun e w' => e = .returned (.int .i64 (wordsV xss yss)) ∧ Below w.heap.size w w' := by
  obtain ⟨cs0, hl0, hc0, ho0, hk0⟩ := row_cells h0
  obtain ⟨cs1, hl1, hc1, ho1, hk1⟩ := row_cells h1
  clear h0 h1
  have hb := below_box w (.cells #[.slice A0 xss.length c0, .slice A1 yss.length c1] 25)
  have HCC : Hid (Calls Try.prog 106 #[.slice (some ⟨w.heap.size, 0, none⟩) 2 2] (w.alloc (.cells #[.slice A0 xss.length c0, .slice A1 yss.length c1] 25)) fun e w' =>
      ∃ A c, e = .returned (.slice A (xss ++ yss).length c) ∧ (Kd.slice 5 (Kd.int .u8)).C w' A (xss ++ yss).length (xss ++ yss) ∧ Below w.heap.size w w') := by
    refine (ConcatW_ok (some ⟨w.heap.size, 0, none⟩) 2 2 (fun k => if k = 0 then A0 else A1) (fun k => if k = 0 then xss.length else yss.length) (fun k => if k = 0 then c0 else c1) (fun k => if k = 0 then cs0 else cs1) _ ⟨by omega, ?_⟩ ?_ (by rw [sumTo_two]; simpa using hn)).mono ?_
    · intro k hk
      refine ⟨_, rfl, ?_⟩
      rw [add_plain, World.cell?_alloc_new]
      rcases k with _ | _ | k
      · rfl
      · rfl
      · omega
    · intro k hk
      rcases k with _ | k
      · exact ⟨by simpa using hl0, hc0.below hb, ho0⟩
      · exact ⟨by simpa using hl1, hc1.below hb, ho1⟩
    · rintro e w' ⟨v, rfl, hown, hb'⟩
      rw [sumTo_two, catTo_two] at hown
      simp only [if_true, if_false, Nat.one_ne_zero] at hown
      have hb2 := hb.trans (hb'.mono hb.size)
      obtain ⟨A, c, rfl, _, hcell⟩ := own_cells hown
      rw [show xss.length + yss.length = (xss ++ yss).length from by rw [List.length_append]]
      refine ⟨A, c, rfl, C_of_cells rfl (by rw [List.length_append]; omega) hcell fun k hk => ?_, hb2⟩
      by_cases hlt : k < xss.length
      · obtain ⟨A2, c2, e1, e2, e3⟩ := hk0 k hlt
        rw [rl_append_left hlt]
        exact ⟨A2, c2, by rw [List.getElem?_append_left (by omega)]; exact e1, e2, C_below' e3 hb2⟩
      · obtain ⟨A2, c2, e1, e2, e3⟩ := hk1 (k - xss.length) (by rw [List.length_append] at hk; omega)
        rw [rl_append_right (by omega)]
        exact ⟨A2, c2, by rw [List.getElem?_append_right (by omega), hl0]; exact e1, e2, C_below' e3 hb2⟩
  have HX := Lib.hid (WBytes_append hx hy)
  have hm : xss.length ≤ 9223372036854775807 := by omega
  have HCV : Hid (∀ A c W, (Kd.slice 5 (Kd.int .u8)).C W A (xss ++ yss).length (xss ++ yss) → Calls Try.prog 98 #[.slice A (xss ++ yss).length c, .int .i64 37] W fun e w' => e = .returned (.bool (wordsB (xss ++ yss) 37)) ∧ Below W.heap.size W w') := fun A c W h => areWords_ok A c _ 37 W HX.out h
  clear hc0 hc1 ho0 ho1 hk0 hk1 hl0 hl1 hb hx hy
  have HV : Hid (wordsV xss yss = if wordsB (xss ++ yss) 37 then unlessV (decide (xss.length ≤ 60)) 3 else 1) := rfl
  generalize hzz : xss ++ yss = zss at HCC HX HCV HV
  clear hzz
  rcases hv : wordsB zss 37 with _ | _
  · have HS := Lib.hid (show wordsV xss yss = 1 by rw [HV.out, hv]; rfl)
    rw [hv] at HCV
    clear hv
    go_enter Try.func69, Try.ntmps69
    go_wp2_with fail
    refine HCC.out.mono ?_
    rintro e w1 ⟨A, c, rfl, hC, hb1⟩
    have H1 := Lib.hid hC
    have HB1 := Lib.hid hb1
    clear hC hb1
    go_wp2_with fail
    refine (HCV.out A c w1 H1.out).mono ?_
    rintro e w2 ⟨rfl, hb2⟩
    go_wp2_with fail
    go_ret
    exact ⟨ret_int HS.out.symm, HB1.out.trans (hb2.mono HB1.out.size)⟩
  · rw [hv] at HCV
    have HS := Lib.hid (show wordsV xss yss = unlessV (decide ((xss.length : Int) ≤ 60)) 3 by
      rw [HV.out, hv, if_pos rfl]
      congr 1
      rw [Bool.eq_iff_iff]
      simp
      omega)
    clear hv
    go_enter Try.func69, Try.ntmps69
    go_wp2_with fail
    refine HCC.out.mono ?_
    rintro e w1 ⟨A, c, rfl, hC, hb1⟩
    have H1 := Lib.hid hC
    have HB1 := Lib.hid hb1
    clear hC hb1
    go_wp2_with fail
    refine (HCV.out A c w1 H1.out).mono ?_
    rintro e w2 ⟨rfl, hb2⟩
    go_wp2_with (go_at_call 53; refine (unless_ok _ _ _).mono ?_; rintro e w' ⟨rfl, rfl⟩)
    go_ret
    exact ⟨ret_int HS.out.symm, HB1.out.trans (hb2.mono HB1.out.size)⟩
end Go.Proofs.Ytjadhhnajphibaa
namespace Go.Proofs.Ytjadhhnajphibaa
open Go.RowKit Go.Proofs.YtjadhhnajphibaaW.PrintWords

/-- the pair that is the nearest so far, and how far it is apart (-1: none). -/
structure Near where
  a : Int
  b : Int
  l : Int
def nStep (D : Nat → Nat → Int) (i k : Nat) (s : Near) : Near := if s.l < 0 ∨ D i k < s.l then ⟨i, k, D i k⟩ else s
def nIn (D : Nat → Nat → Int) (i : Nat) (s : Near) : Nat → Near
  | 0 => s
  | k + 1 => if i < k then nStep D i k (nIn D i s k) else nIn D i s k
def nOut (D : Nat → Nat → Int) (n : Nat) : Nat → Near
  | 0 => ⟨0, 0, -1⟩
  | i + 1 => nIn D i (nOut D n i) n
theorem nIn_start (D : Nat → Nat → Int) (i : Nat) (s : Near) : ∀ k, k ≤ i + 1 → nIn D i s k = s
  | 0, _ => rfl
  | k + 1, h => by rw [nIn, if_neg (by omega), nIn_start D i s k (by omega)]
theorem nIn_step (D : Nat → Nat → Int) (i k : Nat) (s : Near) (h : i < k) : nIn D i s (k + 1) = nStep D i k (nIn D i s k) := by rw [nIn, if_pos h]
theorem nStep_yes {D : Nat → Nat → Int} {i k : Nat} {s : Near} (h : s.l < 0 ∨ D i k < s.l) : nStep D i k s = ⟨i, k, D i k⟩ := by rw [nStep, if_pos h]
theorem nStep_no {D : Nat → Nat → Int} {i k : Nat} {s : Near} (h : ¬ (s.l < 0 ∨ D i k < s.l)) : nStep D i k s = s := by rw [nStep, if_neg h]

def PairB (P : Program) (g : Nat) (lb : Array Value) (n : Nat) (D : Nat → Nat → Int) (w : World) : Prop :=
  ∀ (i k : Nat) (W : World), i < k → k < n → Below w.heap.size w W → Calls P g (#[.int .i64 i, .int .i64 k] ++ lb) W fun e w' => e = .returned (.int .i64 (D i k)) ∧ Below W.heap.size W w'

set_option maxHeartbeats 4000000 in
theorem nearest_ok (g : Nat) (lb : Array Value) (eg : ∀ args w, (callFunc g args).run Try.prog w = .ok (.enter g args) w) (n : Nat) (hn : n ≤ 1000000) (D : Nat → Nat → Int) (w : World) (hp : PairB Try.prog g lb n D w) :
    Calls Try.prog 70 #[.int .i64 n, .func (.func g) #[] lb] w fun e w' => e = .returned (.tuple #[.int .i64 (nOut D n n).a, .int .i64 (nOut D n n).b, .int .i64 (nOut D n n).l, .bool (decide (0 ≤ (nOut D n n).l))]) ∧ Below w.heap.size w w' := by
  have HP := Lib.hid hp
  clear hp
  go_enter Try.func70, Try.ntmps70
  go_wp2
  go_loopw [8, 9, 10, 15] (fun va vb vl i wr => ∃ (k : Nat) (s : Near), k ≤ n ∧ i = .int .i64 k ∧ va = .int .i64 s.a ∧ vb = .int .i64 s.b ∧ vl = .int .i64 s.l ∧ Hid (s = nOut D n k) ∧ Hid (Below w.heap.size w wr)) (fun _ _ _ i _ => n - (intOf i).toNat)
  case atStart => exact ⟨0, ⟨0, 0, -1⟩, Nat.zero_le _, rfl, rfl, rfl, rfl, rfl, Below.refl _ _⟩
  case round =>
    obtain ⟨i, ⟨a, b, l⟩, hi, rfl, rfl, rfl, rfl, HS, HB⟩ := hrel
    by_cases hlt : i < n
    · have hlti : (i : Int) < (n : Int) := by omega
      go_wp2
      obtain ⟨wo, rfl⟩ : ∃ wo : World, wo = wr := ⟨_, rfl⟩
      go_loopw [8, 9, 10, 12] (fun va vb vl k wr => ∃ (j : Nat) (s : Near), i < j ∧ j ≤ n ∧ k = .int .i64 j ∧ va = .int .i64 s.a ∧ vb = .int .i64 s.b ∧ vl = .int .i64 s.l ∧ Hid (s = nIn D i (nOut D n i) j) ∧ Hid (Below w.heap.size w wr)) (fun _ _ _ k _ => n - (intOf k).toNat)
      case atStart => exact ⟨i + 1, ⟨a, b, l⟩, by omega, by omega, by go_num, rfl, rfl, rfl, by rw [nIn_start _ _ _ _ (Nat.le_refl _)]; exact HS, HB⟩
      case round =>
        obtain ⟨j, ⟨a, b, l⟩, hij, hj, rfl, rfl, rfl, rfl, HSI, HBI⟩ := hrel
        by_cases hjn : j < n
        · have hjni : (j : Int) < (n : Int) := by omega
          have hcall := HP.out i j wr hij hjn HBI.out
          generalize hd : D i j = d at hcall
          have HD := Lib.hid hd
          clear hd
          have HC := Lib.hid hcall
          clear hcall
          by_cases hl0 : l < 0
          · have hst := Lib.hid (nStep_yes (D := D) (i := i) (k := j) (s := ⟨a, b, l⟩) (.inl hl0))
            go_wp2_with (go_at_fn g; refine HC.out.mono ?_; rintro e w' ⟨rfl, hb'⟩)
            go_roundw
            case rel =>
              refine ⟨j + 1, ⟨i, j, d⟩, by omega, by omega, by go_num, rfl, rfl, rfl, ?_, HBI.out.trans (hb'.mono HBI.out.size)⟩
              show _ = _
              rw [nIn_step _ _ _ _ hij, ← HSI.out, hst.out, HD.out]
            case measure => first|(simp [intOf]; done)|(simp [intOf]; omega)
          · by_cases hdl : d < l
            · have hst := Lib.hid (nStep_yes (D := D) (i := i) (k := j) (s := ⟨a, b, l⟩) (.inr (by rw [HD.out]; exact hdl)))
              go_wp2_with (go_at_fn g; refine HC.out.mono ?_; rintro e w' ⟨rfl, hb'⟩)
              go_roundw
              case rel =>
                refine ⟨j + 1, ⟨i, j, d⟩, by omega, by omega, by go_num, rfl, rfl, rfl, ?_, HBI.out.trans (hb'.mono HBI.out.size)⟩
                show _ = _
                rw [nIn_step _ _ _ _ hij, ← HSI.out, hst.out, HD.out]
              case measure => first|(simp [intOf]; done)|(simp [intOf]; omega)
            · have hst := Lib.hid (nStep_no (D := D) (i := i) (k := j) (s := ⟨a, b, l⟩) (by rw [HD.out]; simp only; omega))
              go_wp2_with (go_at_fn g; refine HC.out.mono ?_; rintro e w' ⟨rfl, hb'⟩)
              go_roundw
              case rel =>
                refine ⟨j + 1, ⟨a, b, l⟩, by omega, by omega, by go_num, rfl, rfl, rfl, ?_, HBI.out.trans (hb'.mono HBI.out.size)⟩
                show _ = _
                rw [nIn_step _ _ _ _ hij, ← HSI.out, hst.out]
              case measure => first|(simp [intOf]; done)|(simp [intOf]; omega)
        · obtain rfl : j = n := by omega
          go_wp2
          go_roundw
          case rel => exact ⟨i + 1, ⟨a, b, l⟩, by omega, by go_num, rfl, rfl, rfl, HSI, HBI⟩
          case measure => first|(simp [intOf]; done)|(simp [intOf]; omega)
    · obtain rfl : i = n := by omega
      go_wp2
      refine bodyPost_ret (results_tmp4 rfl _ _ _) rfl ?_
      rw [← HS.out]
      exact ⟨rfl, HB.out⟩
end Go.Proofs.Ytjadhhnajphibaa
namespace Go.Proofs.Ytjadhhnajphibaa
open Go.RowKit Go.Proofs.YtjadhhnajphibaaW.PrintWords

def pairD (xss : List (List Int)) (i k : Nat) : Int := (diffs (rl xss i) (rl xss k) : Nat)
theorem C_none {α : Type} {d : Kd α} (w : World) : d.C w none 0 [] := ⟨rfl, by omega, fun h => absurd h (by omega)⟩

set_option maxHeartbeats 2000000 in
theorem LeastApart1_ok (A : Option Addr) (c : Nat) (xss : List (List Int)) (i k : Nat) (B1 : Nat) (w : World) (h0 : (Kd.slice 5 (Kd.int .u8)).C w A xss.length xss) (hb1 : w.cell? ⟨B1, 0, none⟩ = some (.slice A xss.length c)) (hi : i < xss.length) (hk : k < xss.length) (hl : (rl xss i).length ≤ (rl xss k).length) :
    Calls Try.prog 71 #[.int .i64 i, .int .i64 k, .pointer (some ⟨B1, 0, none⟩)] w fun e w' => e = .returned (.int .i64 (pairD xss i k)) ∧ ∃ q, w' = w.drewN q := by
  have hm : xss.length ≤ 9223372036854775807 := h0.2.1
  obtain ⟨ad, A1, c1, rfl, hx1, hl1, hr1⟩ := at_row h0 hi
  obtain ⟨_, A2, c2, e2, hx2, hl2, hr2⟩ := at_row h0 hk
  cases e2
  have hcall : ∀ n, Calls Try.prog 60 #[.slice A1 (rl xss i).length c1, .slice A2 (rl xss k).length c2] (w.drewN n) fun e w' => e = .returned (.int .i64 (pairD xss i k)) ∧ w.drewN n = w' := fun n => unlike_ok A1 c1 _ A2 c2 _ _ hr1 hr2 hl
  have HC := Lib.hid hcall
  have hii : (i : Int) < (xss.length : Int) := by omega
  have hki : (k : Int) < (xss.length : Int) := by omega
  have hm1 : (rl xss i).length ≤ 9223372036854775807 := hr1.2.1
  have hm2 : (rl xss k).length ≤ 9223372036854775807 := hr2.2.1
  clear hcall h0 hr1 hr2 hl
  go_enter Try.func71, Try.ntmps71
  go_wp2
  go_quiet ((go_at_call 60; first | exact quiet_add_same (HC.out _) | exact quiet_same (HC.out _)))
  go_wp2
  go_ret
  exact ⟨rfl, _, rfl⟩

theorem wordsB_len {xss : List (List Int)} {q : Int} (h : wordsB xss q = true) {i : Nat} (hi : i < xss.length) : (rl xss i).length = (rl xss 0).length := by
  have := allB_iff.1 h i hi
  simp only [Bool.and_eq_true, decide_eq_true_iff] at this
  exact this.2

/-- the least distance of two words, and the code. -/
def leastV (xss : List (List Int)) : Int × Int := if 0 ≤ (nOut (pairD xss) xss.length xss.length).l then ((nOut (pairD xss) xss.length xss.length).l, 0) else (0, 6)

set_option maxHeartbeats 2000000 in
theorem LeastApart_ok (A : Option Addr) (c : Nat) (xss : List (List Int)) (w : World) (hx : WBytes xss) (hv : wordsB xss 37 = true) (hn : xss.length ≤ 60) (h0 : (Kd.slice 5 (Kd.int .u8)).C w A xss.length xss) :
    Calls Try.prog 16 #[.slice A xss.length c] w fun e w' => e = .returned (.tuple #[.int .i64 (leastV xss).1, .int .i64 (leastV xss).2]) ∧ Below w.heap.size w w' := by
  have hb0 := below_box w (.cells #[.slice A xss.length c] 25)
  have HW : Hid (Calls Try.prog 69 #[.slice A xss.length c, .slice none 0 0] (w.alloc (.cells #[.slice A xss.length c] 25)) fun e w' => e = .returned (.int .i64 0) ∧ Below (w.alloc (.cells #[.slice A xss.length c] 25)).heap.size (w.alloc (.cells #[.slice A xss.length c] 25)) w') := by
    have := wordsCode_ok A c xss none 0 [] (w.alloc (.cells #[.slice A xss.length c] 25)) hx (fun i j => by simp [rl, rn]) (by simp; omega) (C_below' h0 hb0) (C_none _)
    rwa [show wordsV xss [] = 0 by rw [wordsV, List.append_nil, hv]; simp [hn, unlessV]] at this
  have hcell := cell_box w (.slice A xss.length c) 25
  have hsz := size_box w (.cells #[.slice A xss.length c] 25)
  generalize hW0 : w.alloc (.cells #[.slice A xss.length c] 25) = W0 at *
  have HN : Hid (∀ W, Below W0.heap.size W0 W → Calls Try.prog 70 #[.int .i64 xss.length, .func (.func 71) #[] #[.pointer (some ⟨w.heap.size, 0, none⟩)]] W fun e w' => e = .returned (.tuple #[.int .i64 (nOut (pairD xss) xss.length xss.length).a, .int .i64 (nOut (pairD xss) xss.length xss.length).b, .int .i64 (nOut (pairD xss) xss.length xss.length).l, .bool (decide (0 ≤ (nOut (pairD xss) xss.length xss.length).l))]) ∧ Below W.heap.size W w') := by
    intro W hW
    have eg : ∀ args w, (callFunc 71 args).run Try.prog w = .ok (.enter 71 args) w := enters_of Try.func71 (by kernel_rfl) rfl
    refine nearest_ok _ _ eg xss.length (by omega) (pairD xss) W fun i k W' hik hk hW' => ?_
    have hbb := hW.trans (hW'.mono hW.size)
    refine (LeastApart1_ok A c xss i k w.heap.size W' (C_below' h0 (hb0.trans (hbb.mono hb0.size))) ((hbb.cell (p := ⟨w.heap.size, 0, none⟩) (by rw [hsz]; show w.heap.size < _; omega)).trans hcell) (by omega) hk (by rw [wordsB_len hv (show i < xss.length by omega), wordsB_len hv hk]; omega)).mono ?_
    rintro e w' ⟨he, q, rfl⟩
    exact ⟨he, below_dN (Below.refl _ _) _⟩
  have HV : Hid (leastV xss = if 0 ≤ (nOut (pairD xss) xss.length xss.length).l then ((nOut (pairD xss) xss.length xss.length).l, 0) else (0, 6)) := rfl
  generalize nOut (pairD xss) xss.length xss.length = s at HN HV
  obtain ⟨sa, sb, sl⟩ := s
  have HB0 := Lib.hid hb0
  have HC0 := Lib.hid (show ∀ W, Below W0.heap.size W0 W → W.cell? ⟨w.heap.size, 0, none⟩ = some (.slice A xss.length c) from fun W hW => (hW.cell (p := ⟨w.heap.size, 0, none⟩) (by rw [hsz]; show w.heap.size < _; omega)).trans hcell)
  have hm : xss.length ≤ 9223372036854775807 := by omega
  have HSZ := Lib.hid hsz
  clear hx hv h0 hb0 hsz
  rcases hd : decide (0 ≤ sl) with _ | _
  all_goals simp only [hd] at HN
  rotate_left
  · have hs : 0 ≤ sl := of_decide_eq_true hd
    have HS := Lib.hid (show leastV xss = (sl, 0) by rw [HV.out]; simp [hs])
    clear hd
    go_enter Try.func16, Try.ntmps16
    go_wp2_with fail
    refine HW.out.mono ?_
    rintro e w1 ⟨rfl, hb1⟩
    have hc1 := HC0.out w1 hb1
    have HN1 := Lib.hid (HN.out w1 hb1)
    have HB1 := Lib.hid hb1
    clear hb1 hW0
    go_wp2_with fail
    refine HN1.out.mono ?_
    rintro e w2 ⟨rfl, hb2⟩
    have HB2 := Lib.hid (HB0.out.trans ((HB1.out.trans (hb2.mono HB1.out.size)).mono HB0.out.size))
    clear hb2
    go_wp2_with fail
    go_ret2
    exact ⟨by rw [HS.out]; rfl, HB2.out⟩
  · have hs : ¬ 0 ≤ sl := of_decide_eq_false hd
    have HS := Lib.hid (show leastV xss = (0, 6) by rw [HV.out]; simp [hs])
    clear hd hs
    go_enter Try.func16, Try.ntmps16
    go_wp2_with fail
    refine HW.out.mono ?_
    rintro e w1 ⟨rfl, hb1⟩
    have hc1 := HC0.out w1 hb1
    have HN1 := Lib.hid (HN.out w1 hb1)
    have HB1 := Lib.hid hb1
    clear hb1 hW0
    go_wp2_with fail
    refine HN1.out.mono ?_
    rintro e w2 ⟨rfl, hb2⟩
    have HB2 := Lib.hid (HB0.out.trans ((HB1.out.trans (hb2.mono HB1.out.size)).mono HB0.out.size))
    clear hb2
    go_wp2_with fail
    go_ret2
    exact ⟨by rw [HS.out]; rfl, HB2.out⟩

/-- which words of a list are near; the last one of them. -/
def nearP (xss : List (List Int)) (ys : List Int) (d : Int) (i : Nat) : Bool := decide ((diffs (rl xss i) ys : Int) ≤ d)
def lastTo (p : Nat → Bool) : Nat → Int
  | 0 => 0
  | n + 1 => if p n then n else lastTo p n
theorem lastTo_yes {p : Nat → Bool} {n : Nat} (h : p n = true) : lastTo p (n + 1) = n := by simp [lastTo, h]
theorem lastTo_no {p : Nat → Bool} {n : Nat} (h : p n = false) : lastTo p (n + 1) = lastTo p n := by simp [lastTo, h]
theorem cnt_yes {p : Nat → Bool} {n : Nat} (h : p n = true) : cnt p (n + 1) = cnt p n + 1 := by simp [cnt, h]
theorem cnt_no {p : Nat → Bool} {n : Nat} (h : p n = false) : cnt p (n + 1) = cnt p n := by simp [cnt, h]
theorem cnt_mono {p : Nat → Bool} {k n : Nat} (h : k ≤ n) : cnt p k ≤ cnt p n := by
  induction n with
  | zero => have : k = 0 := by omega
            subst this; exact Nat.le_refl _
  | succ n ih =>
    by_cases e : k = n + 1
    · subst e; exact Nat.le_refl _
    · exact Nat.le_trans (ih (by omega)) (Nat.le_add_right _ _)
theorem lastTo_range {p : Nat → Bool} {n : Nat} : 0 ≤ lastTo p n := by
  induction n with
  | zero => simp [lastTo]
  | succ n ih => unfold lastTo; split <;> omega
/-- the word that is decoded, and the code. -/
def decP (p : Nat → Bool) (n : Nat) : Int × Int := if cnt p n = 0 then (0, 6) else if cnt p n = 1 then (lastTo p n, 0) else (0, 8)

set_option maxHeartbeats 2000000 in
theorem DecodeWord_ok (A : Option Addr) (c : Nat) (xss : List (List Int)) (A1 : Option Addr) (c1 : Nat) (ys : List Int) (d : Int) (w : World) (hx : WBytes xss) (hy : Bytes ys) (hv : wordsB (xss ++ [ys]) 37 = true) (hn : xss.length ≤ 60) (hd : 0 ≤ d) (hd' : d ≤ 8)
    (h0 : (Kd.slice 5 (Kd.int .u8)).C w A xss.length xss) (h1 : (Kd.int .u8).C w A1 ys.length ys) (hlc1 : ys.length ≤ c1) :
    Calls Try.prog 18 #[.slice A xss.length c, .slice A1 ys.length c1, .int .i64 d] w fun e w' => e = .returned (.tuple #[.int .i64 (decP (nearP xss ys d) xss.length).1, .int .i64 (decP (nearP xss ys d) xss.length).2]) ∧ Below w.heap.size w w' := by
  have hm : xss.length ≤ 9223372036854775807 := by omega
  have hm1 : ys.length ≤ 9223372036854775807 := h1.2.1
  have hlen : ∀ i, i < xss.length → (rl xss i).length = ys.length := fun i hi => by
    have e1 := wordsB_len hv (i := i) (by simp; omega)
    have e2 := wordsB_len hv (i := xss.length) (by simp)
    rw [rl_append_left hi] at e1
    rw [rl_append_right (Nat.le_refl _)] at e2
    rw [show rl [ys] (xss.length - xss.length) = ys by simp [rl]] at e2
    rw [e1, ← e2]
  have hb0 := below_box w (.cells #[.slice A1 ys.length c1] 32)
  have HW : Hid (Calls Try.prog 69 #[.slice A xss.length c, .slice (some ⟨w.heap.size, 0, none⟩) 1 1] (w.alloc (.cells #[.slice A1 ys.length c1] 32)) fun e w' => e = .returned (.int .i64 0) ∧ Below (w.alloc (.cells #[.slice A1 ys.length c1] 32)).heap.size (w.alloc (.cells #[.slice A1 ys.length c1] 32)) w') := by
    have hC1 : (Kd.slice 5 (Kd.int .u8)).C (w.alloc (.cells #[.slice A1 ys.length c1] 32)) (some ⟨w.heap.size, 0, none⟩) [ys].length [ys] := by
      refine C_of_cells (cs := [.slice A1 ys.length c1]) rfl (by simp) (fun j u hu => ?_) (fun k hk => ?_)
      · rcases j with _ | j
        · have : u = .slice A1 ys.length c1 := by simpa using hu.symm
          exact ⟨_, rfl, by rw [Addr.add_zero', this]; exact cell_box _ _ _⟩
        · simp at hu
      · have : k = 0 := by simp at hk; omega
        subst this
        exact ⟨A1, c1, rfl, hlc1, C_below' h1 hb0⟩
    have := wordsCode_ok A c xss (some ⟨w.heap.size, 0, none⟩) 1 [ys] (w.alloc (.cells #[.slice A1 ys.length c1] 32)) hx (fun i => by
      rcases i with _ | i
      · exact hy
      · intro j; simp [rl, rn]) (by simp; omega) (C_below' h0 hb0) hC1
    rwa [show wordsV xss [ys] = 0 by rw [wordsV, hv]; simp [hn, unlessV]] at this
  have HB0 := Lib.hid hb0
  have HR0 := Lib.hid h0
  have HR1 := Lib.hid h1
  have HLEN := Lib.hid hlen
  have hsz := size_box w (.cells #[.slice A1 ys.length c1] 32)
  clear h0 h1 hb0 hx hy hv hlen
  have HP : Hid (∀ i, nearP xss ys d i = decide ((diffs (rl xss i) ys : Int) ≤ d)) := fun _ => rfl
  have hp : ∃ p, nearP xss ys d = p := ⟨_, rfl⟩
  obtain ⟨p, hp⟩ := hp
  rw [hp] at HP ⊢
  clear hp
  have hi := inB_yes hd hd'
  go_enter Try.func18, Try.ntmps18
  go_wp2_with fail
  refine HW.out.mono ?_
  rintro e w1 ⟨rfl, hb1⟩
  have HB1 := Lib.hid (HB0.out.trans (hb1.mono HB0.out.size))
  have hsz1 := hb1.size
  clear hb1
  go_wp2_with fail
  refine (within_ok _ _ _ _).mono ?_; rintro e w' ⟨rfl, rfl⟩
  rw [hi]
  clear hi
  go_wp2_with fail
  refine (unless_ok _ _ _).mono ?_; rintro e w' ⟨rfl, rfl⟩
  rw [show unlessV true 2 = 0 from rfl]
  go_wp2_with fail
  refine (firstOf2_ok _ _ 0 0 _ (by simp) (by simp)).mono ?_; rintro e w' ⟨rfl, rfl⟩
  rw [show firstV 0 0 = 0 from rfl]
  have HB2 := Lib.hid (HB1.out.trans ((below_box w1 (.cells #[.int .i64 0, .int .i64 0] 2)).mono (by have := HB1.out.size; omega)))
  generalize w1.alloc (.cells #[.int .i64 0, .int .i64 0] 2) = W2 at *
  go_wp2_with fail
  have HC2 := Lib.hid (C_below' HR0.out HB2.out)
  have HY2 := Lib.hid (C_below' HR1.out HB2.out)
  go_loop [9, 10, 27] (fun f m i => ∃ k : Nat, k ≤ xss.length ∧ i = .int .i64 k ∧ f = .int .i64 (lastTo p k) ∧ m = .int .i64 (cnt p k)) (fun _ _ i => xss.length - (intOf i).toNat)
  case atStart => exact ⟨0, Nat.zero_le _, rfl, rfl, rfl⟩
  case round =>
    obtain ⟨k, hk, rfl, rfl, rfl⟩ := hrel
    have hck := cnt_le p k
    by_cases hlt : k < xss.length
    · have hlti : (k : Int) < (xss.length : Int) := by omega
      obtain ⟨ad, A3, c3, rfl, hx3, hl3, hr3⟩ := at_row HC2.out hlt
      have HU := Lib.hid (unlike_ok A3 c3 _ A1 c1 ys W2 hr3 HY2.out (by rw [HLEN.out k hlt]; omega))
      have hm3 : (rl xss k).length ≤ 9223372036854775807 := hr3.2.1
      clear hr3
      rcases hq : decide ((diffs (rl xss k) ys : Int) ≤ d) with _ | _
      · have HQ := Lib.hid (show p k = false by rw [HP.out]; exact hq)
        have hcq := Lib.hid (cnt_no HQ.out)
        have hlq := Lib.hid (lastTo_no HQ.out)
        go_wp2_with fail
        refine HU.out.mono ?_
        rintro e w' ⟨rfl, rfl⟩
        go_wp2_with fail
        go_round
        case rel => exact ⟨k + 1, by omega, by go_num, by rw [hlq.out], by rw [hcq.out]⟩
        case measure => first|(simp [intOf]; done)|(simp [intOf]; omega)
      · have HQ := Lib.hid (show p k = true by rw [HP.out]; exact hq)
        have hcq := Lib.hid (cnt_yes HQ.out)
        have hlq := Lib.hid (lastTo_yes HQ.out)
        go_wp2_with fail
        refine HU.out.mono ?_
        rintro e w' ⟨rfl, rfl⟩
        go_wp2_with fail
        go_round
        case rel => exact ⟨k + 1, by omega, by go_num, by rw [hlq.out], by rw [hcq.out]; go_num⟩
        case measure => first|(simp [intOf]; done)|(simp [intOf]; omega)
    · obtain rfl : k = xss.length := by omega
      have HV : Hid (decP p xss.length = if cnt p xss.length = 0 then (0, 6) else if cnt p xss.length = 1 then (lastTo p xss.length, 0) else (0, 8)) := rfl
      by_cases e0 : cnt p xss.length = 0
      · have HS := Lib.hid (show decP p xss.length = (0, 6) by rw [HV.out, if_pos e0])
        have e0b : ((cnt p xss.length : Int) == 0) = true := by simp [e0]
        clear e0
        go_wp2
        go_ret2
        exact ⟨by rw [HS.out]; rfl, HB2.out⟩
      · have e0b : ((cnt p xss.length : Int) == 0) = false := by simp [e0]
        by_cases e1 : cnt p xss.length = 1
        · have HS := Lib.hid (show decP p xss.length = (lastTo p xss.length, 0) by rw [HV.out, if_neg e0, if_pos e1])
          have e1b : ((cnt p xss.length : Int) == 1) = true := by simp [e1]
          clear e0 e1
          go_wp2
          go_ret2
          exact ⟨by rw [HS.out]; rfl, HB2.out⟩
        · have HS := Lib.hid (show decP p xss.length = (0, 8) by rw [HV.out, if_neg e0, if_neg e1])
          have e1b : ((cnt p xss.length : Int) == 1) = false := by simp; omega
          clear e0 e1
          go_wp2
          go_ret2
          exact ⟨by rw [HS.out]; rfl, HB2.out⟩
end Go.Proofs.Ytjadhhnajphibaa
namespace Go.Proofs.Ytjadhhnajphibaa
open Go.RowKit Go.Proofs.YtjadhhnajphibaaW.PrintWords

theorem decP_0 {p : Nat → Bool} {n : Nat} (h : cnt p n = 0) : decP p n = (0, 6) := by rw [decP, if_pos h]
theorem decP_1 {p : Nat → Bool} {n : Nat} (h : cnt p n = 1) : decP p n = (lastTo p n, 0) := by rw [decP, if_neg (by omega), if_pos h]
theorem decP_2 {p : Nat → Bool} {n : Nat} (h : 2 ≤ cnt p n) : decP p n = (0, 8) := by rw [decP, if_neg (by omega), if_neg (by omega)]

set_option maxHeartbeats 4000000 in
theorem DecodeWord_spec_ok (A : Option Addr) (c : Nat) (xss : List (List Int)) (A1 : Option Addr) (c1 : Nat) (ys : List Int) (d : Int) (w : World) (hv : wordsB xss 37 = true) (hvy : wordB ys 37 = true) (hlen : ∀ i, i < xss.length → (rl xss i).length = ys.length) (hn : xss.length ≤ 60) (hd : 0 ≤ d) (hd' : d ≤ 8)
    (h0 : (Kd.slice 5 (Kd.int .u8)).C w A xss.length xss) (h1 : (Kd.int .u8).C w A1 ys.length ys) :
    Calls Try.prog 19 #[.slice A xss.length c, .slice A1 ys.length c1, .int .i64 d] w fun e w' => e = .returned (.tuple #[.int .i64 (decP (nearP xss ys d) xss.length).1, .int .i64 (decP (nearP xss ys d) xss.length).2]) ∧ ∃ q, w' = w.drewN q := by
  have hm : xss.length ≤ 9223372036854775807 := by omega
  have hm1 : ys.length ≤ 9223372036854775807 := h1.2.1
  have HW : Hid (Calls Try.prog 73 #[.slice A xss.length c] w fun e w' => e = .returned (.bool true) ∧ ∃ q, w' = w.drewN q) := by
    have := l05Words_ok A c xss w h0
    rwa [hv] at this
  have HWD : Hid (∀ W, (Kd.int .u8).C W A1 ys.length ys → Calls Try.prog 74 #[.slice A1 ys.length c1] W fun e w' => e = .returned (.bool true) ∧ W = w') := fun W h => by
    have := l05Word_ok A1 c1 ys W h
    rwa [hvy] at this
  have HIN : Hid (∀ W, Calls Try.prog 62 #[.int .i64 d, .int .i64 0, .int .i64 8] W fun e w' => e = .returned (.bool true) ∧ W = w') := fun W => by
    have := l00In_ok d 0 8 W
    rwa [inB_yes hd hd'] at this
  have HR0 := Lib.hid h0
  have HR1 := Lib.hid h1
  have HLEN := Lib.hid hlen
  have HP : Hid (∀ i, nearP xss ys d i = decide ((diffs (rl xss i) ys : Int) ≤ d)) := fun _ => rfl
  have hp : ∃ p, nearP xss ys d = p := ⟨_, rfl⟩
  obtain ⟨p, hp⟩ := hp
  rw [hp] at HP ⊢
  clear hp h0 h1 hv hvy hlen
  by_cases hz : 0 < xss.length
  · have hzi : (0 : Int) < (xss.length : Int) := by omega
    obtain ⟨ad, A0, c0, rfl, hx0, hl0, hr0⟩ := at_row HR0.out hz
    rw [Addr.add_zero'] at hx0
    have hne : (((rl xss 0).length : Int) != (ys.length : Int)) = false := by rw [HLEN.out 0 hz]; simp
    clear hr0
    go_enter Try.func19, Try.ntmps19
    go_wp2_with fail
    refine HW.out.mono ?_
    rintro e w1 ⟨rfl, q1, rfl⟩
    go_wp2_with fail
    refine (HWD.out (w.drewN q1) HR1.out).mono ?_
    rintro e w' ⟨rfl, rfl⟩
    go_wp2_with fail
    refine (HIN.out _).mono ?_
    rintro e w' ⟨rfl, rfl⟩
    go_wp2_with fail
    go_loopw [8, 9] (fun vb i wr => ∃ (k q : Nat) (b : Int), k ≤ xss.length ∧ i = .int .i64 k ∧ vb = .int .i64 b ∧ -1 ≤ b ∧ Hid ((cnt p k = 0 ∧ b = -1) ∨ (cnt p k = 1 ∧ b = lastTo p k)) ∧ wr = w.drewN q) (fun _ i _ => xss.length - (intOf i).toNat)
    case atStart => exact ⟨0, q1, -1, Nat.zero_le _, rfl, rfl, by omega, .inl ⟨rfl, rfl⟩, rfl⟩
    case round =>
      obtain ⟨k, q, b, hk, rfl, rfl, hb1, HI, rfl⟩ := hrel
      by_cases hlt : k < xss.length
      · have hlti : (k : Int) < (xss.length : Int) := by omega
        obtain ⟨_, A3, c3, e3, hx3, hl3, hr3⟩ := at_row HR0.out hlt
        cases e3
        have HU := Lib.hid (l05Apart_ok A3 c3 _ A1 c1 ys (w.drewN q) hr3 HR1.out (by rw [HLEN.out k hlt]; omega))
        have hm3 : (rl xss k).length ≤ 9223372036854775807 := hr3.2.1
        clear hr3
        by_cases hq : (diffs (rl xss k) ys : Int) ≤ d
        · have HQ := Lib.hid (show p k = true by rw [HP.out]; exact decide_eq_true hq)
          by_cases hb : 0 ≤ b
          · have HS := Lib.hid (show decP p xss.length = (0, 8) by
              refine decP_2 (Nat.le_trans ?_ (cnt_mono (show k + 1 ≤ xss.length by omega)))
              rw [cnt_yes HQ.out]
              rcases HI.out with ⟨_, h⟩ | ⟨h, _⟩
              · omega
              · omega)
            go_wp2_with fail
            refine HU.out.mono ?_
            rintro e w' ⟨rfl, q3, rfl⟩
            go_wp2_with fail
            go_ret2
            exact ⟨by rw [HS.out]; rfl, _, by first | rfl | exact World.drewN_drewN ..⟩
          · have HN : Hid (cnt p (k + 1) = 1 ∧ (k : Int) = lastTo p (k + 1)) := by
              rcases HI.out with ⟨h1, h⟩ | ⟨_, h⟩
              · exact ⟨by rw [cnt_yes HQ.out, h1], by rw [lastTo_yes HQ.out]⟩
              · have := lastTo_range (p := p) (n := k); omega
            go_wp2_with fail
            refine HU.out.mono ?_
            rintro e w' ⟨rfl, q3, rfl⟩
            go_wp2_with fail
            go_roundw
            case rel => exact ⟨k + 1, _, k, by omega, by go_num, rfl, by omega, .inr HN.out, rfl⟩
            case measure => first|(simp [intOf]; done)|(simp [intOf]; omega)
        · have HQ := Lib.hid (show p k = false by rw [HP.out]; exact decide_eq_false hq)
          have hq' : d < (diffs (rl xss k) ys : Int) := by omega
          go_wp2_with fail
          refine HU.out.mono ?_
          rintro e w' ⟨rfl, q3, rfl⟩
          go_wp2_with fail
          go_roundw
          case rel =>
            refine ⟨k + 1, _, b, by omega, by go_num, rfl, hb1, ?_, rfl⟩
            rw [cnt_no HQ.out, lastTo_no HQ.out]
            exact HI.out
          case measure => first|(simp [intOf]; done)|(simp [intOf]; omega)
      · obtain rfl : k = xss.length := by omega
        by_cases hb : b < 0
        · have HS := Lib.hid (show decP p xss.length = (0, 6) by
            rcases HI.out with ⟨h, _⟩ | ⟨_, h⟩
            · exact decP_0 h
            · have := lastTo_range (p := p) (n := xss.length); omega)
          go_wp2
          go_ret2
          exact ⟨by rw [HS.out]; rfl, _, rfl⟩
        · have HS := Lib.hid (show decP p xss.length = (b, 0) by
            rcases HI.out with ⟨_, h⟩ | ⟨h1, h⟩
            · omega
            · rw [decP_1 h1, h])
          go_wp2
          go_ret2
          exact ⟨by rw [HS.out]; rfl, _, rfl⟩
  · have hz0 : xss.length = 0 := by omega
    have hzi : ¬ (0 : Int) < (xss.length : Int) := by omega
    have HS := Lib.hid (show decP p xss.length = (0, 6) by rw [hz0]; exact decP_0 rfl)
    clear hz0
    go_enter Try.func19, Try.ntmps19
    go_wp2_with fail
    refine HW.out.mono ?_
    rintro e w1 ⟨rfl, q1, rfl⟩
    go_wp2_with fail
    refine (HWD.out (w.drewN q1) HR1.out).mono ?_
    rintro e w' ⟨rfl, rfl⟩
    go_wp2_with fail
    refine (HIN.out _).mono ?_
    rintro e w' ⟨rfl, rfl⟩
    go_wp2_with fail
    go_loopw [8, 9] (fun vb i wr => vb = .int .i64 (-1) ∧ i = .int .i64 0 ∧ ∃ q, wr = w.drewN q) (fun _ i _ => 0)
    case atStart => exact ⟨rfl, rfl, _, rfl⟩
    case round =>
      obtain ⟨rfl, rfl, q, rfl⟩ := hrel
      go_wp2
      go_ret2
      exact ⟨by rw [HS.out]; rfl, _, rfl⟩
end Go.Proofs.Ytjadhhnajphibaa
