/- The codes of lists of words; the nearest pair. -/
import Derived.Test.YtjadhhnajphibaaW5
import Derived.Test.YtjadhhnajphibaaW6
set_option linter.unusedVariables false
set_option linter.unusedSimpArgs false
namespace Go.Proofs.Ytjadhhnajphibaa
open Go.RowKit Go.Proofs.YtjadhhnajphibaaW.PrintWords

/-- the first of two codes that is not 0. -/
def firstV (a b : Int) : Int := if a != 0 then a else b
theorem firstV_0 {a b : Int} (h : (a != 0) = true) : firstV a b = a := by simp [firstV, h]
theorem firstV_1 {a b : Int} (h : (a != 0) = false) : firstV a b = b := by simp [firstV, h]
theorem firstV_2 {a b : Int} (h : (a != 0) = false) (h' : (b != 0) = false) : firstV a b = 0 := by rw [firstV_1 h]; simpa using h'
def pick2 (a b : Int) (k : Nat) : Int := if k = 0 then a else b
theorem firstOf2_ok (B : Nat) (c : Nat) (a b : Int) (w : World) (h0 : w.cell? ⟨B, 0, none⟩ = some (.int .i64 a)) (h1 : w.cell? ⟨B, 1, none⟩ = some (.int .i64 b)) :
    Calls Try.prog 51 #[.slice (some ⟨B, 0, none⟩) 2 c] w fun e w' => e = .returned (.int .i64 (firstV a b)) ∧ w = w' := by
  have HF : Hid (∀ k : Nat, k < 2 → w.cell? ⟨B, k, none⟩ = some (.int .i64 (pick2 a b k))) := by
    intro k hk
    rcases k with _ | _ | k
    · exact h0
    · exact h1
    · omega
  clear h0 h1
  go_enter Try.func51, Try.ntmps51
  go_wp2
  go_loop [7] (fun i => ∃ k : Nat, k ≤ 2 ∧ i = .int .i64 k ∧ Hid (∀ j, j < k → (pick2 a b j != 0) = false)) (fun i => 2 - (intOf i).toNat)
  case atStart => exact ⟨0, by omega, rfl, fun j h => absurd h (by omega)⟩
  case round =>
    obtain ⟨k, hk, rfl, Ha⟩ := hrel
    by_cases hlt : k < 2
    · have hc := HF.out k hlt
      have hlti : (k : Int) < 2 := by omega
      rcases hq : (pick2 a b k != 0) with _ | _
      · have HQ := Lib.hid hq
        go_wp2
        go_round
        case rel =>
          refine ⟨k + 1, by omega, by go_num, fun j hj => ?_⟩
          by_cases e : j = k
          · rw [e]; exact HQ.out
          · exact Ha.out j (by omega)
        case measure => first|(simp [intOf]; done)|(simp [intOf]; omega)
      · have HS : Hid (pick2 a b k = firstV a b) := by
          rcases k with _ | _ | k
          · exact (firstV_0 hq).symm
          · exact (firstV_1 (Ha.out 0 (by omega))).symm
          · omega
        go_wp2
        go_ret
        exact ⟨ret_int HS.out, rfl⟩
    · obtain rfl : k = 2 := by omega
      have HS := Lib.hid (firstV_2 (Ha.out 0 (by omega)) (Ha.out 1 (by omega)))
      go_wp2
      go_ret
      exact ⟨ret_int HS.out.symm, rfl⟩

theorem catTo_two (cs : Nat → List Value) : catTo cs 2 = cs 0 ++ cs 1 := by simp [catTo]
theorem sumTo_two (f : Nat → Nat) : sumTo f 2 = f 0 + f 1 := by simp [sumTo]
theorem rl_append_left {α : Type} {xs ys : List (List α)} {k : Nat} (h : k < xs.length) : rl (xs ++ ys) k = rl xs k := by simp [rl, List.getD_eq_getElem?_getD, List.getElem?_append_left h]
theorem rl_append_right {α : Type} {xs ys : List (List α)} {k : Nat} (h : xs.length ≤ k) : rl (xs ++ ys) k = rl ys (k - xs.length) := by simp [rl, List.getD_eq_getElem?_getD, List.getElem?_append_right h]

/-- the code of a list of words, with others. -/
def wordsV (xss yss : List (List Int)) : Int := if wordsB (xss ++ yss) 37 then unlessV (decide (xss.length ≤ 60)) 3 else 1
theorem WBytes_append {xs ys : List (List Int)} (h : WBytes xs) (h' : WBytes ys) : WBytes (xs ++ ys) := by
  intro i
  by_cases hi : i < xs.length
  · rw [rl_append_left hi]; exact h i
  · rw [rl_append_right (by omega)]; exact h' _

/-- rows of rows, cell by cell. -/
theorem row_cells {α : Type} {d : Kd α} {w : World} {t : Nat} {A : Option Addr} {xss : List (List α)} (h : (Kd.slice t d).C w A xss.length xss) :
    ∃ cs : List Value, cs.length = xss.length ∧ Cells w A cs ∧ (∀ u ∈ cs, u.oneCell' = true) ∧ ∀ k, k < xss.length → ∃ A1 c1, cs[k]? = some (.slice A1 (rl xss k).length c1) ∧ (rl xss k).length ≤ c1 ∧ d.C w A1 (rl xss k).length (rl xss k) := by
  obtain ⟨ac, hraw, hrow⟩ := raw_row h
  refine ⟨_, by simp, cells_of_raw hraw, fun u hu => ?_, fun k hk => ⟨(ac k).1, (ac k).2, by simp [hk], hrow k hk⟩⟩
  obtain ⟨k, _, rfl⟩ := List.mem_map.1 hu
  rfl

set_option maxHeartbeats 2000000 in
theorem wordsCode_ok (A0 : Option Addr) (c0 : Nat) (xss : List (List Int)) (A1 : Option Addr) (c1 : Nat) (yss : List (List Int)) (w : World) (hx : WBytes xss) (hy : WBytes yss) (hn : xss.length + yss.length ≤ 1000000000000)
    (h0 : (Kd.slice 5 (Kd.int .u8)).C w A0 xss.length xss) (h1 : (Kd.slice 5 (Kd.int .u8)).C w A1 yss.length yss) :
    Calls Try.prog 69 #[.slice A0 xss.length c0, .slice A1 yss.length c1] w fun e w' => e = .returned (.int .i64 (wordsV xss yss)) ∧ Below w.heap.size w w' := by
  obtain ⟨cs0, hl0, hc0, ho0, hk0⟩ := row_cells h0
  obtain ⟨cs1, hl1, hc1, ho1, hk1⟩ := row_cells h1
  clear h0 h1
  have hb := below_box w (.cells #[.slice A0 xss.length c0, .slice A1 yss.length c1] 25)
  have HCC : Hid (Calls Try.prog 106 #[.slice (some ⟨w.heap.size, 0, none⟩) 2 2] (w.alloc (.cells #[.slice A0 xss.length c0, .slice A1 yss.length c1] 25)) fun e w' =>
      ∃ A c, e = .returned (.slice A (xss ++ yss).length c) ∧ (Kd.slice 5 (Kd.int .u8)).C w' A (xss ++ yss).length (xss ++ yss) ∧ Below w.heap.size w w') := by
    refine (ConcatW_ok (some ⟨w.heap.size, 0, none⟩) 2 2 (fun k => if k = 0 then A0 else A1) (fun k => if k = 0 then xss.length else yss.length) (fun k => if k = 0 then c0 else c1) (fun k => if k = 0 then cs0 else cs1) _ ⟨by omega, ?_⟩ ?_ (by rw [sumTo_two]; simpa using hn)).mono ?_
    · intro k hk
      refine ⟨_, rfl, ?_⟩
      rw [add_plain, World.cell?_alloc_new]
      rcases k with _ | _ | k
      · rfl
      · rfl
      · omega
    · intro k hk
      rcases k with _ | k
      · exact ⟨by simpa using hl0, hc0.below hb, ho0⟩
      · exact ⟨by simpa using hl1, hc1.below hb, ho1⟩
    · rintro e w' ⟨v, rfl, hown, hb'⟩
      rw [sumTo_two, catTo_two] at hown
      simp only [if_true, if_false, Nat.one_ne_zero] at hown
      have hb2 := hb.trans (hb'.mono hb.size)
      obtain ⟨A, c, rfl, _, hcell⟩ := own_cells hown
      rw [show xss.length + yss.length = (xss ++ yss).length from by rw [List.length_append]]
      refine ⟨A, c, rfl, C_of_cells rfl (by rw [List.length_append]; omega) hcell fun k hk => ?_, hb2⟩
      by_cases hlt : k < xss.length
      · obtain ⟨A2, c2, e1, e2, e3⟩ := hk0 k hlt
        rw [rl_append_left hlt]
        exact ⟨A2, c2, by rw [List.getElem?_append_left (by omega)]; exact e1, e2, C_below' e3 hb2⟩
      · obtain ⟨A2, c2, e1, e2, e3⟩ := hk1 (k - xss.length) (by rw [List.length_append] at hk; omega)
        rw [rl_append_right (by omega)]
        exact ⟨A2, c2, by rw [List.getElem?_append_right (by omega), hl0]; exact e1, e2, C_below' e3 hb2⟩
  have HX := Lib.hid (WBytes_append hx hy)
  have hm : xss.length ≤ 9223372036854775807 := by omega
  have HCV : Hid (∀ A c W, (Kd.slice 5 (Kd.int .u8)).C W A (xss ++ yss).length (xss ++ yss) → Calls Try.prog 98 #[.slice A (xss ++ yss).length c, .int .i64 37] W fun e w' => e = .returned (.bool (wordsB (xss ++ yss) 37)) ∧ Below W.heap.size W w') := fun A c W h => areWords_ok A c _ 37 W HX.out h
  clear hc0 hc1 ho0 ho1 hk0 hk1 hl0 hl1 hb hx hy
  have HV : Hid (wordsV xss yss = if wordsB (xss ++ yss) 37 then unlessV (decide (xss.length ≤ 60)) 3 else 1) := rfl
  generalize hzz : xss ++ yss = zss at HCC HX HCV HV
  clear hzz
  rcases hv : wordsB zss 37 with _ | _
  · have HS := Lib.hid (show wordsV xss yss = 1 by rw [HV.out, hv]; rfl)
    rw [hv] at HCV
    clear hv
    go_enter Try.func69, Try.ntmps69
    go_wp2_with fail
    refine HCC.out.mono ?_
    rintro e w1 ⟨A, c, rfl, hC, hb1⟩
    have H1 := Lib.hid hC
    have HB1 := Lib.hid hb1
    clear hC hb1
    go_wp2_with fail
    refine (HCV.out A c w1 H1.out).mono ?_
    rintro e w2 ⟨rfl, hb2⟩
    go_wp2_with fail
    go_ret
    exact ⟨ret_int HS.out.symm, HB1.out.trans (hb2.mono HB1.out.size)⟩
  · rw [hv] at HCV
    have HS := Lib.hid (show wordsV xss yss = unlessV (decide ((xss.length : Int) ≤ 60)) 3 by
      rw [HV.out, hv, if_pos rfl]
      congr 1
      rw [Bool.eq_iff_iff]
      simp
      omega)
    clear hv
    go_enter Try.func69, Try.ntmps69
    go_wp2_with fail
    refine HCC.out.mono ?_
    rintro e w1 ⟨A, c, rfl, hC, hb1⟩
    have H1 := Lib.hid hC
    have HB1 := Lib.hid hb1
    clear hC hb1
    go_wp2_with fail
    refine (HCV.out A c w1 H1.out).mono ?_
    rintro e w2 ⟨rfl, hb2⟩
    go_wp2_with (go_at_call 53; refine (unless_ok _ _ _).mono ?_; rintro e w' ⟨rfl, rfl⟩)
    go_ret
    exact ⟨ret_int HS.out.symm, HB1.out.trans (hb2.mono HB1.out.size)⟩
end Go.Proofs.Ytjadhhnajphibaa
