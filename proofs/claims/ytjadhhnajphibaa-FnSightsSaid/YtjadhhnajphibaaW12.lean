/- How far words are apart; words that are decoded. -/
import Derived.Test.YtjadhhnajphibaaW11
set_option linter.unusedVariables false
set_option linter.unusedSimpArgs false
namespace Go.Proofs.Ytjadhhnajphibaa
open Go.RowKit Go.Proofs.YtjadhhnajphibaaW.PrintWords

def pairD (xss : List (List Int)) (i k : Nat) : Int := (diffs (rl xss i) (rl xss k) : Nat)
theorem C_none {α : Type} {d : Kd α} (w : World) : d.C w none 0 [] := ⟨rfl, by omega, fun h => absurd h (by omega)⟩

set_option maxHeartbeats 2000000 in
theorem LeastApart1_ok (A : Option Addr) (c : Nat) (xss : List (List Int)) (i k : Nat) (B1 : Nat) (w : World) (h0 : (Kd.slice 5 (Kd.int .u8)).C w A xss.length xss) (hb1 : w.cell? ⟨B1, 0, none⟩ = some (.slice A xss.length c)) (hi : i < xss.length) (hk : k < xss.length) (hl : (rl xss i).length ≤ (rl xss k).length) :
    Calls Try.prog 71 #[.int .i64 i, .int .i64 k, .pointer (some ⟨B1, 0, none⟩)] w fun e w' => e = .returned (.int .i64 (pairD xss i k)) ∧ ∃ q, w' = w.drewN q := by
  have hm : xss.length ≤ 9223372036854775807 := h0.2.1
  obtain ⟨ad, A1, c1, rfl, hx1, hl1, hr1⟩ := at_row h0 hi
  obtain ⟨_, A2, c2, e2, hx2, hl2, hr2⟩ := at_row h0 hk
  cases e2
  have hcall : ∀ n, Calls Try.prog 60 #[.slice A1 (rl xss i).length c1, .slice A2 (rl xss k).length c2] (w.drewN n) fun e w' => e = .returned (.int .i64 (pairD xss i k)) ∧ w.drewN n = w' := fun n => unlike_ok A1 c1 _ A2 c2 _ _ hr1 hr2 hl
  have HC := Lib.hid hcall
  have hii : (i : Int) < (xss.length : Int) := by omega
  have hki : (k : Int) < (xss.length : Int) := by omega
  have hm1 : (rl xss i).length ≤ 9223372036854775807 := hr1.2.1
  have hm2 : (rl xss k).length ≤ 9223372036854775807 := hr2.2.1
  clear hcall h0 hr1 hr2 hl
  go_enter Try.func71, Try.ntmps71
  go_wp2
  go_quiet ((go_at_call 60; first | exact quiet_add_same (HC.out _) | exact quiet_same (HC.out _)))
  go_wp2
  go_ret
  exact ⟨rfl, _, rfl⟩

theorem wordsB_len {xss : List (List Int)} {q : Int} (h : wordsB xss q = true) {i : Nat} (hi : i < xss.length) : (rl xss i).length = (rl xss 0).length := by
  have := allB_iff.1 h i hi
  simp only [Bool.and_eq_true, decide_eq_true_iff] at this
  exact this.2

/-- the least distance of two words, and the code. -/
def leastV (xss : List (List Int)) : Int × Int := if 0 ≤ (nOut (pairD xss) xss.length xss.length).l then ((nOut (pairD xss) xss.length xss.length).l, 0) else (0, 6)

set_option maxHeartbeats 2000000 in
theorem LeastApart_ok (A : Option Addr) (c : Nat) (xss : List (List Int)) (w : World) (hx : WBytes xss) (hv : wordsB xss 37 = true) (hn : xss.length ≤ 60) (h0 : (Kd.slice 5 (Kd.int .u8)).C w A xss.length xss) :
    Calls Try.prog 16 #[.slice A xss.length c] w fun e w' => e = .returned (.tuple #[.int .i64 (leastV xss).1, .int .i64 (leastV xss).2]) ∧ Below w.heap.size w w' := by
  have hb0 := below_box w (.cells #[.slice A xss.length c] 25)
  have HW : Hid (Calls Try.prog 69 #[.slice A xss.length c, .slice none 0 0] (w.alloc (.cells #[.slice A xss.length c] 25)) fun e w' => e = .returned (.int .i64 0) ∧ Below (w.alloc (.cells #[.slice A xss.length c] 25)).heap.size (w.alloc (.cells #[.slice A xss.length c] 25)) w') := by
    have := wordsCode_ok A c xss none 0 [] (w.alloc (.cells #[.slice A xss.length c] 25)) hx (fun i j => by simp [rl, rn]) (by simp; omega) (C_below' h0 hb0) (C_none _)
    rwa [show wordsV xss [] = 0 by rw [wordsV, List.append_nil, hv]; simp [hn, unlessV]] at this
  have hcell := cell_box w (.slice A xss.length c) 25
  have hsz := size_box w (.cells #[.slice A xss.length c] 25)
  generalize hW0 : w.alloc (.cells #[.slice A xss.length c] 25) = W0 at *
  have HN : Hid (∀ W, Below W0.heap.size W0 W → Calls Try.prog 70 #[.int .i64 xss.length, .func (.func 71) #[] #[.pointer (some ⟨w.heap.size, 0, none⟩)]] W fun e w' => e = .returned (.tuple #[.int .i64 (nOut (pairD xss) xss.length xss.length).a, .int .i64 (nOut (pairD xss) xss.length xss.length).b, .int .i64 (nOut (pairD xss) xss.length xss.length).l, .bool (decide (0 ≤ (nOut (pairD xss) xss.length xss.length).l))]) ∧ Below W.heap.size W w') := by
    intro W hW
    have eg : ∀ args w, (callFunc 71 args).run Try.prog w = .ok (.enter 71 args) w := enters_of Try.func71 (by kernel_rfl) rfl
    refine nearest_ok _ _ eg xss.length (by omega) (pairD xss) W fun i k W' hik hk hW' => ?_
    have hbb := hW.trans (hW'.mono hW.size)
    refine (LeastApart1_ok A c xss i k w.heap.size W' (C_below' h0 (hb0.trans (hbb.mono hb0.size))) ((hbb.cell (p := ⟨w.heap.size, 0, none⟩) (by rw [hsz]; show w.heap.size < _; omega)).trans hcell) (by omega) hk (by rw [wordsB_len hv (show i < xss.length by omega), wordsB_len hv hk]; omega)).mono ?_
    rintro e w' ⟨he, q, rfl⟩
    exact ⟨he, below_dN (Below.refl _ _) _⟩
  have HV : Hid (leastV xss = if 0 ≤ (nOut (pairD xss) xss.length xss.length).l then ((nOut (pairD xss) xss.length xss.length).l, 0) else (0, 6)) := rfl
  generalize nOut (pairD xss) xss.length xss.length = s at HN HV
  obtain ⟨sa, sb, sl⟩ := s
  have HB0 := Lib.hid hb0
  have HC0 := Lib.hid (show ∀ W, Below W0.heap.size W0 W → W.cell? ⟨w.heap.size, 0, none⟩ = some (.slice A xss.length c) from fun W hW => (hW.cell (p := ⟨w.heap.size, 0, none⟩) (by rw [hsz]; show w.heap.size < _; omega)).trans hcell)
  have hm : xss.length ≤ 9223372036854775807 := by omega
  have HSZ := Lib.hid hsz
  clear hx hv h0 hb0 hsz
  rcases hd : decide (0 ≤ sl) with _ | _
  all_goals simp only [hd] at HN
  rotate_left
  · have hs : 0 ≤ sl := of_decide_eq_true hd
    have HS := Lib.hid (show leastV xss = (sl, 0) by rw [HV.out]; simp [hs])
    clear hd
    go_enter Try.func16, Try.ntmps16
    go_wp2_with fail
    refine HW.out.mono ?_
    rintro e w1 ⟨rfl, hb1⟩
    have hc1 := HC0.out w1 hb1
    have HN1 := Lib.hid (HN.out w1 hb1)
    have HB1 := Lib.hid hb1
    clear hb1 hW0
    go_wp2_with fail
    refine HN1.out.mono ?_
    rintro e w2 ⟨rfl, hb2⟩
    have HB2 := Lib.hid (HB0.out.trans ((HB1.out.trans (hb2.mono HB1.out.size)).mono HB0.out.size))
    clear hb2
    go_wp2_with fail
    go_ret2
    exact ⟨by rw [HS.out]; rfl, HB2.out⟩
  · have hs : ¬ 0 ≤ sl := of_decide_eq_false hd
    have HS := Lib.hid (show leastV xss = (0, 6) by rw [HV.out]; simp [hs])
    clear hd hs
    go_enter Try.func16, Try.ntmps16
    go_wp2_with fail
    refine HW.out.mono ?_
    rintro e w1 ⟨rfl, hb1⟩
    have hc1 := HC0.out w1 hb1
    have HN1 := Lib.hid (HN.out w1 hb1)
    have HB1 := Lib.hid hb1
    clear hb1 hW0
    go_wp2_with fail
    refine HN1.out.mono ?_
    rintro e w2 ⟨rfl, hb2⟩
    have HB2 := Lib.hid (HB0.out.trans ((HB1.out.trans (hb2.mono HB1.out.size)).mono HB0.out.size))
    clear hb2
    go_wp2_with fail
    go_ret2
    exact ⟨by rw [HS.out]; rfl, HB2.out⟩

/-- which words of a list are near; the last one of them. -/
def nearP (xss : List (List Int)) (ys : List Int) (d : Int) (i : Nat) : Bool := decide ((diffs (rl xss i) ys : Int) ≤ d)
def lastTo (p : Nat → Bool) : Nat → Int
  | 0 => 0
  | n + 1 => if p n then n else lastTo p n
theorem lastTo_yes {p : Nat → Bool} {n : Nat} (h : p n = true) : lastTo p (n + 1) = n := by simp [lastTo, h]
theorem lastTo_no {p : Nat → Bool} {n : Nat} (h : p n = false) : lastTo p (n + 1) = lastTo p n := by simp [lastTo, h]
theorem cnt_yes {p : Nat → Bool} {n : Nat} (h : p n = true) : cnt p (n + 1) = cnt p n + 1 := by simp [cnt, h]
theorem cnt_no {p : Nat → Bool} {n : Nat} (h : p n = false) : cnt p (n + 1) = cnt p n := by simp [cnt, h]
theorem cnt_mono {p : Nat → Bool} {k n : Nat} (h : k ≤ n) : cnt p k ≤ cnt p n := by
  induction n with
  | zero => have : k = 0 := by omega
            subst this; exact Nat.le_refl _
  | succ n ih =>
    by_cases e : k = n + 1
    · subst e; exact Nat.le_refl _
    · exact Nat.le_trans (ih (by omega)) (Nat.le_add_right _ _)
theorem lastTo_range {p : Nat → Bool} {n : Nat} : 0 ≤ lastTo p n := by
  induction n with
  | zero => simp [lastTo]
  | succ n ih => unfold lastTo; split <;> omega
/-- the word that is decoded, and the code. -/
def decP (p : Nat → Bool) (n : Nat) : Int × Int := if cnt p n = 0 then (0, 6) else if cnt p n = 1 then (lastTo p n, 0) else (0, 8)

set_option maxHeartbeats 2000000 in
theorem DecodeWord_ok (A : Option Addr) (c : Nat) (xss : List (List Int)) (A1 : Option Addr) (c1 : Nat) (ys : List Int) (d : Int) (w : World) (hx : WBytes xss) (hy : Bytes ys) (hv : wordsB (xss ++ [ys]) 37 = true) (hn : xss.length ≤ 60) (hd : 0 ≤ d) (hd' : d ≤ 8)
    (h0 : (Kd.slice 5 (Kd.int .u8)).C w A xss.length xss) (h1 : (Kd.int .u8).C w A1 ys.length ys) (hlc1 : ys.length ≤ c1) :
    Calls Try.prog 18 #[.slice A xss.length c, .slice A1 ys.length c1, .int .i64 d] w fun e w' => e = .returned (.tuple #[.int .i64 (decP (nearP xss ys d) xss.length).1, .int .i64 (decP (nearP xss ys d) xss.length).2]) ∧ Below w.heap.size w w' := by
  have hm : xss.length ≤ 9223372036854775807 := by omega
  have hm1 : ys.length ≤ 9223372036854775807 := h1.2.1
  have hlen : ∀ i, i < xss.length → (rl xss i).length = ys.length := fun i hi => by
    have e1 := wordsB_len hv (i := i) (by simp; omega)
    have e2 := wordsB_len hv (i := xss.length) (by simp)
    rw [rl_append_left hi] at e1
    rw [rl_append_right (Nat.le_refl _)] at e2
    rw [show rl [ys] (xss.length - xss.length) = ys by simp [rl]] at e2
    rw [e1, ← e2]
  have hb0 := below_box w (.cells #[.slice A1 ys.length c1] 32)
  have HW : Hid (Calls Try.prog 69 #[.slice A xss.length c, .slice (some ⟨w.heap.size, 0, none⟩) 1 1] (w.alloc (.cells #[.slice A1 ys.length c1] 32)) fun e w' => e = .returned (.int .i64 0) ∧ Below (w.alloc (.cells #[.slice A1 ys.length c1] 32)).heap.size (w.alloc (.cells #[.slice A1 ys.length c1] 32)) w') := by
    have hC1 : (Kd.slice 5 (Kd.int .u8)).C (w.alloc (.cells #[.slice A1 ys.length c1] 32)) (some ⟨w.heap.size, 0, none⟩) [ys].length [ys] := by
      refine C_of_cells (cs := [.slice A1 ys.length c1]) rfl (by simp) (fun j u hu => ?_) (fun k hk => ?_)
      · rcases j with _ | j
        · have : u = .slice A1 ys.length c1 := by simpa using hu.symm
          exact ⟨_, rfl, by rw [Addr.add_zero', this]; exact cell_box _ _ _⟩
        · simp at hu
      · have : k = 0 := by simp at hk; omega
        subst this
        exact ⟨A1, c1, rfl, hlc1, C_below' h1 hb0⟩
    have := wordsCode_ok A c xss (some ⟨w.heap.size, 0, none⟩) 1 [ys] (w.alloc (.cells #[.slice A1 ys.length c1] 32)) hx (fun i => by
      rcases i with _ | i
      · exact hy
      · intro j; simp [rl, rn]) (by simp; omega) (C_below' h0 hb0) hC1
    rwa [show wordsV xss [ys] = 0 by rw [wordsV, hv]; simp [hn, unlessV]] at this
  have HB0 := Lib.hid hb0
  have HR0 := Lib.hid h0
  have HR1 := Lib.hid h1
  have HLEN := Lib.hid hlen
  have hsz := size_box w (.cells #[.slice A1 ys.length c1] 32)
  clear h0 h1 hb0 hx hy hv hlen
  have HP : Hid (∀ i, nearP xss ys d i = decide ((diffs (rl xss i) ys : Int) ≤ d)) := fun _ => rfl
  have hp : ∃ p, nearP xss ys d = p := ⟨_, rfl⟩
  obtain ⟨p, hp⟩ := hp
  rw [hp] at HP ⊢
  clear hp
  have hi := inB_yes hd hd'
  go_enter Try.func18, Try.ntmps18
  go_wp2_with fail
  refine HW.out.mono ?_
  rintro e w1 ⟨rfl, hb1⟩
  have HB1 := Lib.hid (HB0.out.trans (hb1.mono HB0.out.size))
  have hsz1 := hb1.size
  clear hb1
  go_wp2_with fail
  refine (within_ok _ _ _ _).mono ?_; rintro e w' ⟨rfl, rfl⟩
  rw [hi]
  clear hi
  go_wp2_with fail
  refine (unless_ok _ _ _).mono ?_; rintro e w' ⟨rfl, rfl⟩
  rw [show unlessV true 2 = 0 from rfl]
  go_wp2_with fail
  refine (firstOf2_ok _ _ 0 0 _ (by simp) (by simp)).mono ?_; rintro e w' ⟨rfl, rfl⟩
  rw [show firstV 0 0 = 0 from rfl]
  have HB2 := Lib.hid (HB1.out.trans ((below_box w1 (.cells #[.int .i64 0, .int .i64 0] 2)).mono (by have := HB1.out.size; omega)))
  generalize w1.alloc (.cells #[.int .i64 0, .int .i64 0] 2) = W2 at *
  go_wp2_with fail
  have HC2 := Lib.hid (C_below' HR0.out HB2.out)
  have HY2 := Lib.hid (C_below' HR1.out HB2.out)
  go_loop [9, 10, 27] (fun f m i => ∃ k : Nat, k ≤ xss.length ∧ i = .int .i64 k ∧ f = .int .i64 (lastTo p k) ∧ m = .int .i64 (cnt p k)) (fun _ _ i => xss.length - (intOf i).toNat)
  case atStart => exact ⟨0, Nat.zero_le _, rfl, rfl, rfl⟩
  case round =>
    obtain ⟨k, hk, rfl, rfl, rfl⟩ := hrel
    have hck := cnt_le p k
    by_cases hlt : k < xss.length
    · have hlti : (k : Int) < (xss.length : Int) := by omega
      obtain ⟨ad, A3, c3, rfl, hx3, hl3, hr3⟩ := at_row HC2.out hlt
      have HU := Lib.hid (unlike_ok A3 c3 _ A1 c1 ys W2 hr3 HY2.out (by rw [HLEN.out k hlt]; omega))
      have hm3 : (rl xss k).length ≤ 9223372036854775807 := hr3.2.1
      clear hr3
      rcases hq : decide ((diffs (rl xss k) ys : Int) ≤ d) with _ | _
      · have HQ := Lib.hid (show p k = false by rw [HP.out]; exact hq)
        have hcq := Lib.hid (cnt_no HQ.out)
        have hlq := Lib.hid (lastTo_no HQ.out)
        go_wp2_with fail
        refine HU.out.mono ?_
        rintro e w' ⟨rfl, rfl⟩
        go_wp2_with fail
        go_round
        case rel => exact ⟨k + 1, by omega, by go_num, by rw [hlq.out], by rw [hcq.out]⟩
        case measure => first|(simp [intOf]; done)|(simp [intOf]; omega)
      · have HQ := Lib.hid (show p k = true by rw [HP.out]; exact hq)
        have hcq := Lib.hid (cnt_yes HQ.out)
        have hlq := Lib.hid (lastTo_yes HQ.out)
        go_wp2_with fail
        refine HU.out.mono ?_
        rintro e w' ⟨rfl, rfl⟩
        go_wp2_with fail
        go_round
        case rel => exact ⟨k + 1, by omega, by go_num, by rw [hlq.out], by rw [hcq.out]; go_num⟩
        case measure => first|(simp [intOf]; done)|(simp [intOf]; omega)
    · obtain rfl : k = xss.length := by omega
      have HV : Hid (decP p xss.length = if cnt p xss.length = 0 then (0, 6) else if cnt p xss.length = 1 then (lastTo p xss.length, 0) else (0, 8)) := rfl
      by_cases e0 : cnt p xss.length = 0
      · have HS := Lib.hid (show decP p xss.length = (0, 6) by rw [HV.out, if_pos e0])
        have e0b : ((cnt p xss.length : Int) == 0) = true := by simp [e0]
        clear e0
        go_wp2
        go_ret2
        exact ⟨by rw [HS.out]; rfl, HB2.out⟩
      · have e0b : ((cnt p xss.length : Int) == 0) = false := by simp [e0]
        by_cases e1 : cnt p xss.length = 1
        · have HS := Lib.hid (show decP p xss.length = (lastTo p xss.length, 0) by rw [HV.out, if_neg e0, if_pos e1])
          have e1b : ((cnt p xss.length : Int) == 1) = true := by simp [e1]
          clear e0 e1
          go_wp2
          go_ret2
          exact ⟨by rw [HS.out]; rfl, HB2.out⟩
        · have HS := Lib.hid (show decP p xss.length = (0, 8) by rw [HV.out, if_neg e0, if_neg e1])
          have e1b : ((cnt p xss.length : Int) == 1) = false := by simp; omega
          clear e0 e1
          go_wp2
          go_ret2
          exact ⟨by rw [HS.out]; rfl, HB2.out⟩
end Go.Proofs.Ytjadhhnajphibaa
