/- Words that are valid: the program's own functions, with closures. -/
import Derived.Test.YtjadhhnajphibaaW4
set_option linter.unusedVariables false
set_option linter.unusedSimpArgs false
namespace Go.Proofs.Ytjadhhnajphibaa
open Go.RowKit Go.Proofs.YtjadhhnajphibaaW.PrintWords

theorem sizeW_ok (A0 : Option Addr) (c0 n : Nat) (w : World) (hn : n ≤ 9223372036854775807) : Calls Try.prog 57 #[.slice A0 n c0] w fun e w' => e = .returned (.int .i64 n) ∧ w = w' := by
  go_enter Try.func57, Try.ntmps57
  go_wp2
  go_ret
  exact ⟨rfl, rfl⟩
theorem sizeU8_ok (A0 : Option Addr) (c0 n : Nat) (w : World) (hn : n ≤ 9223372036854775807) : Calls Try.prog 107 #[.slice A0 n c0] w fun e w' => e = .returned (.int .i64 n) ∧ w = w' := by
  go_enter Try.func107, Try.ntmps107
  go_wp2
  go_ret
  exact ⟨rfl, rfl⟩

set_option maxHeartbeats 2000000 in
theorem equalFuncW_ok (A0 : Option Addr) (c0 : Nat) (xss : List (List Int)) (A1 : Option Addr) (c1 : Nat) (yss : List (List Int)) (w : World)
    (h0 : (Kd.slice 5 (Kd.int .u8)).C w A0 xss.length xss) (h1 : (Kd.slice 5 (Kd.int .u8)).C w A1 yss.length yss) :
    Calls Try.prog 67 #[.slice A0 xss.length c0, .slice A1 yss.length c1, .func (.func 68) #[] #[]] w fun e w' => e = .returned (.bool (eqWB xss yss)) ∧ ∃ q, w' = w.drewN q := by
  have hm : xss.length ≤ 9223372036854775807 := h0.2.1
  have hm1 : yss.length ≤ 9223372036854775807 := h1.2.1
  have H0 := Lib.hid h0
  have H1 := Lib.hid h1
  clear h0 h1
  by_cases hl : xss.length = yss.length
  · have HL := Lib.hid hl
    have hle : xss.length ≤ yss.length := by omega
    have hlb : ((xss.length : Int) != (yss.length : Int)) = false := by simp [hl]
    clear hl
    go_enter Try.func67, Try.ntmps67
    go_wp2
    go_loopw [17] (fun i wr => ∃ k q : Nat, k ≤ xss.length ∧ i = .int .i64 k ∧ Hid (∀ j, j < k → eqB (rl xss j) (rl yss j) = true) ∧ wr = w.drewN q) (fun i _ => xss.length - (intOf i).toNat)
    case atStart => exact ⟨0, 0, Nat.zero_le _, rfl, fun j hj => absurd hj (by omega), rfl⟩
    case round =>
      obtain ⟨k, q, hk, rfl, HA, rfl⟩ := hrel
      by_cases hlt : k < xss.length
      · obtain ⟨ad0, A3, c3, rfl, hx0, hl3, hr3⟩ := at_row H0.out hlt
        obtain ⟨ad1, A4, c4, rfl, hx1, hl4, hr4⟩ := at_row H1.out (show k < yss.length by omega)
        have hlt1 : k < yss.length := by omega
        have HC := equalW_ok A3 c3 _ A4 c4 _ (w.drewN q) hr3 hr4
        clear hr3 hr4
        rcases hc : eqB (rl xss k) (rl yss k) with _ | _
        · have HS := Lib.hid (eqWB_no hlt hc)
          rw [hc] at HC
          clear hc
          go_wp2_with (go_at_call 68; refine HC.mono ?_; rintro e w' ⟨rfl, q1, rfl⟩)
          go_ret
          exact ⟨ret_bool HS.out.symm, _, rfl⟩
        · have HS := Lib.hid hc
          rw [hc] at HC
          clear hc
          go_wp2_with (go_at_call 68; refine HC.mono ?_; rintro e w' ⟨rfl, q1, rfl⟩)
          go_roundw
          case rel =>
            refine ⟨k + 1, _, by omega, by go_num, fun j hj => ?_, rfl⟩
            by_cases e : j = k
            · rw [e]; exact HS.out
            · exact HA.out j (by omega)
          case measure => first|(simp [intOf]; done)|(simp [intOf]; omega)
      · obtain rfl : k = xss.length := by omega
        have HS := Lib.hid (eqWB_yes HL.out HA.out)
        go_wp2
        go_ret
        exact ⟨ret_bool HS.out.symm, _, rfl⟩
  · have HS := Lib.hid (eqWB_len hl)
    have hlb : ((xss.length : Int) != (yss.length : Int)) = true := by simp; omega
    go_enter Try.func67, Try.ntmps67
    go_wp2
    go_ret
    exact ⟨ret_bool HS.out.symm, 0, rfl⟩

theorem SameWords_ok (A0 : Option Addr) (c0 : Nat) (xss : List (List Int)) (A1 : Option Addr) (c1 : Nat) (yss : List (List Int)) (w : World)
    (h0 : (Kd.slice 5 (Kd.int .u8)).C w A0 xss.length xss) (h1 : (Kd.slice 5 (Kd.int .u8)).C w A1 yss.length yss) :
    Calls Try.prog 15 #[.slice A0 xss.length c0, .slice A1 yss.length c1] w fun e w' => e = .returned (.bool (eqWB xss yss)) ∧ ∃ q, w' = w.drewN q := by
  have HC := equalFuncW_ok A0 c0 xss A1 c1 yss w h0 h1
  clear h0 h1
  go_enter Try.func15, Try.ntmps15
  go_wp2_with (go_at_call 67; refine HC.mono ?_; rintro e w' ⟨rfl, q1, rfl⟩)
  go_ret
  exact ⟨rfl, _, rfl⟩

/-- the lesser one of letters and 37. -/
def lim (q : Int) : Int := if q ≤ 37 then q else 37
theorem isWord1_ok (c q : Int) (hc0 : 0 ≤ c) (hc1 : c ≤ 255) (B : Nat) (w : World) (hb : w.cell? ⟨B, 0, none⟩ = some (.int .i64 q)) :
    Calls Try.prog 109 #[.int .u8 c, .pointer (some ⟨B, 0, none⟩)] w fun e w' => e = .returned (.bool (decide (lim q ≤ c))) ∧ w = w' := by
  by_cases h : q ≤ 37
  · have HS := Lib.hid (show lim q = q by simp [lim, h])
    have hi : ¬ 37 < q := by omega
    go_enter Try.func109, Try.ntmps109
    go_wp2
    go_ret
    exact ⟨ret_bool (by rw [HS.out]), rfl⟩
  · have HS := Lib.hid (show lim q = 37 by simp [lim, h])
    go_enter Try.func109, Try.ntmps109
    go_wp2
    go_ret
    exact ⟨ret_bool (by rw [HS.out]), rfl⟩

theorem wordB_any (xs : List Int) (q : Int) (h : inB xs.length 1 8 = true) : (!anyB (fun i => decide (q ≤ rn xs i)) xs.length) = wordB xs q := by
  unfold wordB
  rw [allB_not, h, Bool.true_and]
  exact allB_congr fun i _ => by rw [Bool.eq_iff_iff]; simp

set_option maxHeartbeats 1000000 in
theorem isWord_ok (A0 : Option Addr) (c0 : Nat) (xs : List Int) (q : Int) (w : World) (hx : Bytes xs) (h0 : (Kd.int .u8).C w A0 xs.length xs) :
    Calls Try.prog 75 #[.slice A0 xs.length c0, .int .i64 q] w fun e w' => e = .returned (.bool (wordB xs (lim q))) ∧ Below w.heap.size w w' := by
  have hm : xs.length ≤ 9223372036854775807 := h0.2.1
  rcases hi : inB xs.length 1 8 with _ | _
  · have HS := Lib.hid (show wordB xs (lim q) = false by simp [wordB, hi])
    clear h0 hx
    go_enter Try.func75, Try.ntmps75
    go_wp2_with (first | (go_at_call 107; refine (sizeU8_ok _ _ _ _ hm).mono ?_; rintro e w' ⟨rfl, rfl⟩) | (go_at_call 54; refine (within_ok _ _ _ _).mono ?_; rintro e w' ⟨rfl, rfl⟩))
    go_ret
    exact ⟨ret_bool HS.out.symm, below_box _ _⟩
  · have HS := Lib.hid (wordB_any xs (lim q) hi)
    have HR := Lib.hid ((raw_int h0).below (below_box w (.cells #[.int .i64 q] 2)))
    have HP : Hid (PredB Try.prog 109 #[.pointer (some ⟨w.heap.size, 0, none⟩)] xs.length (fun k => .int .u8 (rn xs k)) (fun i => decide (lim q ≤ rn xs i)) (w.alloc (.cells #[.int .i64 q] 2))) := by
      intro k W hk hb
      have hc := (hb.cell (p := ⟨w.heap.size, 0, none⟩) (by rw [size_box]; show w.heap.size < _; omega)).trans (cell_box w (.int .i64 q) 2)
      exact (isWord1_ok (rn xs k) q (hx k).1 (hx k).2 w.heap.size W hc).mono fun e w' ⟨he, hw⟩ => ⟨he, by rw [← hw]; exact Below.refl _ _⟩
    have eg : ∀ args w, (callFunc 109 args).run Try.prog w = .ok (.enter 109 args) w := enters_of Try.func109 (by kernel_rfl) rfl
    have HC := Lib.hid (containsFuncU8_ok _ _ eg A0 xs.length c0 _ _ _ HR.out HP.out)
    clear h0 hx HR HP eg
    go_enter Try.func75, Try.ntmps75
    go_wp2_with (first | (go_at_call 107; refine (sizeU8_ok _ _ _ _ hm).mono ?_; rintro e w' ⟨rfl, rfl⟩) | (go_at_call 54; refine (within_ok _ _ _ _).mono ?_; rintro e w' ⟨rfl, rfl⟩) | (go_at_call 108; refine HC.out.mono ?_; rintro e w' ⟨rfl, hb'⟩))
    go_ret
    exact ⟨ret_bool HS.out, (below_box w _).trans (hb'.mono (by rw [size_box]; omega))⟩

def WBytes (xss : List (List Int)) : Prop := ∀ i, Bytes (rl xss i)
/-- one word of a list is as it should be. -/
def oneB (xss : List (List Int)) (q : Int) (i : Nat) : Bool := wordB (rl xss i) q && decide ((rl xss i).length = (rl xss 0).length)

set_option maxHeartbeats 1000000 in
theorem areWords1_ok (A0 : Option Addr) (c0 : Nat) (xss : List (List Int)) (k : Nat) (q : Int) (A1 : Option Addr) (n c1 : Nat) (B1 B2 : Nat) (w : World) (hx : WBytes xss)
    (h0 : (Kd.int .u8).C w A0 (rl xss k).length (rl xss k)) (hB1 : B1 < w.heap.size) (hB2 : B2 < w.heap.size) (hb1 : w.cell? ⟨B1, 0, none⟩ = some (.int .i64 q)) (hb2 : w.cell? ⟨B2, 0, none⟩ = some (.slice A1 n c1)) (h1 : (Kd.slice 5 (Kd.int .u8)).C w A1 n xss) (hn : 0 < n) :
    Calls Try.prog 126 #[.slice A0 (rl xss k).length c0, .pointer (some ⟨B1, 0, none⟩), .pointer (some ⟨B2, 0, none⟩)] w fun e w' => e = .returned (.bool (!oneB xss (lim q) k)) ∧ Below w.heap.size w w' := by
  have hm : (rl xss k).length ≤ 9223372036854775807 := h0.2.1
  have HC := Lib.hid (isWord_ok A0 c0 _ q w (hx k) h0)
  obtain ⟨ad, A2, c2, rfl, hx0, hl2, hr2⟩ := at_row h1 hn
  rw [Addr.add_zero'] at hx0
  have hm2 : (rl xss 0).length ≤ 9223372036854775807 := hr2.2.1
  have hh := World.block_lt_of_cell? w ad hx0
  clear hr2 h0 h1 hx
  rcases hc : wordB (rl xss k) (lim q) with _ | _
  · have HS := Lib.hid (show (!oneB xss (lim q) k) = true by simp [oneB, hc])
    rw [hc] at HC
    clear hc
    go_enter Try.func126, Try.ntmps126
    go_wp2_with (go_at_call 75; refine HC.out.mono ?_; rintro e w' ⟨rfl, hb'⟩)
    go_ret
    exact ⟨ret_bool HS.out.symm, hb'⟩
  · rw [hc] at HC
    have hni : (0 : Int) < (n : Int) := by omega
    by_cases hl : (rl xss k).length = (rl xss 0).length
    · have HS := Lib.hid (show (!oneB xss (lim q) k) = false by simp [oneB, hc, hl])
      have hlb : (((rl xss k).length : Int) != ((rl xss 0).length : Int)) = false := by simp [hl]
      clear hc hl
      go_enter Try.func126, Try.ntmps126
      go_wp2_with (go_at_call 75; refine HC.out.mono ?_; rintro e w' ⟨rfl, hb'⟩; have hb2' := (hb'.cell (p := ⟨B2, 0, none⟩) hB2).trans hb2; have hx0' := (hb'.cell (p := ad) hh).trans hx0)
      go_ret
      exact ⟨ret_bool HS.out.symm, hb'⟩
    · have HS := Lib.hid (show (!oneB xss (lim q) k) = true by simp [oneB, hc, hl])
      have hlb : (((rl xss k).length : Int) != ((rl xss 0).length : Int)) = true := by simp; omega
      clear hc hl
      go_enter Try.func126, Try.ntmps126
      go_wp2_with (go_at_call 75; refine HC.out.mono ?_; rintro e w' ⟨rfl, hb'⟩; have hb2' := (hb'.cell (p := ⟨B2, 0, none⟩) hB2).trans hb2; have hx0' := (hb'.cell (p := ad) hh).trans hx0)
      go_ret
      exact ⟨ret_bool HS.out.symm, hb'⟩

set_option maxHeartbeats 1000000 in
theorem areWords_ok (A0 : Option Addr) (c0 : Nat) (xss : List (List Int)) (q : Int) (w : World) (hx : WBytes xss) (h0 : (Kd.slice 5 (Kd.int .u8)).C w A0 xss.length xss) :
    Calls Try.prog 98 #[.slice A0 xss.length c0, .int .i64 q] w fun e w' => e = .returned (.bool (wordsB xss (lim q))) ∧ Below w.heap.size w w' := by
  have hm : xss.length ≤ 9223372036854775807 := h0.2.1
  have h2 : Below w.heap.size w ((w.alloc (.cells #[.slice A0 xss.length c0] 25)).alloc (.cells #[.int .i64 q] 2)) := (below_box _ _).trans ((below_box _ _).mono (by rw [size_box]; omega))
  obtain ⟨ac, hraw, hrow⟩ := raw_row (C_below' h0 h2)
  have HP : PredB Try.prog 126 #[.pointer (some ⟨w.heap.size + 1, 0, none⟩), .pointer (some ⟨w.heap.size, 0, none⟩)] xss.length (fun k => .slice (ac k).1 (rl xss k).length (ac k).2) (fun i => !oneB xss (lim q) i) ((w.alloc (.cells #[.slice A0 xss.length c0] 25)).alloc (.cells #[.int .i64 q] 2)) := by
    intro k W hk hb
    have hsz : ((w.alloc (.cells #[.slice A0 xss.length c0] 25)).alloc (.cells #[.int .i64 q] 2)).heap.size = w.heap.size + 2 := by rw [size_box, size_box]
    have hc0 := cell_box (w.alloc (.cells #[.slice A0 xss.length c0] 25)) (.int .i64 q) 2
    rw [size_box] at hc0
    have hc1 := (hb.cell (p := ⟨w.heap.size + 1, 0, none⟩) (by rw [hsz]; show w.heap.size + 1 < _; omega)).trans hc0
    have hc2 := (hb.cell (p := ⟨w.heap.size, 0, none⟩) (by rw [hsz]; show w.heap.size < _; omega)).trans ((World.cell?_alloc_lt _ _ _ (by rw [size_box]; show w.heap.size < _; omega)).trans (cell_box w (.slice A0 xss.length c0) 25))
    have hsW : w.heap.size + 2 ≤ W.heap.size := by rw [← hsz]; exact hb.size
    exact areWords1_ok _ _ xss k q A0 xss.length c0 _ _ W hx (C_below' (hrow k hk).2 hb) (by omega) (by omega) hc1 hc2 (C_below' (C_below' h0 h2) hb) (by omega)
  have eg : ∀ args w, (callFunc 126 args).run Try.prog w = .ok (.enter 126 args) w := enters_of Try.func126 (by kernel_rfl) rfl
  have HC := Lib.hid (containsFuncW_ok _ _ eg A0 xss.length c0 _ _ _ hraw HP)
  have HS := Lib.hid (show (!anyB (fun i => !oneB xss (lim q) i) xss.length) = wordsB xss (lim q) by rw [allB_not]; exact allB_congr fun i _ => by rw [Bool.not_not]; rfl)
  have H2 := Lib.hid h2
  clear h0 hx HP eg hraw hrow h2
  go_enter Try.func98, Try.ntmps98
  go_wp2_with (go_at_call 58; refine HC.out.mono ?_; rintro e w' ⟨rfl, hb'⟩)
  go_ret
  exact ⟨ret_bool HS.out, H2.out.trans (hb'.mono (H2.out.size))⟩

def ret2 (a : Int) (c : Int) : Ending := .returned (.tuple #[.int .i64 a, .int .i64 c])
theorem ret2_eq {a b c d : Int} (h1 : a = b) (h2 : c = d) : Ending.returned (.tuple #[.int .i64 a, .int .i64 c]) = .returned (.tuple #[.int .i64 b, .int .i64 d]) := by rw [h1, h2]
/-- in how many letters two words differ, and the code. -/
def lettersV (xs ys : List Int) : Int × Int := if wordB xs 37 && wordB ys 37 then (if xs.length = ys.length then ((diffs xs ys : Nat), 0) else (0, 2)) else (0, 1)
theorem lim37 : lim 37 = 37 := rfl

set_option maxHeartbeats 2000000 in
theorem LettersApart_ok (A0 : Option Addr) (c0 : Nat) (xs : List Int) (A1 : Option Addr) (c1 : Nat) (ys : List Int) (w : World) (hx : Bytes xs) (hy : Bytes ys)
    (h0 : (Kd.int .u8).C w A0 xs.length xs) (h1 : (Kd.int .u8).C w A1 ys.length ys) :
    Calls Try.prog 20 #[.slice A0 xs.length c0, .slice A1 ys.length c1] w fun e w' => e = .returned (.tuple #[.int .i64 (lettersV xs ys).1, .int .i64 (lettersV xs ys).2]) ∧ Below w.heap.size w w' := by
  have hm : xs.length ≤ 9223372036854775807 := h0.2.1
  have hm1 : ys.length ≤ 9223372036854775807 := h1.2.1
  have HC0 := isWord_ok A0 c0 xs 37 w hx h0
  rw [lim37] at HC0
  have HC1 : Hid (∀ W, Below w.heap.size w W → Calls Try.prog 75 #[.slice A1 ys.length c1, .int .i64 37] W fun e w' => e = .returned (.bool (wordB ys 37)) ∧ Below W.heap.size W w') := fun W hb => isWord_ok A1 c1 ys 37 W hy (C_below' h1 hb)
  have HR0 := Lib.hid h0
  have HR1 := Lib.hid h1
  clear h0 h1 hx hy
  rcases hc0 : wordB xs 37 with _ | _
  · have HS := Lib.hid (show lettersV xs ys = (0, 1) by simp [lettersV, hc0])
    rw [hc0] at HC0
    have HC0' := Lib.hid HC0
    clear hc0 HC0
    go_enter Try.func20, Try.ntmps20
    go_wp2_with fail
    refine HC0'.out.mono ?_; rintro e w1 ⟨rfl, hb1⟩
    go_wp2_with fail
    go_ret2
    exact ⟨by rw [HS.out]; rfl, hb1⟩
  · rw [hc0] at HC0
    have HC0' := Lib.hid HC0
    clear HC0
    rcases hc1 : wordB ys 37 with _ | _
    · have HS := Lib.hid (show lettersV xs ys = (0, 1) by simp [lettersV, hc1])
      rw [hc1] at HC1
      clear hc1 hc0
      go_enter Try.func20, Try.ntmps20
      go_wp2_with fail
      refine HC0'.out.mono ?_; rintro e w1 ⟨rfl, hb1⟩
      go_wp2_with fail
      refine (HC1.out _ hb1).mono ?_; rintro e w2 ⟨rfl, hb2⟩
      go_wp2_with fail
      go_ret2
      exact ⟨by rw [HS.out]; rfl, hb1.trans (hb2.mono hb1.size)⟩
    · rw [hc1] at HC1
      by_cases hl : xs.length = ys.length
      · have HS := Lib.hid (show lettersV xs ys = (((diffs xs ys : Nat) : Int), 0) by simp [lettersV, hc1, hc0, hl])
        have hlb : ((xs.length : Int) != (ys.length : Int)) = false := by simp [hl]
        have HU : Hid (∀ W, Below w.heap.size w W → Calls Try.prog 60 #[.slice A0 xs.length c0, .slice A1 ys.length c1] W fun e w' => e = .returned (.int .i64 (diffs xs ys)) ∧ W = w') := fun W hb => unlike_ok A0 c0 xs A1 c1 ys W (C_below' HR0.out hb) (C_below' HR1.out hb) (by omega)
        clear hc1 hc0 hl
        go_enter Try.func20, Try.ntmps20
        go_wp2_with fail
        refine HC0'.out.mono ?_; rintro e w1 ⟨rfl, hb1⟩
        go_wp2_with fail
        refine (HC1.out _ hb1).mono ?_; rintro e w2 ⟨rfl, hb2⟩
        have hb3 := Lib.hid (hb1.trans (hb2.mono hb1.size))
        clear hb1 hb2
        go_wp2_with fail
        refine (HU.out _ hb3.out).mono ?_; rintro e w3 ⟨rfl, rfl⟩
        go_wp2_with fail
        go_ret2
        exact ⟨by rw [HS.out]; rfl, hb3.out⟩
      · have HS := Lib.hid (show lettersV xs ys = (0, 2) by simp [lettersV, hc1, hc0, hl])
        have hlb : ((xs.length : Int) != (ys.length : Int)) = true := by simp; omega
        clear hc1 hc0 hl
        go_enter Try.func20, Try.ntmps20
        go_wp2_with fail
        refine HC0'.out.mono ?_; rintro e w1 ⟨rfl, hb1⟩
        go_wp2_with fail
        refine (HC1.out _ hb1).mono ?_; rintro e w2 ⟨rfl, hb2⟩
        go_wp2_with fail
        go_ret2
        exact ⟨by rw [HS.out]; rfl, hb1.trans (hb2.mono hb1.size)⟩
end Go.Proofs.Ytjadhhnajphibaa
