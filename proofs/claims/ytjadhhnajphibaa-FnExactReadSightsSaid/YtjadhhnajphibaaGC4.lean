/- Contracts of functions and plain lemmas that the row stands on: Words that are valid; lists of words that are compared. Codes, sights and numbers that are compared. Rows of arrays that are compared. Codes that are compared. No conditions beyond those that each theorem names. -/
import Derived.Test.YtjadhhnajphibaaGC2
import Derived.Test.YtjadhhnajphibaaGC3
import Derived.StillTailTactics
set_option linter.unusedVariables false
set_option linter.unusedSimpArgs false
namespace Go.Proofs.Ytjadhhnajphibaa
open Go.RowKit Go.Proofs.YtjadhhnajphibaaW.PrintWords

def Bytes (xs : List Int) : Prop := ∀ i, 0 ≤ rn xs i ∧ rn xs i ≤ 255
/-- a word of 1 to 8 letters that are less than q. -/
def wordB (xs : List Int) (q : Int) : Bool := inB xs.length 1 8 && allB (fun i => decide (rn xs i < q)) xs.length
theorem wordB_no {xs : List Int} {q : Int} {k : Nat} (hk : k < xs.length) (h : decide (37 ≤ rn xs k) = true) (hq : q ≤ 37) : wordB xs q = false := by
  unfold wordB
  rw [allB_no hk (by simp at h; simp; omega), Bool.and_false]
theorem wordB_37 {xs : List Int} (h : ∀ i, i < xs.length → decide (37 ≤ rn xs i) = false) : inB xs.length 1 8 = wordB xs 37 := by
  unfold wordB
  rw [allB_iff.2 (fun i hi => by have := h i hi; simp at this; simp; omega), Bool.and_true]

set_option maxHeartbeats 1000000 in
theorem l05Word_ok (A0 : Option Addr) (c0 : Nat) (xs : List Int) (w : World) (h0 : (Kd.int .u8).C w A0 xs.length xs) :
    Calls Try.prog 74 #[.slice A0 xs.length c0] w fun e w' => e = .returned (.bool (wordB xs 37)) ∧ w = w' := by
  have hm : xs.length ≤ 9223372036854775807 := h0.2.1
  have H0 := Lib.hid h0
  clear h0
  go_enter Try.func74, Try.ntmps74
  go_wp2
  go_loop [3] (fun i => ∃ k : Nat, k ≤ xs.length ∧ i = .int .i64 k ∧ Hid (∀ j, j < k → decide (37 ≤ rn xs j) = false)) (fun i => xs.length - (intOf i).toNat)
  case atStart => exact ⟨0, Nat.zero_le _, rfl, fun j hj => absurd hj (by omega)⟩
  case round =>
    obtain ⟨k, hk, rfl, HA⟩ := hrel
    by_cases hlt : k < xs.length
    · obtain ⟨ad0, rfl, hx0⟩ := at_nat H0.out hlt
      rcases hc : decide (37 ≤ rn xs k) with _ | _
      · have HS := Lib.hid hc
        go_wp2
        go_round
        case rel =>
          refine ⟨k + 1, by omega, by go_num, fun j hj => ?_⟩
          by_cases e : j = k
          · rw [e]; exact HS.out
          · exact HA.out j (by omega)
        case measure => first|(simp [intOf]; done)|(simp [intOf]; omega)
      · have HS := Lib.hid (wordB_no hlt hc (Int.le_refl 37))
        go_wp2
        go_ret
        exact ⟨ret_bool HS.out.symm, rfl⟩
    · obtain rfl : k = xs.length := by omega
      have HS := Lib.hid (wordB_37 HA.out)
      go_wp2_with (go_at_call 62; refine (l00In_ok _ _ _ _).mono ?_; rintro e w' ⟨rfl, rfl⟩)
      go_ret
      exact ⟨ret_bool HS.out, rfl⟩

/-- valid words of one length, their letters less than q. -/
def wordsB (xss : List (List Int)) (q : Int) : Bool := allB (fun i => wordB (rl xss i) q && decide ((rl xss i).length = (rl xss 0).length)) xss.length

set_option maxHeartbeats 2000000 in
theorem l05Words_ok (A0 : Option Addr) (c0 : Nat) (xss : List (List Int)) (w : World) (h0 : (Kd.slice 5 (Kd.int .u8)).C w A0 xss.length xss) :
    Calls Try.prog 73 #[.slice A0 xss.length c0] w fun e w' => e = .returned (.bool (wordsB xss 37)) ∧ ∃ q, w' = w.drewN q := by
  have hm : xss.length ≤ 9223372036854775807 := h0.2.1
  have H0 := Lib.hid h0
  clear h0
  go_enter Try.func73, Try.ntmps73
  go_wp2
  go_loopw [3] (fun i wr => ∃ k q : Nat, k ≤ xss.length ∧ i = .int .i64 k ∧ Hid (∀ j, j < k → (wordB (rl xss j) 37 && decide ((rl xss j).length = (rl xss 0).length)) = true) ∧ wr = w.drewN q) (fun i _ => xss.length - (intOf i).toNat)
  case atStart => exact ⟨0, 0, Nat.zero_le _, rfl, fun j hj => absurd hj (by omega), rfl⟩
  case round =>
    obtain ⟨k, q, hk, rfl, HA, rfl⟩ := hrel
    by_cases hlt : k < xss.length
    · obtain ⟨ad0, A1, c1, rfl, hx0, hl1, hr1⟩ := at_row H0.out hlt
      obtain ⟨_, A2, c2, e2, hx2, hl2, hr2⟩ := at_row H0.out (show 0 < xss.length by omega)
      cases e2
      rw [Addr.add_zero'] at hx2
      have hlti : (k : Int) < (xss.length : Int) := by omega
      have h0i : (0 : Int) < (xss.length : Int) := by omega
      have h0n : 0 < xss.length := by omega
      have hn1 : (rl xss k).length ≤ 9223372036854775807 := hr1.2.1
      have hn2 : (rl xss 0).length ≤ 9223372036854775807 := hr2.2.1
      have HR1 := Lib.hid hr1
      clear hr1 hr2
      rcases hc : wordB (rl xss k) 37 with _ | _
      · have HS := Lib.hid (show wordsB xss 37 = false from allB_no hlt (by rw [hc]; rfl))
        have hcall : ∀ n, Calls Try.prog 74 #[.slice A1 (rl xss k).length c1] (w.drewN n) fun e w' => e = .returned (.bool false) ∧ w.drewN n = w' := by
          intro n
          rw [← hc]
          exact l05Word_ok A1 c1 _ _ HR1.out
        have HC := Lib.hid hcall
        clear hcall
        go_wp2
        go_quiet ((go_at_call 74; first | exact quiet_add_same (HC.out _) | exact quiet_same (HC.out _)))
        go_wp2
        go_ret
        exact ⟨ret_bool HS.out.symm, _, World.drewN_drewN ..⟩
      · have hcall : ∀ n, Calls Try.prog 74 #[.slice A1 (rl xss k).length c1] (w.drewN n) fun e w' => e = .returned (.bool true) ∧ w.drewN n = w' := by
          intro n
          rw [← hc]
          exact l05Word_ok A1 c1 _ _ HR1.out
        have HC := Lib.hid hcall
        clear hcall
        by_cases hl : (rl xss k).length = (rl xss 0).length
        · have hlb : (((rl xss k).length : Int) != ((rl xss 0).length : Int)) = false := by simp [hl]
          have HL := Lib.hid (show (wordB (rl xss k) 37 && decide ((rl xss k).length = (rl xss 0).length)) = true by simp [hc, hl])
          clear hl hc
          go_wp2
          go_quiet ((go_at_call 74; first | exact quiet_add_same (HC.out _) | exact quiet_same (HC.out _)))
          go_wp2
          go_roundw
          case rel =>
            refine ⟨k + 1, _, by omega, by go_num, fun j hj => ?_, rfl⟩
            by_cases e : j = k
            · rw [e]; exact HL.out
            · exact HA.out j (by omega)
          case measure => first|(simp [intOf]; done)|(simp [intOf]; omega)
        · have hlb : (((rl xss k).length : Int) != ((rl xss 0).length : Int)) = true := by simp; omega
          have HS := Lib.hid (show wordsB xss 37 = false from allB_no hlt (by simp [hl]))
          clear hl hc
          go_wp2
          go_quiet ((go_at_call 74; first | exact quiet_add_same (HC.out _) | exact quiet_same (HC.out _)))
          go_wp2
          go_ret
          exact ⟨ret_bool HS.out.symm, _, World.drewN_drewN ..⟩
    · obtain rfl : k = xss.length := by omega
      have HS := Lib.hid (show wordsB xss 37 = true from allB_iff.2 HA.out)
      go_wp2
      go_ret
      exact ⟨ret_bool HS.out.symm, _, rfl⟩

/-- lists of words are one. -/
def eqWB (xss yss : List (List Int)) : Bool := decide (xss.length = yss.length) && allB (fun i => eqB (rl xss i) (rl yss i)) xss.length
theorem eqWB_len {xs ys : List (List Int)} (h : xs.length ≠ ys.length) : eqWB xs ys = false := by simp [eqWB, h]
theorem eqWB_no {xs ys : List (List Int)} {k : Nat} (hk : k < xs.length) (h : eqB (rl xs k) (rl ys k) = false) : eqWB xs ys = false := by
  unfold eqWB
  rw [allB_no hk (by simpa using h), Bool.and_false]
theorem eqWB_yes {xs ys : List (List Int)} (hl : xs.length = ys.length) (h : ∀ i, i < xs.length → eqB (rl xs i) (rl ys i) = true) : eqWB xs ys = true := by
  unfold eqWB
  rw [allB_iff.2 (fun i hi => by simpa using h i hi)]
  simp [hl]
theorem eqWB_iff {xs ys : List (List Int)} : eqWB xs ys = true ↔ xs = ys := by
  unfold eqWB
  rw [Bool.and_eq_true, decide_eq_true_iff, allB_iff]
  constructor
  · rintro ⟨hl, h⟩
    apply List.ext_getElem hl
    intro i h1 h2
    have := eqB_iff.1 (h i h1)
    simpa [rl, List.getD_eq_getElem?_getD, h1, h2] using this
  · rintro rfl
    exact ⟨rfl, fun i _ => eqB_iff.2 rfl⟩

set_option maxHeartbeats 2000000 in
theorem SameWords_spec_ok (A0 : Option Addr) (c0 : Nat) (xss : List (List Int)) (A1 : Option Addr) (c1 : Nat) (yss : List (List Int)) (w : World)
    (h0 : (Kd.slice 5 (Kd.int .u8)).C w A0 xss.length xss) (h1 : (Kd.slice 5 (Kd.int .u8)).C w A1 yss.length yss) :
    Calls Try.prog 14 #[.slice A0 xss.length c0, .slice A1 yss.length c1] w fun e w' => e = .returned (.bool (eqWB xss yss)) ∧ ∃ q, w' = w.drewN q := by
  have hm : xss.length ≤ 9223372036854775807 := h0.2.1
  have hm1 : yss.length ≤ 9223372036854775807 := h1.2.1
  have H0 := Lib.hid h0
  have H1 := Lib.hid h1
  clear h0 h1
  by_cases hl : xss.length = yss.length
  · have HL := Lib.hid hl
    have hle : xss.length ≤ yss.length := by omega
    have hlb : ((xss.length : Int) != (yss.length : Int)) = false := by simp [hl]
    clear hl
    go_enter Try.func14, Try.ntmps14
    go_wp2
    go_loopw [5] (fun i wr => ∃ k q : Nat, k ≤ xss.length ∧ i = .int .i64 k ∧ Hid (∀ j, j < k → eqB (rl xss j) (rl yss j) = true) ∧ wr = w.drewN q) (fun i _ => xss.length - (intOf i).toNat)
    case atStart => exact ⟨0, 0, Nat.zero_le _, rfl, fun j hj => absurd hj (by omega), rfl⟩
    case round =>
      obtain ⟨k, q, hk, rfl, HA, rfl⟩ := hrel
      by_cases hlt : k < xss.length
      · obtain ⟨ad0, A3, c3, rfl, hx0, hl3, hr3⟩ := at_row H0.out hlt
        obtain ⟨ad1, A4, c4, rfl, hx1, hl4, hr4⟩ := at_row H1.out (show k < yss.length by omega)
        have hlt1 : k < yss.length := by omega
        have hlti : (k : Int) < (xss.length : Int) := by omega
        have hlti1 : (k : Int) < (yss.length : Int) := by omega
        have hcall : ∀ n, Calls Try.prog 66 #[.slice A3 (rl xss k).length c3, .slice A4 (rl yss k).length c4] (w.drewN n) fun e w' => e = .returned (.bool (eqB (rl xss k) (rl yss k))) ∧ ∃ m, w' = (w.drewN n).drewN m :=
          fun n => l05Same_ok A3 c3 _ A4 c4 _ _ hr3 hr4
        clear hr3 hr4
        have HC := Lib.hid hcall
        clear hcall
        rcases hc : eqB (rl xss k) (rl yss k) with _ | _
        · have HS := Lib.hid (eqWB_no hlt hc)
          go_wp2
          go_quiet ((go_at_call 66; first | exact quiet_add (HC.out _) | exact quiet_any (HC.out _)))
          go_wp2
          go_ret
          exact ⟨ret_bool HS.out.symm, _, World.drewN_drewN ..⟩
        · have HS := Lib.hid hc
          go_wp2
          go_quiet ((go_at_call 66; first | exact quiet_add (HC.out _) | exact quiet_any (HC.out _)))
          go_wp2
          go_roundw
          case rel =>
            refine ⟨k + 1, _, by omega, by go_num, fun j hj => ?_, rfl⟩
            by_cases e : j = k
            · rw [e]; exact HS.out
            · exact HA.out j (by omega)
          case measure => first|(simp [intOf]; done)|(simp [intOf]; omega)
      · obtain rfl : k = xss.length := by omega
        have HS := Lib.hid (eqWB_yes HL.out HA.out)
        go_wp2
        go_ret
        exact ⟨ret_bool HS.out.symm, _, rfl⟩
  · have HS := Lib.hid (eqWB_len hl)
    have hlb : ((xss.length : Int) != (yss.length : Int)) = true := by simp; omega
    go_enter Try.func14, Try.ntmps14
    go_wp2
    go_ret
    exact ⟨ret_bool HS.out.symm, 0, rfl⟩

end Go.Proofs.Ytjadhhnajphibaa
namespace Go.Proofs.Ytjadhhnajphibaa
open Go.RowKit Go.Proofs.YtjadhhnajphibaaW.PrintWords

set_option maxRecDepth 100000 in
set_option maxHeartbeats 2000000 in
theorem eqFlag_ok (f g : List Int) (hf : f.length = 24) (hg : g.length = 24) (w : World) :
    Calls Try.prog 116 #[av f, av g] w fun e w' => e = .returned (.bool (eqB f g)) ∧ Below w.heap.size w w' := by
  unfold av
  have HF := Lib.hid hf
  have HG := Lib.hid hg
  clear hf hg
  go_enter Try.func116, Try.ntmps116
  go_wp2
  have H1 := Lib.hid ((NB.new (kd := .u8) w 78 f).alloc (.cells (nums .u8 g).toArray 78))
  have h2 := NB.new (kd := .u8) (w.alloc (.cells (nums .u8 f).toArray 78)) 78 g
  rw [size_box] at h2
  have H2 := Lib.hid h2
  have HB := Lib.hid (below_alloc (below_box w (.cells (nums .u8 f).toArray 78)) (.cells (nums .u8 g).toArray 78))
  clear h2
  generalize (w.alloc (.cells (nums .u8 f).toArray 78)).alloc (.cells (nums .u8 g).toArray 78) = W0 at *
  go_loopw [5] (fun i wr => ∃ k q : Nat, k ≤ 24 ∧ i = .int .i64 k ∧ Hid (∀ j, j < k → (rn f j != rn g j) = false) ∧ wr = W0.drewN q) (fun i _ => 24 - (intOf i).toNat)
  case atStart => exact ⟨0, 0, by omega, rfl, fun j hj => absurd hj (by omega), rfl⟩
  case round =>
    obtain ⟨k, q, hk, rfl, HA, rfl⟩ := hrel
    by_cases hlt : k < 24
    · have hx0 := H1.out.cell (i := k) (by rw [HF.out]; exact hlt)
      have hx1 := H2.out.cell (i := k) (by rw [HG.out]; exact hlt)
      have hlti : (k : Int) < 24 := by omega
      rcases hc : (rn f k != rn g k) with _ | _
      · have HS := Lib.hid hc
        go_wp2
        go_quiet (fail)
        go_wp2
        go_roundw
        case rel =>
          refine ⟨k + 1, _, by omega, by go_num, fun j hj => ?_, rfl⟩
          by_cases e : j = k
          · rw [e]; exact HS.out
          · exact HA.out j (by omega)
        case measure => first|(simp [intOf]; done)|(simp [intOf]; omega)
      · have HS := Lib.hid (eqB_no (xs := f) (ys := g) (by rw [HF.out]; exact hlt) hc)
        go_wp2
        go_quiet (fail)
        go_wp2
        go_ret
        exact ⟨ret_bool HS.out.symm, below_dN (below_dN HB.out _) _⟩
    · obtain rfl : k = 24 := by omega
      have HS := Lib.hid (eqB_yes (xs := f) (ys := g) (by rw [HF.out, HG.out]) (by rw [HF.out]; exact HA.out))
      go_wp2
      go_ret
      exact ⟨ret_bool HS.out.symm, below_dN HB.out _⟩

set_option maxRecDepth 100000 in
set_option maxHeartbeats 2000000 in
theorem eqSight_ok (f g : List Int) (hf : f.length = 6) (hg : g.length = 6) (w : World) :
    Calls Try.prog 88 #[av f, av g] w fun e w' => e = .returned (.bool (eqB f g)) ∧ Below w.heap.size w w' := by
  unfold av
  have HF := Lib.hid hf
  have HG := Lib.hid hg
  clear hf hg
  go_enter Try.func88, Try.ntmps88
  go_wp2
  have H1 := Lib.hid ((NB.new (kd := .u8) w 72 f).alloc (.cells (nums .u8 g).toArray 72))
  have h2 := NB.new (kd := .u8) (w.alloc (.cells (nums .u8 f).toArray 72)) 72 g
  rw [size_box] at h2
  have H2 := Lib.hid h2
  have HB := Lib.hid (below_alloc (below_box w (.cells (nums .u8 f).toArray 72)) (.cells (nums .u8 g).toArray 72))
  clear h2
  generalize (w.alloc (.cells (nums .u8 f).toArray 72)).alloc (.cells (nums .u8 g).toArray 72) = W0 at *
  go_loopw [5] (fun i wr => ∃ k q : Nat, k ≤ 6 ∧ i = .int .i64 k ∧ Hid (∀ j, j < k → (rn f j != rn g j) = false) ∧ wr = W0.drewN q) (fun i _ => 6 - (intOf i).toNat)
  case atStart => exact ⟨0, 0, by omega, rfl, fun j hj => absurd hj (by omega), rfl⟩
  case round =>
    obtain ⟨k, q, hk, rfl, HA, rfl⟩ := hrel
    by_cases hlt : k < 6
    · have hx0 := H1.out.cell (i := k) (by rw [HF.out]; exact hlt)
      have hx1 := H2.out.cell (i := k) (by rw [HG.out]; exact hlt)
      have hlti : (k : Int) < 6 := by omega
      rcases hc : (rn f k != rn g k) with _ | _
      · have HS := Lib.hid hc
        go_wp2
        go_quiet (fail)
        go_wp2
        go_roundw
        case rel =>
          refine ⟨k + 1, _, by omega, by go_num, fun j hj => ?_, rfl⟩
          by_cases e : j = k
          · rw [e]; exact HS.out
          · exact HA.out j (by omega)
        case measure => first|(simp [intOf]; done)|(simp [intOf]; omega)
      · have HS := Lib.hid (eqB_no (xs := f) (ys := g) (by rw [HF.out]; exact hlt) hc)
        go_wp2
        go_quiet (fail)
        go_wp2
        go_ret
        exact ⟨ret_bool HS.out.symm, below_dN (below_dN HB.out _) _⟩
    · obtain rfl : k = 6 := by omega
      have HS := Lib.hid (eqB_yes (xs := f) (ys := g) (by rw [HF.out, HG.out]) (by rw [HF.out]; exact HA.out))
      go_wp2
      go_ret
      exact ⟨ret_bool HS.out.symm, below_dN HB.out _⟩

set_option maxHeartbeats 1000000 in
theorem eqWord_ok (A0 : Option Addr) (c0 : Nat) (xs : List Int) (A1 : Option Addr) (c1 : Nat) (ys : List Int) (w : World)
    (h0 : (Kd.int .u8).C w A0 xs.length xs) (h1 : (Kd.int .u8).C w A1 ys.length ys) :
    Calls Try.prog 117 #[.slice A0 xs.length c0, .slice A1 ys.length c1] w fun e w' => e = .returned (.bool (eqB xs ys)) ∧ ∃ q, w' = w.drewN q := by
  have hm : xs.length ≤ 9223372036854775807 := h0.2.1
  have hm1 : ys.length ≤ 9223372036854775807 := h1.2.1
  have H0 := Lib.hid h0
  have H1 := Lib.hid h1
  clear h0 h1
  by_cases hl : xs.length = ys.length
  · have HL := Lib.hid hl
    have hle : xs.length ≤ ys.length := by omega
    have hlb : ((xs.length : Int) != (ys.length : Int)) = false := by simp [hl]
    clear hl
    go_enter Try.func117, Try.ntmps117
    go_wp2
    go_loopw [5] (fun i wr => ∃ k q : Nat, k ≤ xs.length ∧ i = .int .i64 k ∧ Hid (∀ j, j < k → (rn xs j != rn ys j) = false) ∧ wr = w.drewN q) (fun i _ => xs.length - (intOf i).toNat)
    case atStart => exact ⟨0, 0, Nat.zero_le _, rfl, fun j hj => absurd hj (by omega), rfl⟩
    case round =>
      obtain ⟨k, q, hk, rfl, HA, rfl⟩ := hrel
      by_cases hlt : k < xs.length
      · obtain ⟨ad0, rfl, hx0⟩ := at_nat H0.out hlt
        obtain ⟨ad1, rfl, hx1⟩ := at_nat H1.out (show k < ys.length by omega)
        have hlt1 : k < ys.length := by omega
        have hlti : (k : Int) < (xs.length : Int) := by omega
        have hlti1 : (k : Int) < (ys.length : Int) := by omega
        rcases hc : (rn xs k != rn ys k) with _ | _
        · have HS := Lib.hid hc
          go_wp2
          go_quiet (fail)
          go_wp2
          go_roundw
          case rel =>
            refine ⟨k + 1, _, by omega, by go_num, fun j hj => ?_, rfl⟩
            by_cases e : j = k
            · rw [e]; exact HS.out
            · exact HA.out j (by omega)
          case measure => first|(simp [intOf]; done)|(simp [intOf]; omega)
        · have HS := Lib.hid (eqB_no hlt hc)
          go_wp2
          go_quiet (fail)
          go_wp2
          go_ret
          exact ⟨ret_bool HS.out.symm, _, World.drewN_drewN ..⟩
      · obtain rfl : k = xs.length := by omega
        have HS := Lib.hid (eqB_yes HL.out HA.out)
        go_wp2
        go_ret
        exact ⟨ret_bool HS.out.symm, _, rfl⟩
  · have HS := Lib.hid (eqB_len hl)
    have hlb : ((xs.length : Int) != (ys.length : Int)) = true := by simp; omega
    go_enter Try.func117, Try.ntmps117
    go_wp2
    go_ret
    exact ⟨ret_bool HS.out.symm, 0, rfl⟩

set_option maxHeartbeats 1000000 in
theorem eqInt64S_ok (A0 : Option Addr) (c0 : Nat) (xs : List Int) (A1 : Option Addr) (c1 : Nat) (ys : List Int) (w : World)
    (h0 : (Kd.int .i64).C w A0 xs.length xs) (h1 : (Kd.int .i64).C w A1 ys.length ys) :
    Calls Try.prog 38 #[.slice A0 xs.length c0, .slice A1 ys.length c1] w fun e w' => e = .returned (.bool (eqB xs ys)) ∧ ∃ q, w' = w.drewN q := by
  have hm : xs.length ≤ 9223372036854775807 := h0.2.1
  have hm1 : ys.length ≤ 9223372036854775807 := h1.2.1
  have H0 := Lib.hid h0
  have H1 := Lib.hid h1
  clear h0 h1
  by_cases hl : xs.length = ys.length
  · have HL := Lib.hid hl
    have hle : xs.length ≤ ys.length := by omega
    have hlb : ((xs.length : Int) != (ys.length : Int)) = false := by simp [hl]
    clear hl
    go_enter Try.func38, Try.ntmps38
    go_wp2
    go_loopw [5] (fun i wr => ∃ k q : Nat, k ≤ xs.length ∧ i = .int .i64 k ∧ Hid (∀ j, j < k → (rn xs j != rn ys j) = false) ∧ wr = w.drewN q) (fun i _ => xs.length - (intOf i).toNat)
    case atStart => exact ⟨0, 0, Nat.zero_le _, rfl, fun j hj => absurd hj (by omega), rfl⟩
    case round =>
      obtain ⟨k, q, hk, rfl, HA, rfl⟩ := hrel
      by_cases hlt : k < xs.length
      · obtain ⟨ad0, rfl, hx0⟩ := at_nat H0.out hlt
        obtain ⟨ad1, rfl, hx1⟩ := at_nat H1.out (show k < ys.length by omega)
        have hlt1 : k < ys.length := by omega
        have hlti : (k : Int) < (xs.length : Int) := by omega
        have hlti1 : (k : Int) < (ys.length : Int) := by omega
        rcases hc : (rn xs k != rn ys k) with _ | _
        · have HS := Lib.hid hc
          go_wp2
          go_quiet (fail)
          go_wp2
          go_roundw
          case rel =>
            refine ⟨k + 1, _, by omega, by go_num, fun j hj => ?_, rfl⟩
            by_cases e : j = k
            · rw [e]; exact HS.out
            · exact HA.out j (by omega)
          case measure => first|(simp [intOf]; done)|(simp [intOf]; omega)
        · have HS := Lib.hid (eqB_no hlt hc)
          go_wp2
          go_quiet (fail)
          go_wp2
          go_ret
          exact ⟨ret_bool HS.out.symm, _, World.drewN_drewN ..⟩
      · obtain rfl : k = xs.length := by omega
        have HS := Lib.hid (eqB_yes HL.out HA.out)
        go_wp2
        go_ret
        exact ⟨ret_bool HS.out.symm, _, rfl⟩
  · have HS := Lib.hid (eqB_len hl)
    have hlb : ((xs.length : Int) != (ys.length : Int)) = true := by simp; omega
    go_enter Try.func38, Try.ntmps38
    go_wp2
    go_ret
    exact ⟨ret_bool HS.out.symm, 0, rfl⟩

set_option maxHeartbeats 2000000 in
theorem eqWordS_ok (A0 : Option Addr) (c0 : Nat) (xss : List (List Int)) (A1 : Option Addr) (c1 : Nat) (yss : List (List Int)) (w : World)
    (h0 : (Kd.slice 5 (Kd.int .u8)).C w A0 xss.length xss) (h1 : (Kd.slice 5 (Kd.int .u8)).C w A1 yss.length yss) :
    Calls Try.prog 87 #[.slice A0 xss.length c0, .slice A1 yss.length c1] w fun e w' => e = .returned (.bool (eqWB xss yss)) ∧ ∃ q, w' = w.drewN q := by
  have hm : xss.length ≤ 9223372036854775807 := h0.2.1
  have hm1 : yss.length ≤ 9223372036854775807 := h1.2.1
  have H0 := Lib.hid h0
  have H1 := Lib.hid h1
  clear h0 h1
  by_cases hl : xss.length = yss.length
  · have HL := Lib.hid hl
    have hle : xss.length ≤ yss.length := by omega
    have hlb : ((xss.length : Int) != (yss.length : Int)) = false := by simp [hl]
    clear hl
    go_enter Try.func87, Try.ntmps87
    go_wp2
    go_loopw [5] (fun i wr => ∃ k q : Nat, k ≤ xss.length ∧ i = .int .i64 k ∧ Hid (∀ j, j < k → eqB (rl xss j) (rl yss j) = true) ∧ wr = w.drewN q) (fun i _ => xss.length - (intOf i).toNat)
    case atStart => exact ⟨0, 0, Nat.zero_le _, rfl, fun j hj => absurd hj (by omega), rfl⟩
    case round =>
      obtain ⟨k, q, hk, rfl, HA, rfl⟩ := hrel
      by_cases hlt : k < xss.length
      · obtain ⟨ad0, A3, c3, rfl, hx0, hl3, hr3⟩ := at_row H0.out hlt
        obtain ⟨ad1, A4, c4, rfl, hx1, hl4, hr4⟩ := at_row H1.out (show k < yss.length by omega)
        have hlt1 : k < yss.length := by omega
        have hlti : (k : Int) < (xss.length : Int) := by omega
        have hlti1 : (k : Int) < (yss.length : Int) := by omega
        have hcall : ∀ n, Calls Try.prog 117 #[.slice A3 (rl xss k).length c3, .slice A4 (rl yss k).length c4] (w.drewN n) fun e w' => e = .returned (.bool (eqB (rl xss k) (rl yss k))) ∧ ∃ m, w' = (w.drewN n).drewN m :=
          fun n => eqWord_ok A3 c3 _ A4 c4 _ _ hr3 hr4
        clear hr3 hr4
        have HC := Lib.hid hcall
        clear hcall
        rcases hc : eqB (rl xss k) (rl yss k) with _ | _
        · have HS := Lib.hid (eqWB_no hlt hc)
          go_wp2
          go_quiet ((go_at_call 117; first | exact quiet_add (HC.out _) | exact quiet_any (HC.out _)))
          go_wp2
          go_ret
          exact ⟨ret_bool HS.out.symm, _, World.drewN_drewN ..⟩
        · have HS := Lib.hid hc
          go_wp2
          go_quiet ((go_at_call 117; first | exact quiet_add (HC.out _) | exact quiet_any (HC.out _)))
          go_wp2
          go_roundw
          case rel =>
            refine ⟨k + 1, _, by omega, by go_num, fun j hj => ?_, rfl⟩
            by_cases e : j = k
            · rw [e]; exact HS.out
            · exact HA.out j (by omega)
          case measure => first|(simp [intOf]; done)|(simp [intOf]; omega)
      · obtain rfl : k = xss.length := by omega
        have HS := Lib.hid (eqWB_yes HL.out HA.out)
        go_wp2
        go_ret
        exact ⟨ret_bool HS.out.symm, _, rfl⟩
  · have HS := Lib.hid (eqWB_len hl)
    have hlb : ((xss.length : Int) != (yss.length : Int)) = true := by simp; omega
    go_enter Try.func87, Try.ntmps87
    go_wp2
    go_ret
    exact ⟨ret_bool HS.out.symm, 0, rfl⟩

end Go.Proofs.Ytjadhhnajphibaa
namespace Go.Proofs.Ytjadhhnajphibaa
open Go.RowKit Go.Proofs.YtjadhhnajphibaaW.PrintWords

theorem below_one {B : Nat} {w W : World} (h : Below B w W) : Below B w { heap := W.heap, tape := W.tape, drawn := W.drawn + 1, os := W.os, output := W.output } := ⟨h.os, h.tape, h.output, h.size, h.block⟩
section
variable {P : Program}
theorem still_load_agg {ops : Array Oper} {rest : List Oper} {op : Oper} {a : Act} {w : World} {Q : Act → Prop} (hgd : op.guard = none) (ty : TypeId) (x : Operand) (ho : op.op = .load ty x)
    (a0 : Addr) (hx : a.eval x = .pointer (some a0)) (cs : List Value) (d : TypeDesc) (hc : ∀ j v, cs[j]? = some v → w.cell? (a0.add j) = some v)
    (hu : P.underlying ty = some d) (hd : d.isRow = true) (hi : (P.info? ty).map (·.size) = some cs.length)
    (h : wpStill P ops w Q rest (a.put op.dst (.agg cs.toArray))) : wpStill P ops w Q (op :: rest) a :=
  wpStill_step fun K hK => by
    have hw : Region.wanted op (yielded ops a.tmps) = true := by simp [Region.wanted, hgd]
    rw [if_pos hw]
    unfold Oper.still execOp
    simp only [ho, hx, Instr.loadAt, Instr.sureAddr, Sem.run_bind, Sem.run_pure, Result.andThen_ok, run_loadVar_agg w a0 ty cs d hc hu hd hi]
    exact ⟨rfl, hK _ h⟩
end
set_option maxRecDepth 100000 in
set_option maxHeartbeats 4000000 in
theorem eqFlagS_ok (A0 : Option Addr) (c0 : Nat) (fs : List (List Int)) (A1 : Option Addr) (c1 : Nat) (gs : List (List Int)) (w : World) (h0 : (Karr 24).C w A0 fs.length fs) (h1 : (Karr 24).C w A1 gs.length gs) :
    Calls Try.prog 86 #[.slice A0 fs.length c0, .slice A1 gs.length c1] w fun e w' => e = .returned (.bool (eqWB fs gs)) ∧ Below w.heap.size w w' := by
  have hm : fs.length ≤ 9223372036854775807 := h0.2.1
  have hm1 : gs.length ≤ 9223372036854775807 := h1.2.1
  have H0 := Lib.hid h0
  have H1 := Lib.hid h1
  clear h0 h1
  by_cases hl : fs.length = gs.length
  · have HL := Lib.hid hl
    have hle : fs.length ≤ gs.length := by omega
    have hlb : ((fs.length : Int) != (gs.length : Int)) = false := by simp [hl]
    clear hl
    go_enter Try.func86, Try.ntmps86
    go_wp2
    go_loopw [5] (fun i wr => ∃ k : Nat, k ≤ fs.length ∧ i = .int .i64 k ∧ Hid (∀ j, j < k → eqB (rl fs j) (rl gs j) = true) ∧ Hid (Below w.heap.size w wr)) (fun i _ => fs.length - (intOf i).toNat)
    case atStart => exact ⟨0, Nat.zero_le _, rfl, fun j hj => absurd hj (by omega), Below.refl _ _⟩
    case round =>
      obtain ⟨k, hk, rfl, HA, HB⟩ := hrel
      by_cases hlt : k < fs.length
      · obtain ⟨ad0, rfl, hl0, hx0⟩ := at_arr (C_below' H0.out HB.out) hlt
        obtain ⟨ad1, rfl, hl1, hx1⟩ := at_arr (C_below' H1.out HB.out) (show k < gs.length by omega)
        have hlt1 : k < gs.length := by omega
        have hlti : (k : Int) < (fs.length : Int) := by omega
        have hlti1 : (k : Int) < (gs.length : Int) := by omega
        have HX0 := Lib.hid hx0
        have HX1 := Lib.hid hx1
        have HL0 := Lib.hid hl0
        have HL1 := Lib.hid hl1
        clear hx0 hx1 hl0 hl1
        have hcall : ∀ w2, Calls Try.prog 116 #[.agg (nums .u8 (rl fs k)).toArray, .agg (nums .u8 (rl gs k)).toArray] w2 fun e w' => e = .returned (.bool (eqB (rl fs k) (rl gs k))) ∧ Below w2.heap.size w2 w' :=
          fun w2 => eqFlag_ok (rl fs k) (rl gs k) HL0.out HL1.out w2
        have HC := Lib.hid hcall
        clear hcall
        rcases hc : eqB (rl fs k) (rl gs k) with _ | _
        · have HS := Lib.hid (eqWB_no hlt hc)
          rw [hc] at HC
          go_wp2
          go_still_tail 8, (by kernel_rfl)
          refine still_load_agg rfl 78 (.tmp 19) rfl _ rfl (nums .u8 (rl fs k)) _ HX0.out Try.underlying78 rfl (by rw [nums_length, HL0.out]; exact ainfo_flag) ?_
          repeat still_step
          refine still_load_agg rfl 78 (.tmp 23) rfl _ rfl (nums .u8 (rl gs k)) _ HX1.out Try.underlying78 rfl (by rw [nums_length, HL1.out]; exact ainfo_flag) ?_
          refine wpStill_nil ?_
          go_simp
          go_wp2_with (go_at_call 116; refine (HC.out _).mono ?_; rintro e w1 ⟨rfl, hb1⟩; have HB1 := Lib.hid ((below_one HB.out).trans (hb1.mono (below_one HB.out).size)); clear hb1)
          go_ret
          exact ⟨ret_bool HS.out.symm, HB1.out⟩
        · have HS := Lib.hid hc
          rw [hc] at HC
          go_wp2
          go_still_tail 8, (by kernel_rfl)
          refine still_load_agg rfl 78 (.tmp 19) rfl _ rfl (nums .u8 (rl fs k)) _ HX0.out Try.underlying78 rfl (by rw [nums_length, HL0.out]; exact ainfo_flag) ?_
          repeat still_step
          refine still_load_agg rfl 78 (.tmp 23) rfl _ rfl (nums .u8 (rl gs k)) _ HX1.out Try.underlying78 rfl (by rw [nums_length, HL1.out]; exact ainfo_flag) ?_
          refine wpStill_nil ?_
          go_simp
          go_wp2_with (go_at_call 116; refine (HC.out _).mono ?_; rintro e w1 ⟨rfl, hb1⟩; have HB1 := Lib.hid ((below_one HB.out).trans (hb1.mono (below_one HB.out).size)); clear hb1)
          go_roundw
          case rel =>
            refine ⟨k + 1, by omega, by go_num, fun j hj => ?_, HB1.out⟩
            by_cases e : j = k
            · rw [e]; exact HS.out
            · exact HA.out j (by omega)
          case measure => first|(simp [intOf]; done)|(simp [intOf]; omega)
      · obtain rfl : k = fs.length := by omega
        have HS := Lib.hid (eqWB_yes HL.out HA.out)
        go_wp2
        go_ret
        exact ⟨ret_bool HS.out.symm, HB.out⟩
  · have HS := Lib.hid (eqWB_len hl)
    have hlb : ((fs.length : Int) != (gs.length : Int)) = true := by simp; omega
    go_enter Try.func86, Try.ntmps86
    go_wp2
    go_ret
    exact ⟨ret_bool HS.out.symm, Below.refl _ _⟩

set_option maxRecDepth 100000 in
set_option maxHeartbeats 4000000 in
theorem eqSightS_ok (A0 : Option Addr) (c0 : Nat) (fs : List (List Int)) (A1 : Option Addr) (c1 : Nat) (gs : List (List Int)) (w : World) (h0 : (Karr 6).C w A0 fs.length fs) (h1 : (Karr 6).C w A1 gs.length gs) :
    Calls Try.prog 28 #[.slice A0 fs.length c0, .slice A1 gs.length c1] w fun e w' => e = .returned (.bool (eqWB fs gs)) ∧ Below w.heap.size w w' := by
  have hm : fs.length ≤ 9223372036854775807 := h0.2.1
  have hm1 : gs.length ≤ 9223372036854775807 := h1.2.1
  have H0 := Lib.hid h0
  have H1 := Lib.hid h1
  clear h0 h1
  by_cases hl : fs.length = gs.length
  · have HL := Lib.hid hl
    have hle : fs.length ≤ gs.length := by omega
    have hlb : ((fs.length : Int) != (gs.length : Int)) = false := by simp [hl]
    clear hl
    go_enter Try.func28, Try.ntmps28
    go_wp2
    go_loopw [5] (fun i wr => ∃ k : Nat, k ≤ fs.length ∧ i = .int .i64 k ∧ Hid (∀ j, j < k → eqB (rl fs j) (rl gs j) = true) ∧ Hid (Below w.heap.size w wr)) (fun i _ => fs.length - (intOf i).toNat)
    case atStart => exact ⟨0, Nat.zero_le _, rfl, fun j hj => absurd hj (by omega), Below.refl _ _⟩
    case round =>
      obtain ⟨k, hk, rfl, HA, HB⟩ := hrel
      by_cases hlt : k < fs.length
      · obtain ⟨ad0, rfl, hl0, hx0⟩ := at_arr (C_below' H0.out HB.out) hlt
        obtain ⟨ad1, rfl, hl1, hx1⟩ := at_arr (C_below' H1.out HB.out) (show k < gs.length by omega)
        have hlt1 : k < gs.length := by omega
        have hlti : (k : Int) < (fs.length : Int) := by omega
        have hlti1 : (k : Int) < (gs.length : Int) := by omega
        have HX0 := Lib.hid hx0
        have HX1 := Lib.hid hx1
        have HL0 := Lib.hid hl0
        have HL1 := Lib.hid hl1
        clear hx0 hx1 hl0 hl1
        have hcall : ∀ w2, Calls Try.prog 88 #[.agg (nums .u8 (rl fs k)).toArray, .agg (nums .u8 (rl gs k)).toArray] w2 fun e w' => e = .returned (.bool (eqB (rl fs k) (rl gs k))) ∧ Below w2.heap.size w2 w' :=
          fun w2 => eqSight_ok (rl fs k) (rl gs k) HL0.out HL1.out w2
        have HC := Lib.hid hcall
        clear hcall
        rcases hc : eqB (rl fs k) (rl gs k) with _ | _
        · have HS := Lib.hid (eqWB_no hlt hc)
          rw [hc] at HC
          go_wp2
          go_still_tail 8, (by kernel_rfl)
          refine still_load_agg rfl 72 (.tmp 19) rfl _ rfl (nums .u8 (rl fs k)) _ HX0.out Try.underlying72 rfl (by rw [nums_length, HL0.out]; exact ainfo_sight) ?_
          repeat still_step
          refine still_load_agg rfl 72 (.tmp 23) rfl _ rfl (nums .u8 (rl gs k)) _ HX1.out Try.underlying72 rfl (by rw [nums_length, HL1.out]; exact ainfo_sight) ?_
          refine wpStill_nil ?_
          go_simp
          go_wp2_with (go_at_call 88; refine (HC.out _).mono ?_; rintro e w1 ⟨rfl, hb1⟩; have HB1 := Lib.hid ((below_one HB.out).trans (hb1.mono (below_one HB.out).size)); clear hb1)
          go_ret
          exact ⟨ret_bool HS.out.symm, HB1.out⟩
        · have HS := Lib.hid hc
          rw [hc] at HC
          go_wp2
          go_still_tail 8, (by kernel_rfl)
          refine still_load_agg rfl 72 (.tmp 19) rfl _ rfl (nums .u8 (rl fs k)) _ HX0.out Try.underlying72 rfl (by rw [nums_length, HL0.out]; exact ainfo_sight) ?_
          repeat still_step
          refine still_load_agg rfl 72 (.tmp 23) rfl _ rfl (nums .u8 (rl gs k)) _ HX1.out Try.underlying72 rfl (by rw [nums_length, HL1.out]; exact ainfo_sight) ?_
          refine wpStill_nil ?_
          go_simp
          go_wp2_with (go_at_call 88; refine (HC.out _).mono ?_; rintro e w1 ⟨rfl, hb1⟩; have HB1 := Lib.hid ((below_one HB.out).trans (hb1.mono (below_one HB.out).size)); clear hb1)
          go_roundw
          case rel =>
            refine ⟨k + 1, by omega, by go_num, fun j hj => ?_, HB1.out⟩
            by_cases e : j = k
            · rw [e]; exact HS.out
            · exact HA.out j (by omega)
          case measure => first|(simp [intOf]; done)|(simp [intOf]; omega)
      · obtain rfl : k = fs.length := by omega
        have HS := Lib.hid (eqWB_yes HL.out HA.out)
        go_wp2
        go_ret
        exact ⟨ret_bool HS.out.symm, HB.out⟩
  · have HS := Lib.hid (eqWB_len hl)
    have hlb : ((fs.length : Int) != (gs.length : Int)) = true := by simp; omega
    go_enter Try.func28, Try.ntmps28
    go_wp2
    go_ret
    exact ⟨ret_bool HS.out.symm, Below.refl _ _⟩

end Go.Proofs.Ytjadhhnajphibaa
namespace Go.Proofs.Ytjadhhnajphibaa
open Go.RowKit Go.Proofs.YtjadhhnajphibaaW.PrintWords

set_option maxHeartbeats 4000000 in
theorem eqCode_ok (A0 : Option Addr) (c0 : Nat) (fs : List (List Int)) (A1 : Option Addr) (c1 : Nat) (ws : List (List Int)) (A2 : Option Addr) (c2 : Nat) (gs : List (List Int)) (A3 : Option Addr) (c3 : Nat) (xs : List (List Int)) (w : World)
    (h0 : (Karr 24).C w A0 fs.length fs) (h1 : (Kd.slice 5 (Kd.int .u8)).C w A1 ws.length ws) (h2 : (Karr 24).C w A2 gs.length gs) (h3 : (Kd.slice 5 (Kd.int .u8)).C w A3 xs.length xs) :
    Calls Try.prog 25 #[.agg #[.slice A0 fs.length c0, .slice A1 ws.length c1], .agg #[.slice A2 gs.length c2, .slice A3 xs.length c3]] w fun e w' => e = .returned (.bool (eqWB fs gs && eqWB ws xs)) ∧ Below w.heap.size w w' := by
  have hb1 : Below w.heap.size w ((w.alloc (.cells #[.slice A0 fs.length c0, .slice A1 ws.length c1] 46)).alloc (.cells #[.slice A2 gs.length c2, .slice A3 xs.length c3] 46)) := below_alloc (below_box _ _) _
  have k0 : ((w.alloc (.cells #[.slice A0 fs.length c0, .slice A1 ws.length c1] 46)).alloc (.cells #[.slice A2 gs.length c2, .slice A3 xs.length c3] 46)).heap[w.heap.size]? = some (.cells #[.slice A0 fs.length c0, .slice A1 ws.length c1] 46 (0, 0)) := blk_alloc (heap_alloc_new w _) _
  have k1 : ((w.alloc (.cells #[.slice A0 fs.length c0, .slice A1 ws.length c1] 46)).alloc (.cells #[.slice A2 gs.length c2, .slice A3 xs.length c3] 46)).heap[w.heap.size + 1]? = some (.cells #[.slice A2 gs.length c2, .slice A3 xs.length c3] 46 (0, 0)) := by
    have := heap_alloc_new (w.alloc (.cells #[.slice A0 fs.length c0, .slice A1 ws.length c1] 46)) (.cells #[.slice A2 gs.length c2, .slice A3 xs.length c3] 46)
    rwa [size_box] at this
  have hsz : ((w.alloc (.cells #[.slice A0 fs.length c0, .slice A1 ws.length c1] 46)).alloc (.cells #[.slice A2 gs.length c2, .slice A3 xs.length c3] 46)).heap.size = w.heap.size + 2 := by rw [size_box, size_box]
  have HB := Lib.hid hb1
  have K0 := Lib.hid k0
  have K1 := Lib.hid k1
  have HSZ := Lib.hid hsz
  have H0 := Lib.hid h0
  have H1 := Lib.hid h1
  have H2 := Lib.hid h2
  have H3 := Lib.hid h3
  clear hb1 k0 k1 h0 h1 h2 h3 hsz
  rcases hc : eqWB fs gs with _ | _
  · have HC := Lib.hid hc
    clear hc
    go_enter Try.func25, Try.ntmps25
    go_wp2_with fail
    refine (eqFlagS_ok A0 c0 fs A2 c2 gs _ (C_below' H0.out HB.out) (C_below' H2.out HB.out)).mono ?_
    rintro e w1 ⟨rfl, hb1⟩
    rw [HC.out]
    have HB1 := Lib.hid (HB.out.trans (hb1.mono HB.out.size))
    clear hb1
    go_wp2_with fail
    go_ret
    exact ⟨rfl, HB1.out⟩
  · have HC := Lib.hid hc
    clear hc
    go_enter Try.func25, Try.ntmps25
    go_wp2_with fail
    generalize ((w.alloc (.cells #[.slice A0 fs.length c0, .slice A1 ws.length c1] 46)).alloc (.cells #[.slice A2 gs.length c2, .slice A3 xs.length c3] 46)) = W0 at *
    refine (eqFlagS_ok A0 c0 fs A2 c2 gs W0 (C_below' H0.out HB.out) (C_below' H2.out HB.out)).mono ?_
    rintro e w1 ⟨rfl, hb1⟩
    rw [HC.out]
    have HB1 := Lib.hid (HB.out.trans (hb1.mono HB.out.size))
    have hsz := HSZ.out
    have k0 := (hb1.block _ (by omega)).trans K0.out
    have k1 := (hb1.block _ (by omega)).trans K1.out
    have x0 := (blk_cell k0 1).trans (show _ = some (.slice A1 ws.length c1) from rfl)
    have x1 := (blk_cell k1 1).trans (show _ = some (.slice A3 xs.length c3) from rfl)
    clear hb1 K0 K1 k0 k1 hsz
    go_wp2_with fail
    refine (eqWordS_ok A1 c1 ws A3 c3 xs w1 (C_below' H1.out HB1.out) (C_below' H3.out HB1.out)).mono ?_
    rintro e w2 ⟨rfl, q, rfl⟩
    rcases hd : eqWB ws xs with _ | _
    · go_wp2_with fail
      go_ret
      exact ⟨ret_bool (by rw [hd]; rfl), below_dN HB1.out _⟩
    · go_wp2_with fail
      go_ret
      exact ⟨ret_bool (by rw [hd]; rfl), below_dN HB1.out _⟩
end Go.Proofs.Ytjadhhnajphibaa
