/- Contracts of functions and plain lemmas that the row stands on: Copies of words and codes; sizes. Codes: sizes and copies. Rows that are compared; rows that are searched. No conditions beyond those that each theorem names. -/
import Derived.Test.YtjadhhnajphibaaGC2
import Derived.Test.YtjadhhnajphibaaGC1
set_option linter.unusedVariables false
set_option linter.unusedSimpArgs false
namespace Go.Proofs.Ytjadhhnajphibaa
open Go.RowKit Go.Proofs.YtjadhhnajphibaaW.PrintWords

/-- a header of a whole block. -/
abbrev hd (g n : Nat) : Value := .slice (some ⟨g, 0, none⟩) n n
theorem NB.nums_read {kd : IntKind} {w : World} {g t : Nat} {xs : List Int} (h : NB kd w g t xs) (hm : xs.length ≤ 9223372036854775807) : (Kd.int kd).C w (some ⟨g, 0, none⟩) xs.length xs :=
  C_of_nums hm fun j u hu => ⟨_, rfl, h.range j u hu⟩

set_option maxHeartbeats 2000000 in
theorem toWord_ok (A : Option Addr) (c : Nat) (xs : List Int) (w : World) (hn : xs.length ≤ 1048576) (h0 : (Kd.int .u8).C w A xs.length xs) :
    Calls Try.prog 114 #[.slice A xs.length c] w fun e w' => ∃ g, e = .returned (hd g xs.length) ∧ w.heap.size ≤ g ∧ g < w'.heap.size ∧ NB .u8 w' g 5 xs ∧ Below w.heap.size w w' := by
  have HC := Lib.hid h0
  have hmk := print_make (P := Try.prog) 32 5 .u8 1 Try.underlying32 uinfo_u8 (by omega) xs.length (by omega)
  have hm : xs.length ≤ 9223372036854775807 := by omega
  clear h0
  go_enter Try.func114, Try.ntmps114
  go_wp2
  clear hmk
  have e1 : madeCells #[Value.int .u8 0] xs.length = (nums .u8 (List.replicate xs.length 0)).toArray := by
    have := made_nums [0] 1 xs.length rfl (fun i => by cases i <;> simp [rn])
    simpa [nums] using this
  rw [e1]
  have H1 := Lib.hid (NB.new (kd := .u8) w 5 (List.replicate xs.length 0))
  have HB := Lib.hid (below_box w (.cells (nums .u8 (List.replicate xs.length 0)).toArray 5))
  clear e1
  generalize w.alloc (.cells (nums .u8 (List.replicate xs.length 0)).toArray 5) = W0 at *
  have HZ := Lib.hid (List.length_replicate (n := xs.length) (a := (0 : Int)))
  generalize List.replicate xs.length (0 : Int) = zs at *
  go_loopw [4] (fun i wr => ∃ k : Nat, k ≤ xs.length ∧ i = .int .i64 k ∧ Hid (NB .u8 wr w.heap.size 5 (xs.take k ++ zs.drop k)) ∧ Hid (Below w.heap.size w wr)) (fun i _ => xs.length - (intOf i).toNat)
  case atStart => exact ⟨0, by omega, rfl, by simpa using H1, HB⟩
  case round =>
    clear H1 HB
    obtain ⟨k, hk, rfl, H1, HB⟩ := hrel
    by_cases hlt : k < xs.length
    · obtain ⟨ad, rfl, hx⟩ := at_nat (C_below' HC.out HB.out) hlt
      have hlti : (k : Int) < (xs.length : Int) := by omega
      have hc3 := H1.out.cell (show k < (xs.take k ++ zs.drop k).length by simp [HZ.out]; omega)
      have hf3 := H1.out.frozen k
      go_wp2
      go_roundw
      case rel =>
        refine ⟨k + 1, by omega, by go_num, ?_, set_below HB.out (Nat.le_refl _) _⟩
        rw [← take_step hlt HZ.out]
        exact H1.out.set k _
      case measure => first|(simp [intOf]; done)|(simp [intOf]; omega)
    · have ek : k = xs.length := by omega
      subst ek
      have h1 := H1.out
      rw [List.take_length, List.drop_of_length_le (by rw [HZ.out]; omega), List.append_nil] at h1
      have H1' := Lib.hid h1
      clear h1 H1
      go_wp2
      go_ret
      exact ⟨_, rfl, Nat.le_refl _, H1'.out.lt, H1'.out, HB.out⟩

/-- a row of words, each a block of its own: made from B on. -/
def hds (bk : Nat → Nat) (ws : List (List Int)) (k : Nat) : List Value := (List.range ws.length).map fun j => if j < k then hd (bk j) (rl ws j).length else .slice none 0 0
theorem hds_length (bk : Nat → Nat) (ws : List (List Int)) (k : Nat) : (hds bk ws k).length = ws.length := by simp [hds]
theorem hds_get {bk : Nat → Nat} {ws : List (List Int)} {k j : Nat} (hj : j < ws.length) : (hds bk ws k)[j]? = some (if j < k then hd (bk j) (rl ws j).length else .slice none 0 0) := by simp [hds, hj]
theorem hds_step {bk : Nat → Nat} {ws : List (List Int)} {k g : Nat} (hk : k < ws.length) : (hds bk ws k).set k (hd g (rl ws k).length) = hds (fun j => if j = k then g else bk j) ws (k + 1) := by
  apply List.ext_getElem?
  intro i
  by_cases hi : i < ws.length
  · rw [hds_get hi, List.getElem?_set]
    by_cases e : k = i
    · subst e
      simp [hds_length, hk]
    · rw [if_neg e, hds_get hi]
      have e' : ¬ i = k := fun h => e h.symm
      by_cases h1 : i < k
      · have h2 : i < k + 1 := by omega
        simp [h1, h2, e']
      · have h2 : ¬ i < k + 1 := by omega
        simp [h1, h2]
  · rw [List.getElem?_eq_none (by rw [List.length_set, hds_length]; omega), List.getElem?_eq_none (by rw [hds_length]; omega)]
structure MW (w : World) (B g : Nat) (bk : Nat → Nat) (ws : List (List Int)) (k : Nat) : Prop where
  row : w.heap[g]? = some (.cells (hds bk ws k).toArray 32 (0, 0))
  base : B ≤ g
  each : ∀ j, j < k → j < ws.length → B ≤ bk j ∧ bk j < w.heap.size ∧ bk j ≠ g ∧ NB .u8 w (bk j) 5 (rl ws j)
theorem MW.lt {w : World} {B g : Nat} {bk : Nat → Nat} {ws : List (List Int)} {k : Nat} (h : MW w B g bk ws k) : g < w.heap.size := blk_lt h.row
theorem MW.below {w w1 : World} {B g : Nat} {bk : Nat → Nat} {ws : List (List Int)} {k : Nat} (h : MW w B g bk ws k) (hb : Below w.heap.size w w1) : MW w1 B g bk ws k :=
  ⟨(hb.block g h.lt).trans h.row, h.base, fun j hj hj' => by
    obtain ⟨h1, h2, h3, h4⟩ := h.each j hj hj'
    exact ⟨h1, Nat.lt_of_lt_of_le h2 hb.size, h3, h4.below hb⟩⟩
theorem MW.far {w : World} {B g : Nat} {bk : Nat → Nat} {ws : List (List Int)} {k : Nat} (h : MW w B g bk ws k) {p : Addr} (hp : p.block < B) (u : Value) : MW (w.setCell p u) B g bk ws k :=
  ⟨blk_far h.row (by have := h.base; omega) u, h.base, fun j hj hj' => by
    obtain ⟨h1, h2, h3, h4⟩ := h.each j hj hj'
    exact ⟨h1, by simpa [World.setCell] using h2, h3, h4.far (by omega) u⟩⟩
theorem MW.lower {w : World} {B B' g : Nat} {bk : Nat → Nat} {ws : List (List Int)} {k : Nat} (h : MW w B g bk ws k) (hb : B' ≤ B) : MW w B' g bk ws k :=
  ⟨h.row, by have := h.base; omega, fun j hj hj' => by
    obtain ⟨h1, h2⟩ := h.each j hj hj'
    exact ⟨by omega, h2⟩⟩
theorem MW.reads {w : World} {B g : Nat} {bk : Nat → Nat} {ws : List (List Int)} (h : MW w B g bk ws ws.length) (hn : ws.length ≤ 9223372036854775807) (hm : ∀ j, (rl ws j).length ≤ 9223372036854775807) : (Kd.slice 5 (Kd.int .u8)).C w (some ⟨g, 0, none⟩) ws.length ws := by
  refine C_of_cells (cs := hds bk ws ws.length) rfl hn (fun j u hu => ⟨_, rfl, ?_⟩) fun j hj => ?_
  · rw [add_plain, blk_cell h.row j]
    simpa using hu
  · obtain ⟨h1, h2, h3, h4⟩ := h.each j hj hj
    exact ⟨some ⟨bk j, 0, none⟩, (rl ws j).length, by rw [hds_get hj, if_pos hj], Nat.le_refl _, h4.nums_read (hm j)⟩

set_option maxHeartbeats 2000000 in
theorem toWordS_ok (A : Option Addr) (c : Nat) (ws : List (List Int)) (w : World) (hn : ws.length ≤ 1048576) (hl : ∀ j, (rl ws j).length ≤ 1048576) (h0 : (Kd.slice 5 (Kd.int .u8)).C w A ws.length ws) :
    Calls Try.prog 82 #[.slice A ws.length c] w fun e w' => ∃ g bk, e = .returned (hd g ws.length) ∧ MW w' w.heap.size g bk ws ws.length ∧ Below w.heap.size w w' := by
  have HC := Lib.hid h0
  have HLL := Lib.hid hl
  have hmk : ∀ W : World, (Instr.makeSlice 25 (.int .i64 (ws.length : Int)) (.int .i64 (ws.length : Int))).run Try.prog W = .ok (.slice (some ⟨W.heap.size, 0, none⟩) ws.length ws.length) (W.alloc (.cells (madeCells #[.slice none 0 0] ws.length) 32)) := by
    obtain ⟨i0, hi, hzz⟩ := Option.map_eq_some_iff.1 uinfo_word
    simp only [Prod.mk.injEq] at hzz
    obtain ⟨hz, hs, hb⟩ := hzz
    intro W
    rw [run_make_rowN 25 32 i0 _ Try.underlying25 hi hz .i64 .i64 ws.length ws.length (Nat.le_refl _) (by rw [hb]; omega) (by omega) W, hs, Nat.mul_one]
    rfl
  have hm : ws.length ≤ 9223372036854775807 := by omega
  clear h0 hl
  go_enter Try.func82, Try.ntmps82
  go_wp2
  clear hmk
  have e1 : madeCells #[Value.slice none 0 0] ws.length = (hds (fun _ => 0) ws 0).toArray := by
    apply Array.ext
    · simp [size_madeCells, hds]
    · intro i h1 h2
      have hi : i < ws.length := by simpa [size_madeCells] using h1
      simp [madeCells, hds, Nat.mod_one]
  rw [e1]
  have H1 : Hid (MW (w.alloc (.cells (hds (fun _ => 0) ws 0).toArray 32)) w.heap.size w.heap.size (fun _ => 0) ws 0) := ⟨heap_alloc_new w _, Nat.le_refl _, fun j hj => absurd hj (by omega)⟩
  have HB := Lib.hid (below_box w (.cells (hds (fun _ => 0) ws 0).toArray 32))
  clear e1
  generalize w.alloc (.cells (hds (fun _ => 0) ws 0).toArray 32) = W0 at *
  go_loopw [4] (fun i wr => ∃ (k : Nat) (bk : Nat → Nat), k ≤ ws.length ∧ i = .int .i64 k ∧ Hid (MW wr w.heap.size w.heap.size bk ws k) ∧ Hid (Below w.heap.size w wr)) (fun i _ => ws.length - (intOf i).toNat)
  case atStart => exact ⟨0, _, by omega, rfl, H1, HB⟩
  case round =>
    clear H1 HB
    obtain ⟨k, bk, hk, rfl, H1, HB⟩ := hrel
    by_cases hlt : k < ws.length
    · obtain ⟨ad, A1, c1, rfl, hx, hl1, hr1⟩ := at_row (C_below' HC.out HB.out) hlt
      have hlti : (k : Int) < (ws.length : Int) := by omega
      have HW := Lib.hid (toWord_ok A1 c1 _ wr (HLL.out k) hr1)
      have hm1 : (rl ws k).length ≤ 9223372036854775807 := hr1.2.1
      clear hr1
      go_wp2_with (go_at_call 114; refine HW.out.mono ?_; rintro e w1 ⟨g1, rfl, hg1, hg1', hnb, hb1⟩; have H2 := Lib.hid (H1.out.below hb1); have HB2 := Lib.hid (HB.out.trans (hb1.mono HB.out.size)); have HN1 := Lib.hid hnb; have hc := blk_cell H2.out.row k; have hf := blk_frozen H2.out.row k; simp only [List.getElem?_toArray] at hc; rw [hds_get hlt, if_neg (Nat.lt_irrefl k)] at hc; have hgne : w.heap.size ≠ g1 := (by have := H1.out.lt; omega); clear hb1 hnb)
      go_roundw
      case rel =>
        refine ⟨k + 1, fun j => if j = k then g1 else bk j, by omega, by go_num, ⟨?_, Nat.le_refl _, fun j hj hj' => ?_⟩, set_below HB2.out (Nat.le_refl _) _⟩
        · have h3 := blk_set H2.out.row k (hd g1 (rl ws k).length)
          rw [← hds_step hlt]
          simpa using h3
        · by_cases e : j = k
          · subst e
            simp only [if_true]
            exact ⟨by have := HB.out.size; omega, by simpa [World.setCell] using hg1', hgne.symm, HN1.out.far (by simpa using hgne.symm) _⟩
          · obtain ⟨h4, h5, h6, h7⟩ := H2.out.each j (by omega) hj'
            simp only [if_neg e]
            exact ⟨h4, by simpa [World.setCell] using h5, h6, h7.far (by simpa using h6) _⟩
      case measure => first|(simp [intOf]; done)|(simp [intOf]; omega)
    · have ek : k = ws.length := by omega
      subst ek
      go_wp2
      go_ret
      exact ⟨_, bk, rfl, H1.out, HB.out⟩

/-! ### sizes -/
def szV (left n : Int) : Int := if left - n < 0 then -1 else left - n
theorem szFlagS_ok (A : Option Addr) (c n : Nat) (left : Int) (w : World) (hn : n ≤ 9223372036854775807) (hl : 0 ≤ left) (hl' : left ≤ 1048576) :
    Calls Try.prog 76 #[.slice A n c, .int .i64 left] w fun e w' => e = .returned (.int .i64 (szV left n)) ∧ w = w' := by
  by_cases h : left - n < 0
  · have HS := Lib.hid (show szV left n = -1 by rw [szV, if_pos h])
    go_enter Try.func76, Try.ntmps76
    go_wp2
    go_ret
    exact ⟨ret_int HS.out.symm, rfl⟩
  · have HS := Lib.hid (show szV left n = left - n by rw [szV, if_neg h])
    go_enter Try.func76, Try.ntmps76
    go_wp2
    go_ret
    exact ⟨ret_int HS.out.symm, rfl⟩

theorem szWord_ok (A : Option Addr) (c n : Nat) (left : Int) (w : World) (hn : n ≤ 9223372036854775807) (hl : 0 ≤ left) (hl' : left ≤ 1048576) :
    Calls Try.prog 110 #[.slice A n c, .int .i64 left] w fun e w' => e = .returned (.int .i64 (szV left n)) ∧ w = w' := by
  by_cases h : left - n < 0
  · have HS := Lib.hid (show szV left n = -1 by rw [szV, if_pos h])
    go_enter Try.func110, Try.ntmps110
    go_wp2
    go_ret
    exact ⟨ret_int HS.out.symm, rfl⟩
  · have HS := Lib.hid (show szV left n = left - n by rw [szV, if_neg h])
    go_enter Try.func110, Try.ntmps110
    go_wp2
    go_ret
    exact ⟨ret_int HS.out.symm, rfl⟩

theorem szSightS_ok (A : Option Addr) (c n : Nat) (left : Int) (w : World) (hn : n ≤ 9223372036854775807) (hl : 0 ≤ left) (hl' : left ≤ 1048576) :
    Calls Try.prog 32 #[.slice A n c, .int .i64 left] w fun e w' => e = .returned (.int .i64 (szV left n)) ∧ w = w' := by
  by_cases h : left - n < 0
  · have HS := Lib.hid (show szV left n = -1 by rw [szV, if_pos h])
    go_enter Try.func32, Try.ntmps32
    go_wp2
    go_ret
    exact ⟨ret_int HS.out.symm, rfl⟩
  · have HS := Lib.hid (show szV left n = left - n by rw [szV, if_neg h])
    go_enter Try.func32, Try.ntmps32
    go_wp2
    go_ret
    exact ⟨ret_int HS.out.symm, rfl⟩

/-- what is left behind k words; -1: not enough. -/
def szTo (left : Int) (ws : List (List Int)) : Nat → Int
  | 0 => left
  | k + 1 => if szTo left ws k < 0 then -1 else szV (szTo left ws k) (rl ws k).length
theorem szTo_neg {left : Int} {ws : List (List Int)} {k : Nat} (h : szTo left ws k < 0) (h' : szTo left ws k = -1) : ∀ j, szTo left ws (k + j) = -1
  | 0 => h'
  | j + 1 => by
    have := szTo_neg h h' j
    rw [show k + (j + 1) = (k + j) + 1 from rfl, szTo, this]
    simp
theorem szV_le {left n : Int} (h : 0 ≤ n) (hl : 0 ≤ left) : szV left n ≤ left ∧ -1 ≤ szV left n := by
  unfold szV
  split <;> omega
theorem szTo_le {left : Int} {ws : List (List Int)} {k : Nat} (hl : 0 ≤ left) : szTo left ws k ≤ left ∧ -1 ≤ szTo left ws k := by
  induction k with
  | zero => exact ⟨Int.le_refl _, by simp [szTo]; omega⟩
  | succ k ih =>
    unfold szTo
    split
    · omega
    · rename_i h
      have := szV_le (left := szTo left ws k) (n := (rl ws k).length) (by omega) (by omega)
      omega
def szWV (left : Int) (ws : List (List Int)) : Int := if left - ws.length < 0 then -1 else szTo (left - ws.length) ws ws.length

set_option maxHeartbeats 2000000 in
theorem szWordS_ok (A : Option Addr) (c : Nat) (ws : List (List Int)) (left : Int) (w : World) (hn : ws.length ≤ 9223372036854775807) (hw : ∀ j, (rl ws j).length ≤ 9223372036854775807) (hl : 0 ≤ left) (hl' : left ≤ 1048576) (h0 : (Kd.slice 5 (Kd.int .u8)).C w A ws.length ws) :
    Calls Try.prog 77 #[.slice A ws.length c, .int .i64 left] w fun e w' => e = .returned (.int .i64 (szWV left ws)) ∧ w = w' := by
  have HC := Lib.hid h0
  have HW := Lib.hid hw
  clear h0 hw
  by_cases h : left - ws.length < 0
  · have HS := Lib.hid (show szWV left ws = -1 by rw [szWV, if_pos h])
    go_enter Try.func77, Try.ntmps77
    go_wp2
    go_ret
    exact ⟨ret_int HS.out.symm, rfl⟩
  · have HS := Lib.hid (show szWV left ws = szTo (left - ws.length) ws ws.length by rw [szWV, if_neg h])
    have hr := fun k => szTo_le (left := left - ws.length) (ws := ws) (k := k) (by omega)
    have HR := Lib.hid hr
    clear hr
    go_enter Try.func77, Try.ntmps77
    go_wp2
    go_loop [1, 5] (fun x i => ∃ k : Nat, k ≤ ws.length ∧ i = .int .i64 k ∧ x = .int .i64 (szTo (left - ws.length) ws k) ∧ Hid (0 ≤ szTo (left - ws.length) ws k)) (fun _ i => ws.length - (intOf i).toNat)
    case atStart => exact ⟨0, by omega, rfl, rfl, show 0 ≤ left - ws.length by omega⟩
    case round =>
      obtain ⟨k, hk, rfl, rfl, H0⟩ := hrel
      by_cases hlt : k < ws.length
      · obtain ⟨ad, A1, c1, rfl, hx, hl1, hr1⟩ := at_row HC.out hlt
        have hlti : (k : Int) < (ws.length : Int) := by omega
        have hm1 := HW.out k
        have hp0 := H0.out
        have hp1 := (HR.out k).1
        have HST := Lib.hid (show szTo (left - ws.length) ws (k + 1) = szV (szTo (left - ws.length) ws k) (rl ws k).length by rw [szTo, if_neg (by omega)])
        clear hr1
        by_cases hneg : szV (szTo (left - ws.length) ws k) (rl ws k).length < 0
        · have hm1' : szV (szTo (left - ws.length) ws k) (rl ws k).length = -1 := by
            have := (szV_le (left := szTo (left - ws.length) ws k) (n := (rl ws k).length) (by omega) hp0).2
            omega
          have HN := Lib.hid (show szWV left ws = -1 by
            rw [HS.out]
            have h1 := szTo_neg (left := left - ws.length) (ws := ws) (k := k + 1) (by rw [HST.out]; omega) (by rw [HST.out]; exact hm1') (ws.length - (k + 1))
            rwa [show k + 1 + (ws.length - (k + 1)) = ws.length by omega] at h1)
          clear hm1'
          go_wp2_with (go_at_call 110; refine (szWord_ok _ _ _ _ _ hm1 hp0 (by omega)).mono ?_; rintro e w' ⟨rfl, rfl⟩)
          go_ret
          exact ⟨ret_int HN.out.symm, rfl⟩
        · have hnn : 0 ≤ szV (szTo (left - ws.length) ws k) (rl ws k).length := by omega
          have HNN := Lib.hid hnn
          go_wp2_with (go_at_call 110; refine (szWord_ok _ _ _ _ _ hm1 hp0 (by omega)).mono ?_; rintro e w' ⟨rfl, rfl⟩)
          go_round
          case rel => exact ⟨k + 1, by omega, by go_num, by rw [HST.out], by rw [HST.out]; exact HNN⟩
          case measure => first|(simp [intOf]; done)|(simp [intOf]; omega)
      · have ek : k = ws.length := by omega
        subst ek
        go_wp2
        go_ret
        exact ⟨ret_int HS.out.symm, rfl⟩
end Go.Proofs.Ytjadhhnajphibaa
namespace Go.Proofs.Ytjadhhnajphibaa
open Go.RowKit Go.Proofs.YtjadhhnajphibaaW.PrintWords

def szCV (left : Int) (fs ws : List (List Int)) : Int := if szV left fs.length < 0 then -1 else if szWV (szV left fs.length) ws < 0 then -1 else szWV (szV left fs.length) ws
theorem szWV_le {left : Int} {ws : List (List Int)} (hl : 0 ≤ left) : szWV left ws ≤ left ∧ -1 ≤ szWV left ws := by
  unfold szWV
  split
  · omega
  · have := szTo_le (left := left - ws.length) (ws := ws) (k := ws.length) (by omega)
    omega

set_option maxHeartbeats 2000000 in
theorem szCode_ok (A : Option Addr) (c : Nat) (fs : List (List Int)) (A1 : Option Addr) (c1 : Nat) (ws : List (List Int)) (left : Int) (w : World) (hf : fs.length ≤ 9223372036854775807) (hn : ws.length ≤ 9223372036854775807) (hw : ∀ j, (rl ws j).length ≤ 9223372036854775807) (hl : 0 ≤ left) (hl' : left ≤ 1048576)
    (h0 : (Kd.slice 5 (Kd.int .u8)).C w A1 ws.length ws) :
    Calls Try.prog 21 #[.agg #[.slice A fs.length c, .slice A1 ws.length c1], .int .i64 left] w fun e w' => e = .returned (.int .i64 (szCV left fs ws)) ∧ Below w.heap.size w w' := by
  have HC := Lib.hid (C_below' h0 (below_box w (.cells #[.slice A fs.length c, .slice A1 ws.length c1] 40)))
  have HW := Lib.hid hw
  have HV : Hid (szCV left fs ws = if szV left fs.length < 0 then -1 else if szWV (szV left fs.length) ws < 0 then -1 else szWV (szV left fs.length) ws) := rfl
  have hv := szV_le (left := left) (n := fs.length) (by omega) hl
  have HL := Lib.hid (szFlagS_ok A c fs.length left (w.alloc (.cells #[.slice A fs.length c, .slice A1 ws.length c1] 40)) hf hl hl')
  clear h0 hw
  generalize szV left fs.length = l1 at *
  obtain ⟨hv1, hv2⟩ := hv
  by_cases h1 : l1 < 0
  · have HS := Lib.hid (show szCV left fs ws = -1 by rw [HV.out, if_pos h1])
    go_enter Try.func21, Try.ntmps21
    go_wp2_with fail
    refine HL.out.mono ?_
    rintro e w' ⟨rfl, rfl⟩
    go_wp2_with fail
    go_ret
    exact ⟨ret_int HS.out.symm, below_box _ _⟩
  · have HS := Lib.hid (show szCV left fs ws = if szWV l1 ws < 0 then -1 else szWV l1 ws by rw [HV.out, if_neg h1])
    have HL2 := Lib.hid (szWordS_ok A1 c1 ws l1 (w.alloc (.cells #[.slice A fs.length c, .slice A1 ws.length c1] 40)) hn HW.out (by omega) (by omega) HC.out)
    generalize szWV l1 ws = l2 at *
    by_cases h2 : l2 < 0
    · have HS2 := Lib.hid (show szCV left fs ws = -1 by rw [HS.out, if_pos h2])
      go_enter Try.func21, Try.ntmps21
      go_wp2_with fail
      refine HL.out.mono ?_
      rintro e w' ⟨rfl, rfl⟩
      go_wp2_with fail
      refine HL2.out.mono ?_
      rintro e w' ⟨rfl, rfl⟩
      go_wp2_with fail
      go_ret
      exact ⟨ret_int HS2.out.symm, below_box _ _⟩
    · have HS2 := Lib.hid (show szCV left fs ws = l2 by rw [HS.out, if_neg h2])
      go_enter Try.func21, Try.ntmps21
      go_wp2_with fail
      refine HL.out.mono ?_
      rintro e w' ⟨rfl, rfl⟩
      go_wp2_with fail
      refine HL2.out.mono ?_
      rintro e w' ⟨rfl, rfl⟩
      go_wp2_with fail
      go_ret
      exact ⟨ret_int HS2.out.symm, below_box _ _⟩

/-- a code that has been made from B on. -/
structure MC (w : World) (B gs gw : Nat) (bk : Nat → Nat) (fs ws : List (List Int)) : Prop where
  set : NB .u8 w gs 78 (flat fs)
  base : B ≤ gs
  len : ∀ f ∈ fs, f.length = 24
  words : MW w B gw bk ws ws.length
theorem MC.below {w w1 : World} {B gs gw : Nat} {bk : Nat → Nat} {fs ws : List (List Int)} (h : MC w B gs gw bk fs ws) (hb : Below w.heap.size w w1) : MC w1 B gs gw bk fs ws :=
  ⟨h.set.below hb, h.base, h.len, h.words.below hb⟩
/-- the value of a code that has been made. -/
def cv (gs gw : Nat) (fs ws : List (List Int)) : Value := .agg #[hd gs fs.length, hd gw ws.length]

set_option maxRecDepth 100000 in
set_option maxHeartbeats 2000000 in
theorem toCode_ok (A : Option Addr) (c : Nat) (fs : List (List Int)) (A1 : Option Addr) (c1 : Nat) (ws : List (List Int)) (w : World) (hf : fs.length ≤ 1048576) (hn : ws.length ≤ 1048576) (hl : ∀ j, (rl ws j).length ≤ 1048576)
    (h0 : (Karr 24).C w A fs.length fs) (h1 : (Kd.slice 5 (Kd.int .u8)).C w A1 ws.length ws) :
    Calls Try.prog 23 #[.agg #[.slice A fs.length c, .slice A1 ws.length c1]] w fun e w' => ∃ gs gw bk, e = .returned (cv gs gw fs ws) ∧ MC w' w.heap.size gs gw bk fs ws ∧ Below w.heap.size w w' := by
  have H0 := Lib.hid h0
  have H1 := Lib.hid h1
  have HL := Lib.hid hl
  clear h0 h1 hl
  go_enter Try.func23, Try.ntmps23
  go_wp2_with fail
  have hsz : ((((w.alloc (.cells #[.slice A fs.length c, .slice A1 ws.length c1] 40)).alloc (.cells #[.slice none 0 0, .slice none 0 0] 46)).alloc (.cells #[.slice none 0 0, .slice none 0 0] 46))).heap.size = w.heap.size + 3 := by rw [size_box, size_box, size_box]
  have hb0 : ((((w.alloc (.cells #[.slice A fs.length c, .slice A1 ws.length c1] 40)).alloc (.cells #[.slice none 0 0, .slice none 0 0] 46)).alloc (.cells #[.slice none 0 0, .slice none 0 0] 46))).heap[w.heap.size]? = some (.cells #[.slice A fs.length c, .slice A1 ws.length c1] 40 (0, 0)) := blk_alloc (blk_alloc (heap_alloc_new w _) _) _
  have hb1 : ((((w.alloc (.cells #[.slice A fs.length c, .slice A1 ws.length c1] 40)).alloc (.cells #[.slice none 0 0, .slice none 0 0] 46)).alloc (.cells #[.slice none 0 0, .slice none 0 0] 46))).heap[w.heap.size + 1]? = some (.cells #[.slice none 0 0, .slice none 0 0] 46 (0, 0)) := by
    have := blk_alloc (heap_alloc_new (w.alloc (.cells #[.slice A fs.length c, .slice A1 ws.length c1] 40)) (.cells #[.slice none 0 0, .slice none 0 0] 46)) (.cells #[.slice none 0 0, .slice none 0 0] 46)
    rwa [size_box] at this
  have hb2 : ((((w.alloc (.cells #[.slice A fs.length c, .slice A1 ws.length c1] 40)).alloc (.cells #[.slice none 0 0, .slice none 0 0] 46)).alloc (.cells #[.slice none 0 0, .slice none 0 0] 46))).heap[w.heap.size + 1 + 1]? = some (.cells #[.slice none 0 0, .slice none 0 0] 46 (0, 0)) := by
    have := heap_alloc_new ((w.alloc (.cells #[.slice A fs.length c, .slice A1 ws.length c1] 40)).alloc (.cells #[.slice none 0 0, .slice none 0 0] 46)) (.cells #[.slice none 0 0, .slice none 0 0] 46)
    rwa [size_box, size_box] at this
  have hbel : Below w.heap.size w ((((w.alloc (.cells #[.slice A fs.length c, .slice A1 ws.length c1] 40)).alloc (.cells #[.slice none 0 0, .slice none 0 0] 46)).alloc (.cells #[.slice none 0 0, .slice none 0 0] 46))) := below_alloc (below_alloc (below_box _ _) _) _
  generalize ((((w.alloc (.cells #[.slice A fs.length c, .slice A1 ws.length c1] 40)).alloc (.cells #[.slice none 0 0, .slice none 0 0] 46)).alloc (.cells #[.slice none 0 0, .slice none 0 0] 46))) = W0 at *
  refine (toFlagS_ok A c fs W0 hf (C_below' H0.out hbel)).mono ?_
  rintro e w1 ⟨gs, rfl, hg1, hg2, hnb, hlen, hbw1⟩
  have HLEN := Lib.hid hlen
  have HNB := Lib.hid hnb
  have HS1 := Lib.hid (show w.heap.size + 3 ≤ gs by omega)
  have c10 := (hbw1.block w.heap.size (by omega)).trans hb0
  have c11 := Lib.hid ((hbw1.block (w.heap.size + 1) (by omega)).trans hb1)
  have c12 := (hbw1.block (w.heap.size + 1 + 1) (by omega)).trans hb2
  have HB1 := Lib.hid (hbel.trans (hbw1.mono hbel.size))
  have hw1sz : w.heap.size + 3 ≤ w1.heap.size := by have := hbw1.size; omega
  clear hb0 hb1 hb2 hsz hg1 hlen hnb
  have x0 := (blk_cell c10 1).trans (show _ = some (.slice A1 ws.length c1) from rfl)
  have x1 := (blk_cell c12 0).trans (show _ = some (.slice none 0 0) from rfl)
  have x2 := blk_frozen c12 0
  have C10 := Lib.hid c10
  have C12 := Lib.hid c12
  clear c10 c12
  go_wp2_with fail
  have hb2 := blk_set C12.out 0 (hd gs fs.length)
  have hbw2 : Below w.heap.size w (w1.setCell ⟨w.heap.size + 1 + 1, 0, none⟩ (hd gs fs.length)) := set_below HB1.out (by simp; omega) _
  have hnb2 := HNB.out.far (p := ⟨w.heap.size + 1 + 1, 0, none⟩) (by have := HS1.out; simp; omega) (hd gs fs.length)
  have c21 := Lib.hid (blk_far c11.out (p := ⟨w.heap.size + 1 + 1, 0, none⟩) (by simp) (hd gs fs.length))
  have hsz2 : (w1.setCell ⟨w.heap.size + 1 + 1, 0, none⟩ (hd gs fs.length)).heap.size = w1.heap.size := by simp [World.setCell]
  clear x1 x2 C12 HB1
  generalize w1.setCell ⟨w.heap.size + 1 + 1, 0, none⟩ (hd gs fs.length) = w2 at *
  refine (toWordS_ok A1 c1 ws w2 hn HL.out (C_below' H1.out hbw2)).mono ?_
  rintro e w3 ⟨gw, bk, rfl, hmw, hb3⟩
  have hd1 := (hb3.block (w.heap.size + 1 + 1) (by omega)).trans hb2
  have c31 := Lib.hid ((hb3.block (w.heap.size + 1) (by omega)).trans c21.out)
  have HB3 := Lib.hid (hbw2.trans (hb3.mono hbw2.size))
  have HN3 := Lib.hid (hnb2.below hb3)
  have HMW := Lib.hid hmw
  have hsz3 := hb3.size
  have y1 := (blk_cell hd1 1).trans (show _ = some (.slice none 0 0) from rfl)
  have y2 := blk_frozen hd1 1
  have HD1 := Lib.hid hd1
  clear hb2 hbw2 hnb2 hmw hb3 c21 c11 hd1
  have hz4 := blk_set HD1.out 1 (hd gw ws.length)
  have hz4' : (w3.setCell ⟨w.heap.size + 1 + 1, 1, none⟩ (hd gw ws.length)).heap[w.heap.size + 1 + 1]? = some (.cells #[hd gs fs.length, hd gw ws.length] 46 (0, 0)) := by rw [hz4]; rfl
  have HZ4 := Lib.hid hz4'
  have hc41 := blk_far c31.out (p := ⟨w.heap.size + 1 + 1, 1, none⟩) (by simp) (hd gw ws.length)
  have HC41 := Lib.hid hc41
  clear hz4 hz4' hc41
  have hi2 : (Try.prog.info? 46).map (·.size) = some 2 := by kernel_rfl
  have d0 := (blk_cell c31.out 0).trans (show _ = some (.slice none 0 0) from rfl)
  have d1 := (blk_cell c31.out 1).trans (show _ = some (.slice none 0 0) from rfl)
  have d2 := blk_frozen c31.out 0
  have d3 := blk_frozen c31.out 1
  go_wp2_with (refine load_agg rfl 46 (.tmp 3) rfl ⟨w.heap.size + 1 + 1, 0, none⟩ rfl [hd gs fs.length, hd gw ws.length] _ (fun j v hv => by rw [add_plain, blk_cell HZ4.out j]; simpa using hv) Try.underlying46 rfl hi2 ?_)
  have hfin := blk_set (blk_set HC41.out 0 (hd gs fs.length)) 1 (hd gw ws.length)
  have hgs := HS1.out
  have hmwb := HMW.out.lower (B' := w.heap.size + 3) (by omega)
  refine bodyPost_ret (results_cell_row rfl _ _ (w.heap.size + 1) 46 #[hd gs fs.length, hd gw ws.length] (0, 0) _ rfl hfin Try.underlying46 rfl hi2) rfl ⟨gs, gw, bk, rfl, ⟨?_, by omega, HLEN.out, ?_⟩, ?_⟩
  · exact ((HN3.out.far (by simp <;> omega) _).far (by simp <;> omega) _).far (by simp <;> omega) _
  · exact (((hmwb.far (by simp <;> omega) _).far (by simp <;> omega) _).far (by simp <;> omega) _).lower (by omega)
  · exact set_below (set_below (set_below HB3.out (by simp <;> omega) _) (by simp <;> omega) _) (by simp <;> omega) _
end Go.Proofs.Ytjadhhnajphibaa
namespace Go.Proofs.Ytjadhhnajphibaa
open Go.RowKit Go.Proofs.YtjadhhnajphibaaW.PrintWords

theorem bne_swap (a b : Int) : (a != b) = (b != a) := by
  rw [Bool.eq_iff_iff, bne_iff_ne, bne_iff_ne]
  exact ⟨Ne.symm, Ne.symm⟩

set_option maxHeartbeats 1000000 in
theorem unlike_ok (A0 : Option Addr) (c0 : Nat) (xs : List Int) (A1 : Option Addr) (c1 : Nat) (ys : List Int) (w : World)
    (h0 : (Kd.int .u8).C w A0 xs.length xs) (h1 : (Kd.int .u8).C w A1 ys.length ys) (hl : xs.length ≤ ys.length) :
    Calls Try.prog 60 #[.slice A0 xs.length c0, .slice A1 ys.length c1] w fun e w' => e = .returned (.int .i64 (diffs xs ys)) ∧ w = w' := by
  have hm : xs.length ≤ 9223372036854775807 := h0.2.1
  have H0 := Lib.hid h0
  have H1 := Lib.hid h1
  clear h0 h1
  go_enter Try.func60, Try.ntmps60
  go_wp2
  go_loop [5, 10] (fun m i => ∃ k : Nat, k ≤ xs.length ∧ i = .int .i64 k ∧ m = .int .i64 (diffsTo xs ys k)) (fun _ i => xs.length - (intOf i).toNat)
  case atStart => exact ⟨0, Nat.zero_le _, rfl, rfl⟩
  case round =>
    obtain ⟨k, hk, rfl, rfl⟩ := hrel
    have hcl := diffsTo_le xs ys k
    by_cases hlt : k < xs.length
    · obtain ⟨ad0, rfl, hx0⟩ := at_nat H0.out hlt
      obtain ⟨ad1, rfl, hx1⟩ := at_nat H1.out (show k < ys.length by omega)
      have hlt1 : k < ys.length := by omega
      rcases hc : (rn ys k != rn xs k) with _ | _
      · have HS := Lib.hid (diffsTo_no (xs := xs) (ys := ys) (k := k) ((bne_swap _ _).trans hc))
        go_wp2
        go_round
        case rel => exact ⟨k + 1, by omega, by go_num, by rw [HS.out]⟩
        case measure => first|(simp [intOf]; done)|(simp [intOf]; omega)
      · have HS := Lib.hid (diffsTo_yes (xs := xs) (ys := ys) (k := k) ((bne_swap _ _).trans hc))
        go_wp2
        go_round
        case rel => exact ⟨k + 1, by omega, by go_num, by rw [HS.out]; go_num⟩
        case measure => first|(simp [intOf]; done)|(simp [intOf]; omega)
    · go_wp2
      go_ret
      obtain rfl : k = xs.length := by omega
      exact ⟨rfl, rfl⟩

set_option maxHeartbeats 1000000 in
theorem l05Apart_ok (A0 : Option Addr) (c0 : Nat) (xs : List Int) (A1 : Option Addr) (c1 : Nat) (ys : List Int) (w : World)
    (h0 : (Kd.int .u8).C w A0 xs.length xs) (h1 : (Kd.int .u8).C w A1 ys.length ys) (hl : xs.length ≤ ys.length) :
    Calls Try.prog 65 #[.slice A0 xs.length c0, .slice A1 ys.length c1] w fun e w' => e = .returned (.int .i64 (diffs xs ys)) ∧ ∃ q, w' = w.drewN q := by
  have hm : xs.length ≤ 9223372036854775807 := h0.2.1
  have H0 := Lib.hid h0
  have H1 := Lib.hid h1
  clear h0 h1
  go_enter Try.func65, Try.ntmps65
  go_wp2
  go_loopw [5, 6] (fun m i wr => ∃ k q : Nat, k ≤ xs.length ∧ i = .int .i64 k ∧ m = .int .i64 (diffsTo xs ys k) ∧ wr = w.drewN q) (fun _ i _ => xs.length - (intOf i).toNat)
  case atStart => exact ⟨0, 0, Nat.zero_le _, rfl, rfl, rfl⟩
  case round =>
    obtain ⟨k, q, hk, rfl, rfl, rfl⟩ := hrel
    have hcl := diffsTo_le xs ys k
    by_cases hlt : k < xs.length
    · obtain ⟨ad0, rfl, hx0⟩ := at_nat H0.out hlt
      obtain ⟨ad1, rfl, hx1⟩ := at_nat H1.out (show k < ys.length by omega)
      have hlt1 : k < ys.length := by omega
      have hlti : (k : Int) < (xs.length : Int) := by omega
      have hlti1 : (k : Int) < (ys.length : Int) := by omega
      rcases hc : (rn xs k != rn ys k) with _ | _
      · have HS := Lib.hid (diffsTo_no hc)
        go_wp2
        go_quiet (fail)
        go_wp2
        go_roundw
        case rel => exact ⟨k + 1, _, by omega, by go_num, by rw [HS.out], rfl⟩
        case measure => first|(simp [intOf]; done)|(simp [intOf]; omega)
      · have HS := Lib.hid (diffsTo_yes hc)
        go_wp2
        go_quiet (fail)
        go_wp2
        go_roundw
        case rel => exact ⟨k + 1, _, by omega, by go_num, by rw [HS.out]; go_num, rfl⟩
        case measure => first|(simp [intOf]; done)|(simp [intOf]; omega)
    · go_wp2
      go_ret
      obtain rfl : k = xs.length := by omega
      exact ⟨rfl, _, rfl⟩

/-- two lists are one: as long, and alike at each place. -/
def eqB (xs ys : List Int) : Bool := decide (xs.length = ys.length) && allB (fun i => rn xs i == rn ys i) xs.length
theorem eqB_len {xs ys : List Int} (h : xs.length ≠ ys.length) : eqB xs ys = false := by simp [eqB, h]
theorem eqB_no {xs ys : List Int} {k : Nat} (hk : k < xs.length) (h : (rn xs k != rn ys k) = true) : eqB xs ys = false := by
  unfold eqB
  rw [allB_no hk (by simpa using h), Bool.and_false]
theorem eqB_yes {xs ys : List Int} (hl : xs.length = ys.length) (h : ∀ i, i < xs.length → (rn xs i != rn ys i) = false) : eqB xs ys = true := by
  unfold eqB
  rw [allB_iff.2 (fun i hi => by simpa using h i hi)]
  simp [hl]
theorem eqB_iff {xs ys : List Int} : eqB xs ys = true ↔ xs = ys := by
  unfold eqB
  rw [Bool.and_eq_true, decide_eq_true_iff, allB_iff]
  constructor
  · rintro ⟨hl, h⟩
    apply List.ext_getElem hl
    intro i h1 h2
    have := h i h1
    simpa [rn, List.getD_eq_getElem?_getD, h1, h2] using this
  · rintro rfl
    exact ⟨rfl, fun i _ => by simp⟩

set_option maxHeartbeats 1000000 in
theorem equalW_ok (A0 : Option Addr) (c0 : Nat) (xs : List Int) (A1 : Option Addr) (c1 : Nat) (ys : List Int) (w : World)
    (h0 : (Kd.int .u8).C w A0 xs.length xs) (h1 : (Kd.int .u8).C w A1 ys.length ys) :
    Calls Try.prog 68 #[.slice A0 xs.length c0, .slice A1 ys.length c1] w fun e w' => e = .returned (.bool (eqB xs ys)) ∧ ∃ q, w' = w.drewN q := by
  have hm : xs.length ≤ 9223372036854775807 := h0.2.1
  have hm1 : ys.length ≤ 9223372036854775807 := h1.2.1
  have H0 := Lib.hid h0
  have H1 := Lib.hid h1
  clear h0 h1
  by_cases hl : xs.length = ys.length
  · have HL := Lib.hid hl
    have hle : xs.length ≤ ys.length := by omega
    have hlb : ((xs.length : Int) != (ys.length : Int)) = false := by simp [hl]
    clear hl
    go_enter Try.func68, Try.ntmps68
    go_wp2
    go_loopw [5, 13] (fun _ i wr => ∃ k q : Nat, k ≤ xs.length ∧ i = .int .i64 k ∧ Hid (∀ j, j < k → (rn xs j != rn ys j) = false) ∧ wr = w.drewN q) (fun _ i _ => xs.length - (intOf i).toNat)
    case atStart => exact ⟨0, 0, Nat.zero_le _, rfl, fun j hj => absurd hj (by omega), rfl⟩
    case round =>
      obtain ⟨k, q, hk, rfl, HA, rfl⟩ := hrel
      by_cases hlt : k < xs.length
      · obtain ⟨ad0, rfl, hx0⟩ := at_nat H0.out hlt
        obtain ⟨ad1, rfl, hx1⟩ := at_nat H1.out (show k < ys.length by omega)
        have hlt1 : k < ys.length := by omega
        have hlti : (k : Int) < (xs.length : Int) := by omega
        have hlti1 : (k : Int) < (ys.length : Int) := by omega
        rcases hc : (rn xs k != rn ys k) with _ | _
        · have HS := Lib.hid hc
          go_wp2
          go_quiet (fail)
          go_wp2
          go_roundw
          case rel =>
            refine ⟨k + 1, _, by omega, by go_num, fun j hj => ?_, rfl⟩
            by_cases e : j = k
            · rw [e]; exact HS.out
            · exact HA.out j (by omega)
          case measure => first|(simp [intOf]; done)|(simp [intOf]; omega)
        · have HS := Lib.hid (eqB_no hlt hc)
          go_wp2
          go_quiet (fail)
          go_wp2
          go_ret
          exact ⟨ret_bool HS.out.symm, _, World.drewN_drewN ..⟩
      · obtain rfl : k = xs.length := by omega
        have HS := Lib.hid (eqB_yes HL.out HA.out)
        go_wp2
        go_ret
        exact ⟨ret_bool HS.out.symm, _, rfl⟩
  · have HS := Lib.hid (eqB_len hl)
    have hlb : ((xs.length : Int) != (ys.length : Int)) = true := by simp; omega
    go_enter Try.func68, Try.ntmps68
    go_wp2
    go_ret
    exact ⟨ret_bool HS.out.symm, 0, rfl⟩

set_option maxHeartbeats 1000000 in
theorem l05Same_ok (A0 : Option Addr) (c0 : Nat) (xs : List Int) (A1 : Option Addr) (c1 : Nat) (ys : List Int) (w : World)
    (h0 : (Kd.int .u8).C w A0 xs.length xs) (h1 : (Kd.int .u8).C w A1 ys.length ys) :
    Calls Try.prog 66 #[.slice A0 xs.length c0, .slice A1 ys.length c1] w fun e w' => e = .returned (.bool (eqB xs ys)) ∧ ∃ q, w' = w.drewN q := by
  have hm : xs.length ≤ 9223372036854775807 := h0.2.1
  have hm1 : ys.length ≤ 9223372036854775807 := h1.2.1
  have H0 := Lib.hid h0
  have H1 := Lib.hid h1
  clear h0 h1
  by_cases hl : xs.length = ys.length
  · have HL := Lib.hid hl
    have hle : xs.length ≤ ys.length := by omega
    have hlb : ((xs.length : Int) != (ys.length : Int)) = false := by simp [hl]
    clear hl
    go_enter Try.func66, Try.ntmps66
    go_wp2
    go_loopw [5] (fun i wr => ∃ k q : Nat, k ≤ xs.length ∧ i = .int .i64 k ∧ Hid (∀ j, j < k → (rn xs j != rn ys j) = false) ∧ wr = w.drewN q) (fun i _ => xs.length - (intOf i).toNat)
    case atStart => exact ⟨0, 0, Nat.zero_le _, rfl, fun j hj => absurd hj (by omega), rfl⟩
    case round =>
      obtain ⟨k, q, hk, rfl, HA, rfl⟩ := hrel
      by_cases hlt : k < xs.length
      · obtain ⟨ad0, rfl, hx0⟩ := at_nat H0.out hlt
        obtain ⟨ad1, rfl, hx1⟩ := at_nat H1.out (show k < ys.length by omega)
        have hlt1 : k < ys.length := by omega
        have hlti : (k : Int) < (xs.length : Int) := by omega
        have hlti1 : (k : Int) < (ys.length : Int) := by omega
        rcases hc : (rn xs k != rn ys k) with _ | _
        · have HS := Lib.hid hc
          go_wp2
          go_quiet (fail)
          go_wp2
          go_roundw
          case rel =>
            refine ⟨k + 1, _, by omega, by go_num, fun j hj => ?_, rfl⟩
            by_cases e : j = k
            · rw [e]; exact HS.out
            · exact HA.out j (by omega)
          case measure => first|(simp [intOf]; done)|(simp [intOf]; omega)
        · have HS := Lib.hid (eqB_no hlt hc)
          go_wp2
          go_quiet (fail)
          go_wp2
          go_ret
          exact ⟨ret_bool HS.out.symm, _, World.drewN_drewN ..⟩
      · obtain rfl : k = xs.length := by omega
        have HS := Lib.hid (eqB_yes HL.out HA.out)
        go_wp2
        go_ret
        exact ⟨ret_bool HS.out.symm, _, rfl⟩
  · have HS := Lib.hid (eqB_len hl)
    have hlb : ((xs.length : Int) != (ys.length : Int)) = true := by simp; omega
    go_enter Try.func66, Try.ntmps66
    go_wp2
    go_ret
    exact ⟨ret_bool HS.out.symm, 0, rfl⟩


set_option maxHeartbeats 1000000 in
theorem indexFuncW_ok (g : Nat) (lb : Array Value) (eg : ∀ args w, (callFunc g args).run Try.prog w = .ok (.enter g args) w) (A : Option Addr) (n c : Nat) (el : Nat → Value) (p : Nat → Bool) (w : World) (hr : Raw w A n el) (hp : PredB Try.prog g lb n el p w) :
    Calls Try.prog 105 #[.slice A n c, .func (.func g) #[] lb] w fun e w' => e = .returned (.int .i64 (idx p n)) ∧ Below w.heap.size w w' := by
  have hm := hr.1
  have HR := Lib.hid hr
  have HP := Lib.hid hp
  clear hr hp
  go_enter Try.func105, Try.ntmps105
  go_wp2
  go_loopw [5, 8] (fun _ i wr => ∃ k : Nat, k ≤ n ∧ i = .int .i64 k ∧ Hid (Below w.heap.size w wr) ∧ Hid (∀ j, j < k → p j = false)) (fun _ i _ => n - (intOf i).toNat)
  case atStart => exact ⟨0, Nat.zero_le _, rfl, Below.refl _ _, fun j hj => absurd hj (by omega)⟩
  case round =>
    obtain ⟨k, hk, rfl, HB, HA⟩ := hrel
    by_cases hlt : k < n
    · have hlti : (k : Int) < (n : Int) := by omega
      have hcall := HP.out k wr hlt HB.out
      obtain ⟨ad, rfl, hc⟩ := (HR.out.below HB.out).2 k hlt
      rcases hq : p k with _ | _
      · rw [hq] at hcall
        have HQ := Lib.hid hq
        clear hq
        go_wp2_with (go_at_fn g; refine hcall.mono ?_; rintro e w' ⟨rfl, hb'⟩)
        go_roundw
        case rel =>
          refine ⟨k + 1, by omega, by go_num, HB.out.trans (hb'.mono HB.out.size), fun j hj => ?_⟩
          by_cases e : j = k
          · rw [e]; exact HQ.out
          · exact HA.out j (by omega)
        case measure => first|(simp [intOf]; done)|(simp [intOf]; omega)
      · rw [hq] at hcall
        have HQ := Lib.hid (idx_hit HA.out hq hlt)
        clear hq
        go_wp2_with (go_at_fn g; refine hcall.mono ?_; rintro e w' ⟨rfl, hb'⟩)
        go_ret
        exact ⟨ret_int HQ.out.symm, HB.out.trans (hb'.mono HB.out.size)⟩
    · obtain rfl : k = n := by omega
      have HQ := Lib.hid (idx_none HA.out)
      go_wp2
      go_ret
      exact ⟨ret_int HQ.out.symm, HB.out⟩

set_option maxHeartbeats 1000000 in
theorem indexFuncU8_ok (g : Nat) (lb : Array Value) (eg : ∀ args w, (callFunc g args).run Try.prog w = .ok (.enter g args) w) (A : Option Addr) (n c : Nat) (el : Nat → Value) (p : Nat → Bool) (w : World) (hr : Raw w A n el) (hp : PredB Try.prog g lb n el p w) :
    Calls Try.prog 129 #[.slice A n c, .func (.func g) #[] lb] w fun e w' => e = .returned (.int .i64 (idx p n)) ∧ Below w.heap.size w w' := by
  have hm := hr.1
  have HR := Lib.hid hr
  have HP := Lib.hid hp
  clear hr hp
  go_enter Try.func129, Try.ntmps129
  go_wp2
  go_loopw [5, 8] (fun _ i wr => ∃ k : Nat, k ≤ n ∧ i = .int .i64 k ∧ Hid (Below w.heap.size w wr) ∧ Hid (∀ j, j < k → p j = false)) (fun _ i _ => n - (intOf i).toNat)
  case atStart => exact ⟨0, Nat.zero_le _, rfl, Below.refl _ _, fun j hj => absurd hj (by omega)⟩
  case round =>
    obtain ⟨k, hk, rfl, HB, HA⟩ := hrel
    by_cases hlt : k < n
    · have hlti : (k : Int) < (n : Int) := by omega
      have hcall := HP.out k wr hlt HB.out
      obtain ⟨ad, rfl, hc⟩ := (HR.out.below HB.out).2 k hlt
      rcases hq : p k with _ | _
      · rw [hq] at hcall
        have HQ := Lib.hid hq
        clear hq
        go_wp2_with (go_at_fn g; refine hcall.mono ?_; rintro e w' ⟨rfl, hb'⟩)
        go_roundw
        case rel =>
          refine ⟨k + 1, by omega, by go_num, HB.out.trans (hb'.mono HB.out.size), fun j hj => ?_⟩
          by_cases e : j = k
          · rw [e]; exact HQ.out
          · exact HA.out j (by omega)
        case measure => first|(simp [intOf]; done)|(simp [intOf]; omega)
      · rw [hq] at hcall
        have HQ := Lib.hid (idx_hit HA.out hq hlt)
        clear hq
        go_wp2_with (go_at_fn g; refine hcall.mono ?_; rintro e w' ⟨rfl, hb'⟩)
        go_ret
        exact ⟨ret_int HQ.out.symm, HB.out.trans (hb'.mono HB.out.size)⟩
    · obtain rfl : k = n := by omega
      have HQ := Lib.hid (idx_none HA.out)
      go_wp2
      go_ret
      exact ⟨ret_int HQ.out.symm, HB.out⟩


set_option maxHeartbeats 1000000 in
theorem containsFuncW_ok (g : Nat) (lb : Array Value) (eg : ∀ args w, (callFunc g args).run Try.prog w = .ok (.enter g args) w) (A : Option Addr) (n c : Nat) (el : Nat → Value) (p : Nat → Bool) (w : World) (hr : Raw w A n el) (hp : PredB Try.prog g lb n el p w) :
    Calls Try.prog 58 #[.slice A n c, .func (.func g) #[] lb] w fun e w' => e = .returned (.bool (anyB p n)) ∧ Below w.heap.size w w' := by
  have HR := Lib.hid hr
  have HP := Lib.hid hp
  clear hr hp
  have HS := Lib.hid (idx_any p n)
  go_enter Try.func58, Try.ntmps58
  go_wp2_with (go_at_call 105; refine (indexFuncW_ok g lb eg A n c el p w HR.out HP.out).mono ?_; rintro e w' ⟨rfl, hb'⟩)
  go_ret
  exact ⟨ret_bool HS.out, hb'⟩

set_option maxHeartbeats 1000000 in
theorem containsFuncU8_ok (g : Nat) (lb : Array Value) (eg : ∀ args w, (callFunc g args).run Try.prog w = .ok (.enter g args) w) (A : Option Addr) (n c : Nat) (el : Nat → Value) (p : Nat → Bool) (w : World) (hr : Raw w A n el) (hp : PredB Try.prog g lb n el p w) :
    Calls Try.prog 108 #[.slice A n c, .func (.func g) #[] lb] w fun e w' => e = .returned (.bool (anyB p n)) ∧ Below w.heap.size w w' := by
  have HR := Lib.hid hr
  have HP := Lib.hid hp
  clear hr hp
  have HS := Lib.hid (idx_any p n)
  go_enter Try.func108, Try.ntmps108
  go_wp2_with (go_at_call 129; refine (indexFuncU8_ok g lb eg A n c el p w HR.out HP.out).mono ?_; rintro e w' ⟨rfl, hb'⟩)
  go_ret
  exact ⟨ret_bool HS.out, hb'⟩

end Go.Proofs.Ytjadhhnajphibaa
