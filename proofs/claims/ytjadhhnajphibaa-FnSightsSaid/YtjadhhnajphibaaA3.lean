/- Copies of words and codes; sizes. -/
import Derived.Test.YtjadhhnajphibaaA2
import Derived.Test.YtjadhhnajphibaaW6
import Derived.Test.YtjadhhnajphibaaW2
set_option linter.unusedVariables false
set_option linter.unusedSimpArgs false
namespace Go.Proofs.Ytjadhhnajphibaa
open Go.RowKit Go.Proofs.YtjadhhnajphibaaW.PrintWords

/-- a header of a whole block. -/
abbrev hd (g n : Nat) : Value := .slice (some ⟨g, 0, none⟩) n n
theorem NB.nums_read {kd : IntKind} {w : World} {g t : Nat} {xs : List Int} (h : NB kd w g t xs) (hm : xs.length ≤ 9223372036854775807) : (Kd.int kd).C w (some ⟨g, 0, none⟩) xs.length xs :=
  C_of_nums hm fun j u hu => ⟨_, rfl, h.range j u hu⟩

set_option maxHeartbeats 2000000 in
theorem toWord_ok (A : Option Addr) (c : Nat) (xs : List Int) (w : World) (hn : xs.length ≤ 1048576) (h0 : (Kd.int .u8).C w A xs.length xs) :
    Calls Try.prog 114 #[.slice A xs.length c] w fun e w' => ∃ g, e = .returned (hd g xs.length) ∧ w.heap.size ≤ g ∧ g < w'.heap.size ∧ NB .u8 w' g 5 xs ∧ Below w.heap.size w w' := by
  have HC := Lib.hid h0
  have hmk := print_make (P := Try.prog) 32 5 .u8 1 Try.underlying32 uinfo_u8 (by omega) xs.length (by omega)
  have hm : xs.length ≤ 9223372036854775807 := by omega
  clear h0
  go_enter Try.func114, Try.ntmps114
  go_wp2
  clear hmk
  have e1 : madeCells #[Value.int .u8 0] xs.length = (nums .u8 (List.replicate xs.length 0)).toArray := by
    have := made_nums [0] 1 xs.length rfl (fun i => by cases i <;> simp [rn])
    simpa [nums] using this
  rw [e1]
  have H1 := Lib.hid (NB.new (kd := .u8) w 5 (List.replicate xs.length 0))
  have HB := Lib.hid (below_box w (.cells (nums .u8 (List.replicate xs.length 0)).toArray 5))
  clear e1
  generalize w.alloc (.cells (nums .u8 (List.replicate xs.length 0)).toArray 5) = W0 at *
  have HZ := Lib.hid (List.length_replicate (n := xs.length) (a := (0 : Int)))
  generalize List.replicate xs.length (0 : Int) = zs at *
  go_loopw [4] (fun i wr => ∃ k : Nat, k ≤ xs.length ∧ i = .int .i64 k ∧ Hid (NB .u8 wr w.heap.size 5 (xs.take k ++ zs.drop k)) ∧ Hid (Below w.heap.size w wr)) (fun i _ => xs.length - (intOf i).toNat)
  case atStart => exact ⟨0, by omega, rfl, by simpa using H1, HB⟩
  case round =>
    clear H1 HB
    obtain ⟨k, hk, rfl, H1, HB⟩ := hrel
    by_cases hlt : k < xs.length
    · obtain ⟨ad, rfl, hx⟩ := at_nat (C_below' HC.out HB.out) hlt
      have hlti : (k : Int) < (xs.length : Int) := by omega
      have hc3 := H1.out.cell (show k < (xs.take k ++ zs.drop k).length by simp [HZ.out]; omega)
      have hf3 := H1.out.frozen k
      go_wp2
      go_roundw
      case rel =>
        refine ⟨k + 1, by omega, by go_num, ?_, set_below HB.out (Nat.le_refl _) _⟩
        rw [← take_step hlt HZ.out]
        exact H1.out.set k _
      case measure => first|(simp [intOf]; done)|(simp [intOf]; omega)
    · have ek : k = xs.length := by omega
      subst ek
      have h1 := H1.out
      rw [List.take_length, List.drop_of_length_le (by rw [HZ.out]; omega), List.append_nil] at h1
      have H1' := Lib.hid h1
      clear h1 H1
      go_wp2
      go_ret
      exact ⟨_, rfl, Nat.le_refl _, H1'.out.lt, H1'.out, HB.out⟩

/-- a row of words, each a block of its own: made from B on. -/
def hds (bk : Nat → Nat) (ws : List (List Int)) (k : Nat) : List Value := (List.range ws.length).map fun j => if j < k then hd (bk j) (rl ws j).length else .slice none 0 0
theorem hds_length (bk : Nat → Nat) (ws : List (List Int)) (k : Nat) : (hds bk ws k).length = ws.length := by simp [hds]
theorem hds_get {bk : Nat → Nat} {ws : List (List Int)} {k j : Nat} (hj : j < ws.length) : (hds bk ws k)[j]? = some (if j < k then hd (bk j) (rl ws j).length else .slice none 0 0) := by simp [hds, hj]
theorem hds_step {bk : Nat → Nat} {ws : List (List Int)} {k g : Nat} (hk : k < ws.length) : (hds bk ws k).set k (hd g (rl ws k).length) = hds (fun j => if j = k then g else bk j) ws (k + 1) := by
  apply List.ext_getElem?
  intro i
  by_cases hi : i < ws.length
  · rw [hds_get hi, List.getElem?_set]
    by_cases e : k = i
    · subst e
      simp [hds_length, hk]
    · rw [if_neg e, hds_get hi]
      have e' : ¬ i = k := fun h => e h.symm
      by_cases h1 : i < k
      · have h2 : i < k + 1 := by omega
        simp [h1, h2, e']
      · have h2 : ¬ i < k + 1 := by omega
        simp [h1, h2]
  · rw [List.getElem?_eq_none (by rw [List.length_set, hds_length]; omega), List.getElem?_eq_none (by rw [hds_length]; omega)]
structure MW (w : World) (B g : Nat) (bk : Nat → Nat) (ws : List (List Int)) (k : Nat) : Prop where
  row : w.heap[g]? = some (.cells (hds bk ws k).toArray 32 (0, 0))
  base : B ≤ g
  each : ∀ j, j < k → j < ws.length → B ≤ bk j ∧ bk j < w.heap.size ∧ bk j ≠ g ∧ NB .u8 w (bk j) 5 (rl ws j)
theorem MW.lt {w : World} {B g : Nat} {bk : Nat → Nat} {ws : List (List Int)} {k : Nat} (h : MW w B g bk ws k) : g < w.heap.size := blk_lt h.row
theorem MW.below {w w1 : World} {B g : Nat} {bk : Nat → Nat} {ws : List (List Int)} {k : Nat} (h : MW w B g bk ws k) (hb : Below w.heap.size w w1) : MW w1 B g bk ws k :=
  ⟨(hb.block g h.lt).trans h.row, h.base, fun j hj hj' => by
    obtain ⟨h1, h2, h3, h4⟩ := h.each j hj hj'
    exact ⟨h1, Nat.lt_of_lt_of_le h2 hb.size, h3, h4.below hb⟩⟩
theorem MW.far {w : World} {B g : Nat} {bk : Nat → Nat} {ws : List (List Int)} {k : Nat} (h : MW w B g bk ws k) {p : Addr} (hp : p.block < B) (u : Value) : MW (w.setCell p u) B g bk ws k :=
  ⟨blk_far h.row (by have := h.base; omega) u, h.base, fun j hj hj' => by
    obtain ⟨h1, h2, h3, h4⟩ := h.each j hj hj'
    exact ⟨h1, by simpa [World.setCell] using h2, h3, h4.far (by omega) u⟩⟩
theorem MW.lower {w : World} {B B' g : Nat} {bk : Nat → Nat} {ws : List (List Int)} {k : Nat} (h : MW w B g bk ws k) (hb : B' ≤ B) : MW w B' g bk ws k :=
  ⟨h.row, by have := h.base; omega, fun j hj hj' => by
    obtain ⟨h1, h2⟩ := h.each j hj hj'
    exact ⟨by omega, h2⟩⟩
theorem MW.reads {w : World} {B g : Nat} {bk : Nat → Nat} {ws : List (List Int)} (h : MW w B g bk ws ws.length) (hn : ws.length ≤ 9223372036854775807) (hm : ∀ j, (rl ws j).length ≤ 9223372036854775807) : (Kd.slice 5 (Kd.int .u8)).C w (some ⟨g, 0, none⟩) ws.length ws := by
  refine C_of_cells (cs := hds bk ws ws.length) rfl hn (fun j u hu => ⟨_, rfl, ?_⟩) fun j hj => ?_
  · rw [add_plain, blk_cell h.row j]
    simpa using hu
  · obtain ⟨h1, h2, h3, h4⟩ := h.each j hj hj
    exact ⟨some ⟨bk j, 0, none⟩, (rl ws j).length, by rw [hds_get hj, if_pos hj], Nat.le_refl _, h4.nums_read (hm j)⟩

set_option maxHeartbeats 2000000 in
theorem toWordS_ok (A : Option Addr) (c : Nat) (ws : List (List Int)) (w : World) (hn : ws.length ≤ 1048576) (hl : ∀ j, (rl ws j).length ≤ 1048576) (h0 : (Kd.slice 5 (Kd.int .u8)).C w A ws.length ws) :
    Calls Try.prog 82 #[.slice A ws.length c] w fun e w' => ∃ g bk, e = .returned (hd g ws.length) ∧ MW w' w.heap.size g bk ws ws.length ∧ Below w.heap.size w w' := by
  have HC := Lib.hid h0
  have HLL := Lib.hid hl
  have hmk : ∀ W : World, (Instr.makeSlice 25 (.int .i64 (ws.length : Int)) (.int .i64 (ws.length : Int))).run Try.prog W = .ok (.slice (some ⟨W.heap.size, 0, none⟩) ws.length ws.length) (W.alloc (.cells (madeCells #[.slice none 0 0] ws.length) 32)) := by
    obtain ⟨i0, hi, hzz⟩ := Option.map_eq_some_iff.1 uinfo_word
    simp only [Prod.mk.injEq] at hzz
    obtain ⟨hz, hs, hb⟩ := hzz
    intro W
    rw [run_make_rowN 25 32 i0 _ Try.underlying25 hi hz .i64 .i64 ws.length ws.length (Nat.le_refl _) (by rw [hb]; omega) (by omega) W, hs, Nat.mul_one]
    rfl
  have hm : ws.length ≤ 9223372036854775807 := by omega
  clear h0 hl
  go_enter Try.func82, Try.ntmps82
  go_wp2
  clear hmk
  have e1 : madeCells #[Value.slice none 0 0] ws.length = (hds (fun _ => 0) ws 0).toArray := by
    apply Array.ext
    · simp [size_madeCells, hds]
    · intro i h1 h2
      have hi : i < ws.length := by simpa [size_madeCells] using h1
      simp [madeCells, hds, Nat.mod_one]
  rw [e1]
  have H1 : Hid (MW (w.alloc (.cells (hds (fun _ => 0) ws 0).toArray 32)) w.heap.size w.heap.size (fun _ => 0) ws 0) := ⟨heap_alloc_new w _, Nat.le_refl _, fun j hj => absurd hj (by omega)⟩
  have HB := Lib.hid (below_box w (.cells (hds (fun _ => 0) ws 0).toArray 32))
  clear e1
  generalize w.alloc (.cells (hds (fun _ => 0) ws 0).toArray 32) = W0 at *
  go_loopw [4] (fun i wr => ∃ (k : Nat) (bk : Nat → Nat), k ≤ ws.length ∧ i = .int .i64 k ∧ Hid (MW wr w.heap.size w.heap.size bk ws k) ∧ Hid (Below w.heap.size w wr)) (fun i _ => ws.length - (intOf i).toNat)
  case atStart => exact ⟨0, _, by omega, rfl, H1, HB⟩
  case round =>
    clear H1 HB
    obtain ⟨k, bk, hk, rfl, H1, HB⟩ := hrel
    by_cases hlt : k < ws.length
    · obtain ⟨ad, A1, c1, rfl, hx, hl1, hr1⟩ := at_row (C_below' HC.out HB.out) hlt
      have hlti : (k : Int) < (ws.length : Int) := by omega
      have HW := Lib.hid (toWord_ok A1 c1 _ wr (HLL.out k) hr1)
      have hm1 : (rl ws k).length ≤ 9223372036854775807 := hr1.2.1
      clear hr1
      go_wp2_with (go_at_call 114; refine HW.out.mono ?_; rintro e w1 ⟨g1, rfl, hg1, hg1', hnb, hb1⟩; have H2 := Lib.hid (H1.out.below hb1); have HB2 := Lib.hid (HB.out.trans (hb1.mono HB.out.size)); have HN1 := Lib.hid hnb; have hc := blk_cell H2.out.row k; have hf := blk_frozen H2.out.row k; simp only [List.getElem?_toArray] at hc; rw [hds_get hlt, if_neg (Nat.lt_irrefl k)] at hc; have hgne : w.heap.size ≠ g1 := (by have := H1.out.lt; omega); clear hb1 hnb)
      go_roundw
      case rel =>
        refine ⟨k + 1, fun j => if j = k then g1 else bk j, by omega, by go_num, ⟨?_, Nat.le_refl _, fun j hj hj' => ?_⟩, set_below HB2.out (Nat.le_refl _) _⟩
        · have h3 := blk_set H2.out.row k (hd g1 (rl ws k).length)
          rw [← hds_step hlt]
          simpa using h3
        · by_cases e : j = k
          · subst e
            simp only [if_true]
            exact ⟨by have := HB.out.size; omega, by simpa [World.setCell] using hg1', hgne.symm, HN1.out.far (by simpa using hgne.symm) _⟩
          · obtain ⟨h4, h5, h6, h7⟩ := H2.out.each j (by omega) hj'
            simp only [if_neg e]
            exact ⟨h4, by simpa [World.setCell] using h5, h6, h7.far (by simpa using h6) _⟩
      case measure => first|(simp [intOf]; done)|(simp [intOf]; omega)
    · have ek : k = ws.length := by omega
      subst ek
      go_wp2
      go_ret
      exact ⟨_, bk, rfl, H1.out, HB.out⟩

/-! ### sizes -/
def szV (left n : Int) : Int := if left - n < 0 then -1 else left - n
theorem szFlagS_ok (A : Option Addr) (c n : Nat) (left : Int) (w : World) (hn : n ≤ 9223372036854775807) (hl : 0 ≤ left) (hl' : left ≤ 1048576) :
    Calls Try.prog 76 #[.slice A n c, .int .i64 left] w fun e w' => e = .returned (.int .i64 (szV left n)) ∧ w = w' := by
  by_cases h : left - n < 0
  · have HS := Lib.hid (show szV left n = -1 by rw [szV, if_pos h])
    go_enter Try.func76, Try.ntmps76
    go_wp2
    go_ret
    exact ⟨ret_int HS.out.symm, rfl⟩
  · have HS := Lib.hid (show szV left n = left - n by rw [szV, if_neg h])
    go_enter Try.func76, Try.ntmps76
    go_wp2
    go_ret
    exact ⟨ret_int HS.out.symm, rfl⟩

theorem szWord_ok (A : Option Addr) (c n : Nat) (left : Int) (w : World) (hn : n ≤ 9223372036854775807) (hl : 0 ≤ left) (hl' : left ≤ 1048576) :
    Calls Try.prog 110 #[.slice A n c, .int .i64 left] w fun e w' => e = .returned (.int .i64 (szV left n)) ∧ w = w' := by
  by_cases h : left - n < 0
  · have HS := Lib.hid (show szV left n = -1 by rw [szV, if_pos h])
    go_enter Try.func110, Try.ntmps110
    go_wp2
    go_ret
    exact ⟨ret_int HS.out.symm, rfl⟩
  · have HS := Lib.hid (show szV left n = left - n by rw [szV, if_neg h])
    go_enter Try.func110, Try.ntmps110
    go_wp2
    go_ret
    exact ⟨ret_int HS.out.symm, rfl⟩

theorem szSightS_ok (A : Option Addr) (c n : Nat) (left : Int) (w : World) (hn : n ≤ 9223372036854775807) (hl : 0 ≤ left) (hl' : left ≤ 1048576) :
    Calls Try.prog 32 #[.slice A n c, .int .i64 left] w fun e w' => e = .returned (.int .i64 (szV left n)) ∧ w = w' := by
  by_cases h : left - n < 0
  · have HS := Lib.hid (show szV left n = -1 by rw [szV, if_pos h])
    go_enter Try.func32, Try.ntmps32
    go_wp2
    go_ret
    exact ⟨ret_int HS.out.symm, rfl⟩
  · have HS := Lib.hid (show szV left n = left - n by rw [szV, if_neg h])
    go_enter Try.func32, Try.ntmps32
    go_wp2
    go_ret
    exact ⟨ret_int HS.out.symm, rfl⟩

/-- what is left behind k words; -1: not enough. -/
def szTo (left : Int) (ws : List (List Int)) : Nat → Int
  | 0 => left
  | k + 1 => if szTo left ws k < 0 then -1 else szV (szTo left ws k) (rl ws k).length
theorem szTo_neg {left : Int} {ws : List (List Int)} {k : Nat} (h : szTo left ws k < 0) (h' : szTo left ws k = -1) : ∀ j, szTo left ws (k + j) = -1
  | 0 => h'
  | j + 1 => by
    have := szTo_neg h h' j
    rw [show k + (j + 1) = (k + j) + 1 from rfl, szTo, this]
    simp
theorem szV_le {left n : Int} (h : 0 ≤ n) (hl : 0 ≤ left) : szV left n ≤ left ∧ -1 ≤ szV left n := by
  unfold szV
  split <;> omega
theorem szTo_le {left : Int} {ws : List (List Int)} {k : Nat} (hl : 0 ≤ left) : szTo left ws k ≤ left ∧ -1 ≤ szTo left ws k := by
  induction k with
  | zero => exact ⟨Int.le_refl _, by simp [szTo]; omega⟩
  | succ k ih =>
    unfold szTo
    split
    · omega
    · rename_i h
      have := szV_le (left := szTo left ws k) (n := (rl ws k).length) (by omega) (by omega)
      omega
def szWV (left : Int) (ws : List (List Int)) : Int := if left - ws.length < 0 then -1 else szTo (left - ws.length) ws ws.length

set_option maxHeartbeats 2000000 in
theorem szWordS_ok (A : Option Addr) (c : Nat) (ws : List (List Int)) (left : Int) (w : World) (hn : ws.length ≤ 9223372036854775807) (hw : ∀ j, (rl ws j).length ≤ 9223372036854775807) (hl : 0 ≤ left) (hl' : left ≤ 1048576) (h0 : (Kd.slice 5 (Kd.int .u8)).C w A ws.length ws) :
    Calls Try.prog 77 #[.slice A ws.length c, .int .i64 left] w fun e w' => e = .returned (.int .i64 (szWV left ws)) ∧ w = w' := by
  have HC := Lib.hid h0
  have HW := Lib.hid hw
  clear h0 hw
  by_cases h : left - ws.length < 0
  · have HS := Lib.hid (show szWV left ws = -1 by rw [szWV, if_pos h])
    go_enter Try.func77, Try.ntmps77
    go_wp2
    go_ret
    exact ⟨ret_int HS.out.symm, rfl⟩
  · have HS := Lib.hid (show szWV left ws = szTo (left - ws.length) ws ws.length by rw [szWV, if_neg h])
    have hr := fun k => szTo_le (left := left - ws.length) (ws := ws) (k := k) (by omega)
    have HR := Lib.hid hr
    clear hr
    go_enter Try.func77, Try.ntmps77
    go_wp2
    go_loop [1, 5] (fun x i => ∃ k : Nat, k ≤ ws.length ∧ i = .int .i64 k ∧ x = .int .i64 (szTo (left - ws.length) ws k) ∧ Hid (0 ≤ szTo (left - ws.length) ws k)) (fun _ i => ws.length - (intOf i).toNat)
    case atStart => exact ⟨0, by omega, rfl, rfl, show 0 ≤ left - ws.length by omega⟩
    case round =>
      obtain ⟨k, hk, rfl, rfl, H0⟩ := hrel
      by_cases hlt : k < ws.length
      · obtain ⟨ad, A1, c1, rfl, hx, hl1, hr1⟩ := at_row HC.out hlt
        have hlti : (k : Int) < (ws.length : Int) := by omega
        have hm1 := HW.out k
        have hp0 := H0.out
        have hp1 := (HR.out k).1
        have HST := Lib.hid (show szTo (left - ws.length) ws (k + 1) = szV (szTo (left - ws.length) ws k) (rl ws k).length by rw [szTo, if_neg (by omega)])
        clear hr1
        by_cases hneg : szV (szTo (left - ws.length) ws k) (rl ws k).length < 0
        · have hm1' : szV (szTo (left - ws.length) ws k) (rl ws k).length = -1 := by
            have := (szV_le (left := szTo (left - ws.length) ws k) (n := (rl ws k).length) (by omega) hp0).2
            omega
          have HN := Lib.hid (show szWV left ws = -1 by
            rw [HS.out]
            have h1 := szTo_neg (left := left - ws.length) (ws := ws) (k := k + 1) (by rw [HST.out]; omega) (by rw [HST.out]; exact hm1') (ws.length - (k + 1))
            rwa [show k + 1 + (ws.length - (k + 1)) = ws.length by omega] at h1)
          clear hm1'
          go_wp2_with (go_at_call 110; refine (szWord_ok _ _ _ _ _ hm1 hp0 (by omega)).mono ?_; rintro e w' ⟨rfl, rfl⟩)
          go_ret
          exact ⟨ret_int HN.out.symm, rfl⟩
        · have hnn : 0 ≤ szV (szTo (left - ws.length) ws k) (rl ws k).length := by omega
          have HNN := Lib.hid hnn
          go_wp2_with (go_at_call 110; refine (szWord_ok _ _ _ _ _ hm1 hp0 (by omega)).mono ?_; rintro e w' ⟨rfl, rfl⟩)
          go_round
          case rel => exact ⟨k + 1, by omega, by go_num, by rw [HST.out], by rw [HST.out]; exact HNN⟩
          case measure => first|(simp [intOf]; done)|(simp [intOf]; omega)
      · have ek : k = ws.length := by omega
        subst ek
        go_wp2
        go_ret
        exact ⟨ret_int HS.out.symm, rfl⟩
end Go.Proofs.Ytjadhhnajphibaa
