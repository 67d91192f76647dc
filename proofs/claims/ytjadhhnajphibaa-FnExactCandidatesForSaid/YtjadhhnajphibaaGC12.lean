/- Contracts of functions and plain lemmas that the row stands on: The law: the program's nearest words are the reference's. Arguments that came in: rows of arrays, rows of words. What is seen of a word of a code: both. Rows of one's own, and marks. Plain: the words near what has been seen; the nearest one. No conditions beyond those that each theorem names. -/
import Derived.Test.YtjadhhnajphibaaGC11
import Derived.WalkKit
import Derived.ProofKit
import Derived.OpenShut
import Derived.Deep.Slices
import Derived.Deep.Matrix
import Derived.Lib.SmallJoins
set_option linter.unusedVariables false
set_option linter.unusedSimpArgs false
namespace Go.Proofs.Ytjadhhnajphibaa
open Go.RowKit Go.Proofs.YtjadhhnajphibaaW.PrintWords

theorem ainfo_lcode : (Try.prog.info? 40).map (·.size) = some 2 := by kernel_rfl
theorem szTo_each {left : Int} {ws : List (List Int)} (hl : 0 ≤ left) (hm : left ≤ 1048576) : ∀ {k : Nat}, 0 ≤ szTo left ws k → ∀ j, j < k → (rl ws j).length ≤ 1048576 := by
  intro k
  induction k with
  | zero => intro _ j hj; omega
  | succ k ih =>
    intro h j hj
    have h1 := szTo_le (left := left) (ws := ws) (k := k) hl
    unfold szTo at h
    split at h
    · omega
    · rename_i h2
      by_cases e : j = k
      · subst e
        unfold szV at h
        split at h <;> omega
      · exact ih (by omega) j (by omega)
theorem szCV_bounds {fs ws : List (List Int)} (h : ¬ szCV 1048576 fs ws < 0) : fs.length ≤ 1048576 ∧ ws.length ≤ 1048576 ∧ ∀ j, (rl ws j).length ≤ 1048576 := by
  unfold szCV at h
  split at h
  · omega
  · rename_i h1
    have h2 : szV 1048576 fs.length = 1048576 - fs.length := by
      unfold szV
      rw [if_neg]
      intro hlt
      apply h1
      unfold szV
      rw [if_pos hlt]
      omega
    split at h
    · omega
    · rename_i h3
      unfold szWV at h3
      rw [h2] at h1 h3
      split at h3
      · omega
      · refine ⟨by omega, by omega, fun j => ?_⟩
        rcases Nat.lt_or_ge j ws.length with hj | hj
        · exact szTo_each (left := 1048576 - (fs.length : Int) - ws.length) (ws := ws) (by omega) (by omega) (k := ws.length) (by omega) j hj
        · simp [rl, List.getD_eq_getElem?_getD, List.getElem?_eq_none hj]
theorem MC.flags {w : World} {B gs gw : Nat} {bk : Nat → Nat} {fs ws : List (List Int)} (h : MC w B gs gw bk fs ws) (hf : fs.length ≤ 1048576) : (Karr 24).C w (some ⟨gs, 0, none⟩) fs.length fs := h.set.arrs h.len (by omega)
theorem MC.reads {w : World} {B gs gw : Nat} {bk : Nat → Nat} {fs ws : List (List Int)} (h : MC w B gs gw bk fs ws) (hn : ws.length ≤ 1048576) (hl : ∀ j, (rl ws j).length ≤ 1048576) : (Kd.slice 5 (Kd.int .u8)).C w (some ⟨gw, 0, none⟩) ws.length ws := h.words.reads (by omega) (fun j => by have := hl j; omega)

set_option maxRecDepth 100000 in
set_option maxHeartbeats 8000000 in
theorem FnNear_ok (A : Option Addr) (c : Nat) (fs : List (List Int)) (A1 : Option Addr) (c1 : Nat) (ws : List (List Int)) (w : World) (hf : ∀ k i, 0 ≤ rn (rl fs k) i) (hx : WBytes ws) (hwl : ∀ j, (rl ws j).length ≤ 9223372036854775807)
    (h0 : (Karr 24).C w A fs.length fs) (h1 : (Kd.slice 5 (Kd.int .u8)).C w A1 ws.length ws) :
    Calls Try.prog 4 #[.agg #[.slice A fs.length c, .slice A1 ws.length c1]] w fun e w' => e = .returned (.bool true) ∧ Below w.heap.size w w' := by
  have hm1 : ws.length ≤ 9223372036854775807 := h1.2.1
  have hm0 : fs.length ≤ 9223372036854775807 := h0.2.1
  have hcc := heap_alloc_new w (.cells #[.slice A fs.length c, .slice A1 ws.length c1] 40)
  have hb0 := below_box w (.cells #[.slice A fs.length c, .slice A1 ws.length c1] 40)
  have hsz0 := size_box w (.cells #[.slice A fs.length c, .slice A1 ws.length c1] 40)
  have HSZ := Lib.hid (szCode_ok A c fs A1 c1 ws 1048576 (w.alloc (.cells #[.slice A fs.length c, .slice A1 ws.length c1] 40)) hm0 hm1 hwl (by omega) (by omega) (C_below' h1 hb0))
  have HCC := Lib.hid hcc
  have HB0 := Lib.hid hb0
  have H0 := Lib.hid (C_below' h0 hb0)
  have H1 := Lib.hid (C_below' h1 hb0)
  have hbnd := szCV_bounds (fs := fs) (ws := ws)
  clear hcc hb0 h0 h1
  generalize szCV 1048576 fs ws = sz at *
  by_cases hneg : sz < 0
  · clear hbnd
    go_enter Try.func4, Try.ntmps4
    go_wp2_with (first | (refine load_agg rfl 40 (.tmp 1) rfl ⟨w.heap.size, 0, none⟩ rfl [.slice A fs.length c, .slice A1 ws.length c1] _ (fun j v hv => by rw [add_plain, blk_cell HCC.out j]; simpa using hv) Try.underlying40 rfl ainfo_lcode ?_) | (go_at_call 21; refine HSZ.out.mono ?_; rintro e w1 ⟨rfl, hb1⟩))
    go_ret
    exact ⟨rfl, HB0.out.trans (hb1.mono (by omega))⟩
  · obtain ⟨hfl, hwn, hwl2⟩ := hbnd hneg
    have HL := Lib.hid hwl2
    clear hbnd hwl2 hwl
    have HTC := Lib.hid (fun (W : World) (h : Below (w.alloc (.cells #[.slice A fs.length c, .slice A1 ws.length c1] 40)).heap.size (w.alloc (.cells #[.slice A fs.length c, .slice A1 ws.length c1] 40)) W) => toCode_ok A c fs A1 c1 ws W hfl hwn HL.out (C_below' H0.out h) (C_below' H1.out h))
    have HX := Lib.hid (fun (W : World) (h : Below (w.alloc (.cells #[.slice A fs.length c, .slice A1 ws.length c1] 40)).heap.size (w.alloc (.cells #[.slice A fs.length c, .slice A1 ws.length c1] 40)) W) => And.intro ((blk_cell ((h.block w.heap.size (by omega)).trans HCC.out) 0).trans (show _ = some (.slice A fs.length c) from rfl)) (And.intro ((blk_cell ((h.block w.heap.size (by omega)).trans HCC.out) 1).trans (show _ = some (.slice A1 ws.length c1) from rfl)) (show w.heap.size < W.heap.size by have := h.size; omega)))
    have HS := Lib.hid (fun (W : World) (gs gw : Nat) (bk : Nat → Nat) (B : Nat) (h : MC W B gs gw bk fs ws) => NearestWordsS_ok (some ⟨gs, 0, none⟩) fs.length fs (some ⟨gw, 0, none⟩) ws.length ws W hf hx (h.flags hfl) (h.reads hwn HL.out))
    have HI := Lib.hid (fun (W : World) (gs gw : Nat) (bk : Nat → Nat) (B : Nat) (h : MC W B gs gw bk fs ws) => NearestWords_ok (some ⟨gs, 0, none⟩) fs.length fs (some ⟨gw, 0, none⟩) ws.length ws W hf hx (h.flags hfl) (h.reads hwn HL.out))
    have HE := Lib.hid (fun (W : World) (gs gw : Nat) (bk : Nat → Nat) (B : Nat) (h : MC W B gs gw bk fs ws) (gs' gw' : Nat) (bk' : Nat → Nat) (B' : Nat) (h' : MC W B' gs' gw' bk' fs ws) => eqCode_ok (some ⟨gs, 0, none⟩) fs.length fs (some ⟨gw, 0, none⟩) ws.length ws (some ⟨gs', 0, none⟩) fs.length fs (some ⟨gw', 0, none⟩) ws.length ws W (h.flags hfl) (h.reads hwn HL.out) (h'.flags hfl) (h'.reads hwn HL.out))
    rw [eqWB_iff.2 (rfl : fs = fs), eqWB_iff.2 (rfl : ws = ws)] at HE
    unfold cv at HTC
    generalize nwV fs ws = r at *
    have q1 : (r.1 != r.1) = false := by simp
    have q2 : (r.2.1 != r.2.1) = false := by simp
    have q3 : (r.2.2.1 != r.2.2.1) = false := by simp
    have q4 : (r.2.2.2 != r.2.2.2) = false := by simp
    go_enter Try.func4, Try.ntmps4
    go_wp2_with (first | (go_at_call 21; refine HSZ.out.mono ?_; rintro e w1 ⟨rfl, hb1⟩; obtain ⟨a0, a1, a2⟩ := HX.out w1 hb1; have HB1 := Lib.hid hb1; clear hb1) | (go_at_call 23; refine (HTC.out w1 HB1.out).mono ?_; rintro e w2 ⟨gs, gw, bk, rfl, hmc, hb2⟩; have HB2 := Lib.hid (HB1.out.trans (hb2.mono HB1.out.size)); have HM := Lib.hid hmc; clear hb2 hmc) | (go_at_call 22; refine (HS.out w2 gs gw bk _ HM.out).mono ?_; rintro e w3 ⟨rfl, hb3⟩; unfold tup4; have HB3 := Lib.hid (HB2.out.trans (hb3.mono HB2.out.size)); obtain ⟨b0, b1, b2⟩ := HX.out w3 HB3.out; clear hb3) | (go_at_call 23; refine (HTC.out w3 HB3.out).mono ?_; rintro e w4 ⟨gs2, gw2, bk2, rfl, hmc, hb4⟩; have HB4 := Lib.hid (HB3.out.trans (hb4.mono HB3.out.size)); have HM2 := Lib.hid hmc; clear hb4 hmc) | (go_at_call 24; refine (HI.out _ gs2 gw2 bk2 _ (HM2.out.below (below_box _ _))).mono ?_; rintro e w6 ⟨rfl, hb6⟩; unfold tup4; have hx6 := (hb6.block w4.heap.size (by simp)).trans (heap_alloc_new w4 _); have HX6 := Lib.hid hx6; have HM6 := Lib.hid ((HM2.out.below (below_box w4 (.cells #[hd gs2 fs.length, hd gw2 ws.length] 46))).below hb6); have HB6 := Lib.hid ((below_alloc HB4.out (.cells #[hd gs2 fs.length, hd gw2 ws.length] 46)).trans (hb6.mono (below_alloc HB4.out _).size)); have hl6 : w4.heap.size < w6.heap.size := (by have := hb6.size; simp at this; omega); clear hx6 hb6))
    have hdr : Below w6.heap.size w6 w6.drew := ⟨rfl, rfl, rfl, Nat.le_refl _, fun _ _ => rfl⟩
    have hbd := HB6.out.trans (hdr.mono HB6.out.size)
    have HK := Lib.hid (fun (W : World) (h : Below w6.heap.size w6 W) => And.intro ((blk_cell ((h.block w4.heap.size hl6).trans HX6.out) 0).trans (show _ = some (hd gs2 fs.length) from rfl)) (And.intro ((blk_cell ((h.block w4.heap.size hl6).trans HX6.out) 1).trans (show _ = some (hd gw2 ws.length) from rfl)) (And.intro (HX.out W (HB6.out.trans (h.mono HB6.out.size))).1 (HX.out W (HB6.out.trans (h.mono HB6.out.size))).2.1)))
    go_region_held3 (fun w' => w'.cell? ⟨w4.heap.size, 0, none⟩ = some (hd gs2 fs.length) ∧ w'.cell? ⟨w4.heap.size, 1, none⟩ = some (hd gw2 ws.length) ∧ w'.cell? ⟨w.heap.size, 0, none⟩ = some (.slice A fs.length c) ∧ w'.cell? ⟨w.heap.size, 1, none⟩ = some (.slice A1 ws.length c1))
      ((first | exact HK.out _ hdr | exact HK.out _ hq1 | exact HK.out _ hq2))
      ((first | (go_at_call 23; refine (HTC.out _ hbd).mono ?_; rintro e w7 ⟨gs3, gw3, bk3, rfl, hmc, hb7⟩; have hq1 := hdr.trans (hb7.mono hdr.size)) | (go_at_call 25; refine (HE.out w7 gs2 gw2 bk2 _ (HM6.out.below hq1) gs3 gw3 bk3 _ hmc).mono ?_; rintro e w8 ⟨rfl, hb8⟩; have hq2 := hq1.trans (hb8.mono hq1.size))))
    go_wp2
    go_ret
    exact ⟨rfl, HB0.out.trans ((HB6.out.trans (hq2.mono HB6.out.size)).mono (by omega))⟩
end Go.Proofs.Ytjadhhnajphibaa
namespace Go.Proofs.Ytjadhhnajphibaa
open Go.ChangeShapes Go.WideShapes Go.ChangeAt Go.RowKit Go.Deep
open Go.Proofs.YtjadhhnajphibaaW.PrintWords

section
variable {H : Type} {enc : TypeId × Value → H} {P : Program} {w : World} {base : Nat} {spare : Nat → Bool} {held : Bool}
theorem arr_elem {N fuel : Nat} {e q : TypeId} {cs : List Value} {x : DataW H × List MemPlace} (he : P.underlying e = some (.array N q)) (hq : P.underlying q = some (.int .u8)) (ce : P.cellsOf e = N) (cq : P.cellsOf q = 1)
    (h : DataW.trod enc P w base spare held fuel e cs = some x) : ∃ p : List Int, p.length = N ∧ cs = nums .u8 p ∧ ∀ j, 0 ≤ rn p j := by
  obtain ⟨xs, m, rfl, rfl, hl, hxl, hx⟩ := DataW.trod_array he h
  rw [ce] at hl
  rw [cq] at hx
  obtain ⟨f, hf⟩ := choose_lt (α := Int) (n := N) (p := fun j v => cs[j]? = some (.int .u8 v) ∧ (Lit.int .u8 v).wf = true) (fun j hj => by
    have h1 := hx j hj
    have h2 : j < xs.length := by omega
    rw [List.getElem?_eq_getElem h2, Nat.mul_one] at h1
    obtain ⟨n, h3, _, h4⟩ := DataW.trod_int hq h1
    refine ⟨n, ?_, h4⟩
    have h5 := congrArg (fun l : List Value => l[0]?) h3
    simpa [List.getElem?_take, List.getElem?_drop] using h5)
  refine ⟨(List.range N).map f, by simp, ?_, fun j => ?_⟩
  · apply List.ext_getElem?
    intro j
    by_cases hj : j < N
    · rw [(hf j hj).1]
      simp [nums, hj]
    · rw [List.getElem?_eq_none (by omega), List.getElem?_eq_none (by simp [nums]; omega)]
  · by_cases hj : j < N
    · have := bounds_u8 (hf j hj).2
      simp [rn, List.getD_eq_getElem?_getD, hj]
      omega
    · rw [rn_out (by simp; omega)]; omega
theorem open_arrs {N fuel : Nat} (hN : 0 < N) {t e q : TypeId} {v : Value} {x : DataW H × List MemPlace} (ht : P.underlying t = some (.slice e)) (he : P.underlying e = some (.array N q)) (hq : P.underlying q = some (.int .u8)) (ce : P.cellsOf e = N) (cq : P.cellsOf q = 1)
    (h : DataW.trod enc P w base spare held fuel t [v] = some x) : ∃ A c fs, v = .slice A fs.length c ∧ (Karr N).C w A fs.length fs ∧ ∀ k i, 0 ≤ rn (rl fs k) i := by
  rcases open_slice ht h with ⟨hcs, _⟩ | ⟨a, len, cap, m, n, D, Pl, hcs, hb, hl, hm, hmm, rfl, hx⟩
  · obtain rfl : v = .slice none 0 0 := by simpa using hcs
    exact ⟨none, 0, [], rfl, C_none w, fun k i => by simp [rl, rn]⟩
  · obtain rfl : v = .slice (some a) len cap := by simpa using hcs
    have hlm : len ≤ m := by rw [hmm]; split <;> omega
    obtain ⟨f, hf⟩ := choose_lt (α := List Int) (n := len) (p := fun i p => p.length = N ∧ (∀ j u, (nums .u8 p)[j]? = some u → w.cell? (a.add (i * N + j)) = some u) ∧ ∀ j, 0 ≤ rn p j) (fun i hi => by
      obtain ⟨cs', h1, h2⟩ := hx i (by omega)
      rw [ce] at h1
      obtain ⟨p, hp, rfl, hp0⟩ := arr_elem he hq ce cq h2
      obtain ⟨_, h3, h4⟩ := World.cells?_some h1
      refine ⟨p, hp, fun j u hu => ?_, hp0⟩
      have hj : j < N := by
        have := (List.getElem?_eq_some_iff.1 hu).1
        rwa [h3] at this
      rw [← hu, ← h4 j hj, Go.Deep.add_add])
    have hfl : ((List.range len).map f).length = len := by simp
    have hget : ∀ i, i < len → rl ((List.range len).map f) i = f i := fun i hi => by simp [rl, List.getD_eq_getElem?_getD, hi]
    refine ⟨some a, cap, (List.range len).map f, by rw [hfl], ?_, fun k i => ?_⟩
    · rw [hfl]
      refine ⟨hfl, by unfold maxLen at hm; omega, fun _ => ⟨a, rfl, fun j p hj => ?_⟩⟩
      have hjl : j < len := by
        have := (List.getElem?_eq_some_iff.1 hj).1
        rwa [hfl] at this
      have hp : p = f j := by simpa [hjl] using hj.symm
      subst hp
      have hsz : (Karr N).sz = N := by simp [Kd.arr, Kd.int, Kd.scalar]
      refine ⟨nums .u8 (f j), by rw [nums_length, (hf j hjl).1, hsz], ⟨(hf j hjl).1, Kd.reps_scalar _⟩, fun i u hi => ?_⟩
      rw [hsz]
      exact (hf j hjl).2.1 i u hi
    · by_cases hk : k < len
      · rw [hget k hk]; exact (hf k hk).2.2 i
      · rw [show rl ((List.range len).map f) k = [] by simp [rl, List.getD_eq_getElem?_getD, hk]]
        simp [rn]
theorem open_words {fuel : Nat} {t e q : TypeId} {v : Value} {x : DataW H × List MemPlace} (ht : P.underlying t = some (.slice e)) (he : P.underlying e = some (.slice q)) (hq : P.underlying q = some (.int .u8)) (ce : P.cellsOf e = 1) (cq : P.cellsOf q = 1)
    (h : DataW.trod enc P w base (fun _ => true) held fuel t [v] = some x) : ∃ A c ws, v = .slice A ws.length c ∧ (Kd.slice 5 (Kd.int .u8)).C w A ws.length ws ∧ WBytes ws ∧ ∀ j, (rl ws j).length ≤ 9223372036854775807 := by
  rcases open_int_rows ht he hq ce cq h with ⟨hcs, _⟩ | ⟨a, len, cap, B, L, C, Z, hcs, hb, hl, hm, _, hx⟩
  · obtain rfl : v = .slice none 0 0 := by simpa using hcs
    exact ⟨none, 0, [], rfl, C_none w, fun k i => by simp [rl, rn], fun j => by simp [rl]⟩
  · obtain rfl : v = .slice (some a) len cap := by simpa using hcs
    have hwl : ((List.range len).map fun r => (Z r).take (L r)).length = len := by simp
    have hget : ∀ i, i < len → rl ((List.range len).map fun r => (Z r).take (L r)) i = (Z i).take (L i) := fun i hi => by simp [rl, List.getD_eq_getElem?_getD, hi]
    have hlenr : ∀ i, i < len → ((Z i).take (L i)).length = L i := fun i hi => by
      obtain ⟨_, h1, _, h2, _⟩ := hx i (by omega)
      rw [List.length_take]; omega
    refine ⟨some a, cap, (List.range len).map fun r => (Z r).take (L r), by rw [hwl], ?_, fun i j => ?_, fun j => ?_⟩
    · rw [hwl]
      refine C_of_cells (cs := (List.range len).map fun r => Value.slice (B r) (L r) (C r)) hwl (by unfold maxLen at hm; omega) (fun j u hu => ⟨a, rfl, ?_⟩) fun k hk => ?_
      · have hj : j < len := by
          have := (List.getElem?_eq_some_iff.1 hu).1
          simpa using this
        have : u = .slice (B j) (L j) (C j) := by simpa [hj] using hu.symm
        rw [this]
        exact (hx j (by omega)).1
      · obtain ⟨h0, h1, h2, h3, h4, h5, h6⟩ := hx k (by omega)
        rw [hget k hk]
        refine ⟨B k, C k, by rw [hlenr k hk]; simp [hk], by rw [hlenr k hk]; exact h1, ?_⟩
        rcases hB : B k with _ | a'
        · have hC := h5 hB
          have hz : (Z k).take (L k) = [] := by rw [← List.length_eq_zero_iff, hlenr k hk]; omega
          rw [hz]
          exact C_none w
        · refine C_of_nums (by rw [hlenr k hk]; unfold maxLen at h2; omega) fun j u hu => ⟨a', rfl, ?_⟩
          have hj : j < L k := by
            have := (List.getElem?_eq_some_iff.1 hu).1
            rwa [nums_length, hlenr k hk] at this
          have hjz : j < (Z k).length := by omega
          rw [(h6 a' hB).2 j (by omega)]
          simp [nums, List.getElem?_take, hj, List.getElem?_eq_getElem hjz] at hu
          rw [← hu]
          simp [List.getD_eq_getElem?_getD, List.getElem?_eq_getElem hjz]
    · by_cases hi : i < len
      · rw [hget i hi]
        by_cases hj : j < ((Z i).take (L i)).length
        · have hmem : rn ((Z i).take (L i)) j ∈ Z i := by
            have h1 : rn ((Z i).take (L i)) j = ((Z i).take (L i))[j] := by simp [rn, List.getD_eq_getElem?_getD, List.getElem?_eq_getElem hj]
            rw [h1]
            exact List.mem_of_mem_take (List.getElem_mem hj)
          exact bounds_u8 ((hx i (by omega)).2.2.2.2.1 _ hmem)
        · rw [rn_out (by omega)]; omega
      · rw [show rl ((List.range len).map fun r => (Z r).take (L r)) i = [] by simp [rl, List.getD_eq_getElem?_getD, hi]]
        simp [rn]
    · by_cases hj : j < len
      · rw [hget j hj, hlenr j hj]
        obtain ⟨_, h1, h2, _⟩ := hx j (by omega)
        unfold maxLen at h2
        omega
      · rw [show rl ((List.range len).map fun r => (Z r).take (L r)) j = [] by simp [rl, List.getD_eq_getElem?_getD, hj]]
        simp
end
end Go.Proofs.Ytjadhhnajphibaa
namespace Go.Proofs.Ytjadhhnajphibaa
open Go.RowKit Go.Proofs.YtjadhhnajphibaaW.PrintWords

/-- what SightsOf answers: the sights, and the code. -/
def sotV (fs ws : List (List Int)) (i : Int) : List (List Int) × Int :=
  if okC fs ws then (if inB i 0 ((ws.length : Int) - 1) then (see fs (rl ws i.toNat), 0) else ([], 2)) else ([], 1)
theorem sot_each (fs ws : List (List Int)) (i : Int) : ∀ s ∈ (sotV fs ws i).1, s.length = 6 := by
  unfold sotV
  split
  · split
    · exact see_each _ _
    · intro s hs; simp at hs
  · intro s hs; simp at hs
theorem own_made (w : World) (e : TypeId) (base size g : Nat) (hg : w.heap.size = g) (hb : base ≤ g) : (w.alloc (.cells #[] e)).ownsRow base e size (.slice (some ⟨g, 0, none⟩) 0 0) 0 [] := by
  subst hg
  exact ⟨by simp, .inr ⟨_, 0, #[], rfl, hb, heap_alloc_new _ _, Nat.le_refl _, Nat.zero_le _, by simp, by simp⟩⟩
theorem own_nil (w : World) (e : TypeId) (base size : Nat) : w.ownsRow base e size (.slice none 0 0) 0 [] := ⟨by simp, .inl ⟨rfl, rfl⟩⟩

set_option maxRecDepth 100000 in
set_option maxHeartbeats 4000000 in
theorem SightsOfS_ok (A : Option Addr) (c : Nat) (fs : List (List Int)) (A1 : Option Addr) (c1 : Nat) (ws : List (List Int)) (i : Int) (w : World) (hf : ∀ k i, 0 ≤ rn (rl fs k) i) (hx : WBytes ws)
    (h0 : (Karr 24).C w A fs.length fs) (h1 : (Kd.slice 5 (Kd.int .u8)).C w A1 ws.length ws) :
    Calls Try.prog 26 #[.agg #[.slice A fs.length c, .slice A1 ws.length c1], .int .i64 i] w fun e w' => ∃ v, e = .returned (.tuple #[v, .int .i64 (sotV fs ws i).2]) ∧ w'.ownsRow w.heap.size 72 6 v (sotV fs ws i).1.length (nums .u8 (flat (sotV fs ws i).1)) ∧ Below w.heap.size w w' := by
  have hm1 : ws.length ≤ 9223372036854775807 := h1.2.1
  have hcc := heap_alloc_new w (.cells #[.slice A fs.length c, .slice A1 ws.length c1] 46)
  have hb0 := below_box w (.cells #[.slice A fs.length c, .slice A1 ws.length c1] 46)
  have hsz0 := size_box w (.cells #[.slice A fs.length c, .slice A1 ws.length c1] 46)
  have HC0 := Lib.hid (l05Ok_ok w.heap.size A c fs A1 c1 ws _ hx hcc (C_below' h0 hb0) (C_below' h1 hb0))
  have HCC := Lib.hid hcc
  have HB0 := Lib.hid hb0
  have H0 := Lib.hid (C_below' h0 hb0)
  have H1 := Lib.hid (C_below' h1 hb0)
  have hgood := fun h => okC_good (fs := fs) (ws := ws) h hf hx
  clear hcc hb0 h0 h1 hf hx
  rcases hok : okC fs ws with _ | _
  · have HS := Lib.hid (show sotV fs ws i = ([], 1) by unfold sotV; rw [hok]; rfl)
    rw [hok] at HC0
    clear hok hgood
    go_enter Try.func26, Try.ntmps26
    go_wp2_with (go_at_call 78; refine HC0.out.mono ?_; rintro e w' ⟨rfl, q, rfl⟩)
    go_ret2
    rw [HS.out]
    exact ⟨_, rfl, own_made _ _ _ _ _ hsz0 (by omega), below_alloc (below_dN HB0.out q) _⟩
  · have HG := Lib.hid (hgood hok)
    rcases hin : inB i 0 ((ws.length : Int) - 1) with _ | _
    · have HS := Lib.hid (show sotV fs ws i = ([], 2) by unfold sotV; rw [hok, hin]; rfl)
      rw [hok] at HC0
      have HI := Lib.hid hin
      clear hok hgood hin
      go_enter Try.func26, Try.ntmps26
      go_wp2_with (first | (go_at_call 78; refine HC0.out.mono ?_; rintro e w' ⟨rfl, q, rfl⟩) | (go_at_call 62; refine (l00In_ok _ _ _ _).mono ?_; rintro e w' ⟨rfl, rfl⟩; rw [HI.out]))
      go_ret2
      rw [HS.out]
      exact ⟨_, rfl, own_made _ _ _ _ _ hsz0 (by omega), below_alloc (below_dN HB0.out q) _⟩
    · obtain ⟨k, rfl⟩ : ∃ k : Nat, i = k := ⟨i.toNat, by have := inB_iff.1 hin; omega⟩
      have hk : k < ws.length := by have := inB_iff.1 hin; omega
      have HS := Lib.hid (show sotV fs ws k = (see fs (rl ws k), 0) by unfold sotV; rw [hok, hin]; rfl)
      rw [hok] at HC0
      have HI := Lib.hid hin
      have HSI := Lib.hid (fun (q : Nat) => l05Sights_ok w.heap.size A c fs A1 c1 ws k ((w.alloc (.cells #[.slice A fs.length c, .slice A1 ws.length c1] 46)).drewN q) hk (by have := HG.out.many; omega) (by have := (HG.out.len k hk).2; omega) HG.out.flags (HG.out.words k hk) HCC.out H0.out H1.out)
      clear hok hgood hin
      go_enter Try.func26, Try.ntmps26
      go_wp2_with (first | (go_at_call 78; refine HC0.out.mono ?_; rintro e w' ⟨rfl, q, rfl⟩) | (go_at_call 62; refine (l00In_ok _ _ _ _).mono ?_; rintro e w' ⟨rfl, rfl⟩; rw [HI.out]) | (go_at_call 79; refine (HSI.out _).mono ?_; rintro e w1 ⟨v, rfl, hown, hb1⟩; have HO := Lib.hid hown; have HB1 := Lib.hid hb1; clear hown hb1))
      go_ret2
      rw [HS.out, see_length]
      exact ⟨_, rfl, own_weaken HO.out (show w.heap.size ≤ (w.alloc (.cells #[.slice A fs.length c, .slice A1 ws.length c1] 46)).heap.size by omega), HB0.out.trans ((below_dN (Below.refl _ _) q).trans HB1.out |>.mono (show w.heap.size ≤ (w.alloc (.cells #[.slice A fs.length c, .slice A1 ws.length c1] 46)).heap.size by omega))⟩

set_option maxRecDepth 100000 in
set_option maxHeartbeats 4000000 in
theorem SightsOf_ok (A : Option Addr) (c : Nat) (fs : List (List Int)) (A1 : Option Addr) (c1 : Nat) (ws : List (List Int)) (i : Int) (w : World) (hf : ∀ k i, 0 ≤ rn (rl fs k) i) (hx : WBytes ws)
    (h0 : (Karr 24).C w A fs.length fs) (h1 : (Kd.slice 5 (Kd.int .u8)).C w A1 ws.length ws) :
    Calls Try.prog 27 #[.agg #[.slice A fs.length c, .slice A1 ws.length c1], .int .i64 i] w fun e w' => ∃ v, e = .returned (.tuple #[v, .int .i64 (sotV fs ws i).2]) ∧ w'.ownsRow w.heap.size 72 6 v (sotV fs ws i).1.length (nums .u8 (flat (sotV fs ws i).1)) ∧ Below w.heap.size w w' := by
  have hm1 : ws.length ≤ 9223372036854775807 := h1.2.1
  have hcc := heap_alloc_new w (.cells #[.slice A fs.length c, .slice A1 ws.length c1] 46)
  have hb0 := below_box w (.cells #[.slice A fs.length c, .slice A1 ws.length c1] 46)
  have hsz0 := size_box w (.cells #[.slice A fs.length c, .slice A1 ws.length c1] 46)
  have HC0 := Lib.hid (ValidCode_ok A c fs A1 c1 ws _ hx (C_below' h0 hb0) (C_below' h1 hb0))
  have HCC := Lib.hid hcc
  have HB0 := Lib.hid hb0
  have H0 := Lib.hid (C_below' h0 hb0)
  have H1 := Lib.hid (C_below' h1 hb0)
  have hgood := fun h => okC_good (fs := fs) (ws := ws) h hf hx
  clear hcc hb0 h0 h1 hf hx
  rcases hok : okC fs ws with _ | _
  · have HS := Lib.hid (show sotV fs ws i = ([], 1) by unfold sotV; rw [hok]; rfl)
    rw [hok] at HC0
    clear hok hgood
    go_enter Try.func27, Try.ntmps27
    go_wp2_with (first | (refine load_agg rfl 46 (.tmp 2) rfl ⟨w.heap.size, 0, none⟩ rfl [.slice A fs.length c, .slice A1 ws.length c1] _ (fun j v hv => by rw [add_plain, blk_cell HCC.out j]; simpa using hv) Try.underlying46 rfl ainfo_code ?_) | (go_at_call 42; refine HC0.out.mono ?_; rintro e w' ⟨rfl, hb'⟩))
    go_ret2
    rw [HS.out]
    exact ⟨_, rfl, own_nil _ _ _ _, HB0.out.trans (hb'.mono (by omega))⟩
  · have HG := Lib.hid (hgood hok)
    rcases hin : inB i 0 ((ws.length : Int) - 1) with _ | _
    · have HS := Lib.hid (show sotV fs ws i = ([], 2) by unfold sotV; rw [hok, hin]; rfl)
      rw [hok] at HC0
      have HI := Lib.hid hin
      clear hok hgood hin
      go_enter Try.func27, Try.ntmps27
      go_wp2_with (first | (refine load_agg rfl 46 (.tmp 2) rfl ⟨w.heap.size, 0, none⟩ rfl [.slice A fs.length c, .slice A1 ws.length c1] _ (fun j v hv => by rw [add_plain, blk_cell HCC.out j]; simpa using hv) Try.underlying46 rfl ainfo_code ?_) | (go_at_call 42; refine HC0.out.mono ?_; rintro e w1 ⟨rfl, hb1⟩; have x1 := (blk_cell ((hb1.block w.heap.size (by omega)).trans HCC.out) 1).trans (show _ = some (.slice A1 ws.length c1) from rfl); have HB1 := Lib.hid hb1; clear hb1) | (go_at_call 57; refine (sizeW_ok _ _ _ _ hm1).mono ?_; rintro e w' ⟨rfl, rfl⟩) | (go_at_call 54; refine (within_ok _ _ _ _).mono ?_; rintro e w' ⟨rfl, rfl⟩; rw [HI.out]))
      go_ret2
      rw [HS.out]
      exact ⟨_, rfl, own_nil _ _ _ _, HB0.out.trans (HB1.out.mono (by omega))⟩
    · obtain ⟨k, rfl⟩ : ∃ k : Nat, i = k := ⟨i.toNat, by have := inB_iff.1 hin; omega⟩
      have hk : k < ws.length := by have := inB_iff.1 hin; omega
      have hki : (k : Int) < (ws.length : Int) := by omega
      have HS := Lib.hid (show sotV fs ws k = (see fs (rl ws k), 0) by unfold sotV; rw [hok, hin]; rfl)
      rw [hok] at HC0
      have HI := Lib.hid hin
      clear hok hgood hin
      go_enter Try.func27, Try.ntmps27
      go_wp2_with (first | (refine load_agg rfl 46 (.tmp 2) rfl ⟨w.heap.size, 0, none⟩ rfl [.slice A fs.length c, .slice A1 ws.length c1] _ (fun j v hv => by rw [add_plain, blk_cell HCC.out j]; simpa using hv) Try.underlying46 rfl ainfo_code ?_) | (go_at_call 42; refine HC0.out.mono ?_; rintro e w1 ⟨rfl, hb1⟩; have x1 := (blk_cell ((hb1.block w.heap.size (by omega)).trans HCC.out) 1).trans (show _ = some (.slice A1 ws.length c1) from rfl); have HB1 := Lib.hid hb1; clear hb1) | (go_at_call 57; refine (sizeW_ok _ _ _ _ hm1).mono ?_; rintro e w' ⟨rfl, rfl⟩) | (go_at_call 54; refine (within_ok _ _ _ _).mono ?_; rintro e w' ⟨rfl, rfl⟩; rw [HI.out]))
      obtain ⟨ad1, A3, c3, rfl, hx3, hl3, hr3⟩ := at_row (C_below' H1.out HB1.out) hk
      have hb1 := HB1.out
      have hlt1 : w.heap.size < w1.heap.size := by have := hb1.size; omega
      have x0 := (blk_cell ((hb1.block w.heap.size (by omega)).trans HCC.out) 0).trans (show _ = some (.slice A fs.length c) from rfl)
      have hdr : Below w1.heap.size w1 w1.drew := ⟨rfl, rfl, rfl, Nat.le_refl _, fun _ _ => rfl⟩
      have HSI := Lib.hid (fun W (h : Below w1.heap.size w1 W) => sights_ok A c fs (.slice (some ad1) ws.length c1) A3 c3 (rl ws k) W (by have := (HG.out.len k hk).2; omega) HG.out.flags (HG.out.words k hk) (C_below' (C_below' H0.out HB1.out) h) (C_below' hr3 h))
      have HK := Lib.hid (fun W (h : Below w1.heap.size w1 W) => And.intro ((h.cell (cell_lt x0)).trans x0) (And.intro ((h.cell (cell_lt x1)).trans x1) ((h.cell (cell_lt hx3)).trans hx3)))
      clear hr3 hb1
      go_region_held3 (fun w' => w'.cell? ⟨w.heap.size, 0, none⟩ = some (.slice A fs.length c) ∧ w'.cell? ⟨w.heap.size, 1, none⟩ = some (.slice (some ad1) ws.length c1) ∧ w'.cell? (ad1.add k) = some (.slice A3 (rl ws k).length c3))
        ((first | exact HK.out _ hdr | exact HK.out _ hq1))
        ((go_at_call 83; refine (HSI.out _ hdr).mono ?_; rintro e w2 ⟨v2, rfl, hown, hb2⟩; have hq1 := hdr.trans (hb2.mono hdr.size)))
      go_wp2
      go_ret2
      rw [HS.out, see_length]
      exact ⟨_, rfl, own_weaken hown (by have := hdr.size; omega), HB0.out.trans ((HB1.out.trans (hq1.mono HB1.out.size)).mono (by omega))⟩
end Go.Proofs.Ytjadhhnajphibaa
namespace Go.Proofs.Ytjadhhnajphibaa
open Go.RowKit Go.Proofs.YtjadhhnajphibaaW.PrintWords

section
variable {w w1 : World} {base : Nat} {e : TypeId} {size n : Nat} {v : Value}
theorem own_NF {kd : IntKind} {ys : List Int} (h : w.ownsRow base e size v n (nums kd ys)) (hb : base ≤ w.heap.size) :
    ∃ A c g, v = .slice A n c ∧ n ≤ c ∧ base ≤ g ∧ (0 < n → A = some ⟨g, 0, none⟩ ∧ NF kd w g e (n * size) (rn ys)) := by
  rcases h.2 with ⟨rfl, rfl⟩ | ⟨g, cap, cur, rfl, h1, h2, h3, h4, h5, h6⟩
  · exact ⟨none, 0, _, rfl, Nat.le_refl _, hb, fun h => absurd h (by omega)⟩
  · refine ⟨_, cap, g, rfl, h3, h1, fun _ => ⟨rfl, cur, h2, fun i hi => ?_⟩⟩
    have hl := h.1
    rw [nums_length] at hl
    have hiy : i < ys.length := by omega
    have h7 := congrArg (fun l : List Value => l[i]?) h6
    simp only [nums, List.getElem?_take, if_pos hi, List.getElem?_map, List.getElem?_eq_getElem hiy, Option.map_some, Array.getElem?_toList] at h7
    rw [h7]
    simp [rn, List.getD_eq_getElem?_getD, List.getElem?_eq_getElem hiy]
theorem own_lt {xs : List Value} (h : w.ownsRow base e size v n xs) : ∀ k, v.ownBlock = some k → k < w.heap.size := by
  intro k hk
  rcases h.2 with ⟨rfl, _⟩ | ⟨g, cap, cur, rfl, h1, h2, _⟩
  · cases hk
  · injection hk with hk
    subst hk
    exact blk_lt h2
theorem own_mid {lo hi : Nat} {xs : List Value} (h : w.ownsRow base e size v n xs) (hm : Mid lo hi w w1) (hne : ∀ k, v.ownBlock = some k → k < lo ∨ hi ≤ k) : w1.ownsRow base e size v n xs := by
  refine ⟨h.1, ?_⟩
  rcases h.2 with h1 | ⟨g, cap, cur, rfl, h1, h2, h3⟩
  · exact .inl h1
  · exact .inr ⟨g, cap, cur, rfl, h1, (hm.block g (blk_lt h2) (hne g rfl)).trans h2, h3⟩
theorem own_len {xs : List Value} (h : w.ownsRow base e size v n xs) : n ≤ 9223372036854775807 := by
  rcases h.2 with ⟨_, h1⟩ | ⟨g', cap', cur, he, _, _, h1, h2, _⟩
  · omega
  · simp only [maxLen] at h2
    omega
theorem own_NF_at {kd : IntKind} {ys : List Int} {A : Option Addr} {c g : Nat} (h : w.ownsRow base e size (.slice A n c) n (nums kd ys)) (hb : base ≤ w.heap.size) (h0 : 0 < n → A = some ⟨g, 0, none⟩) : 0 < n → A = some ⟨g, 0, none⟩ ∧ NF kd w g e (n * size) (rn ys) := by
  intro hn
  obtain ⟨A', c', g', hv, -, -, h1⟩ := own_NF h hb
  injection hv with h2 h3 h4
  subst h2
  obtain ⟨h5, h6⟩ := h1 hn
  have h7 := h0 hn
  rw [h5] at h7
  injection h7 with h7
  injection h7 with h7
  subst h7
  exact ⟨h5, h6⟩
end
theorem own_arrs {N : Nat} {w : World} {base : Nat} {e : TypeId} {n c : Nat} {A : Option Addr} {ss : List (List Int)} (hN : 0 < N) (h : w.ownsRow base e N (.slice A n c) n (nums .u8 (flat ss))) (hn : ss.length = n) (hl : ∀ s ∈ ss, s.length = N) : (Karr N).C w A n ss := by
  subst hn
  have hm := own_len h
  obtain ⟨A', c', hv, hc, hcells⟩ := own_cells h
  injection hv with h1 h2 h3
  subst h1
  exact arrs_of_cells hcells hl hN hm
theorem own_ints {w : World} {base : Nat} {e : TypeId} {kd : IntKind} {n c : Nat} {A : Option Addr} {xs : List Int} (h : w.ownsRow base e 1 (.slice A n c) n (nums kd xs)) (hn : xs.length = n) : (Kd.int kd).C w A n xs := by
  subst hn
  obtain ⟨_, A', c', hv, hc, hC⟩ := own_C h
  injection hv with h1 h2 h3
  subst h1
  exact hC
theorem MC.blocks {w : World} {B gs gw : Nat} {bk : Nat → Nat} {fs ws : List (List Int)} (h : MC w B gs gw bk fs ws) : gs < w.heap.size ∧ ∀ j, j < ws.length → bk j < w.heap.size := ⟨h.set.lt, fun j hj => (h.words.each j hj hj).2.1⟩
theorem sot_len {fs ws : List (List Int)} {i : Int} (hf : ∀ k i, 0 ≤ rn (rl fs k) i) (hx : WBytes ws) : (sotV fs ws i).1.length ≤ 8 := by
  unfold sotV
  split
  · rename_i h
    split
    · rename_i hin
      have h1 := inB_iff.1 hin
      simp only [see_length]
      exact ((okC_good h hf hx).len _ (by omega)).2
    · simp
  · simp
end Go.Proofs.Ytjadhhnajphibaa
namespace Go.Proofs.Ytjadhhnajphibaa

/-- the indices below k whose distance is at most a number. -/
def candTo (D : Nat → Nat) (wrong : Int) : Nat → List Int
  | 0 => []
  | k + 1 => if (D k : Int) ≤ wrong then candTo D wrong k ++ [(k : Int)] else candTo D wrong k
theorem candTo_yes {D : Nat → Nat} {wrong : Int} {k : Nat} (h : (D k : Int) ≤ wrong) : candTo D wrong (k + 1) = candTo D wrong k ++ [(k : Int)] := by rw [candTo, if_pos h]
theorem candTo_no {D : Nat → Nat} {wrong : Int} {k : Nat} (h : ¬ (D k : Int) ≤ wrong) : candTo D wrong (k + 1) = candTo D wrong k := by rw [candTo, if_neg h]
theorem candTo_len (D : Nat → Nat) (wrong : Int) (k : Nat) : (candTo D wrong k).length ≤ k := by
  induction k with
  | zero => simp [candTo]
  | succ k ih =>
    by_cases h : (D k : Int) ≤ wrong
    · rw [candTo_yes h]; simp; omega
    · rw [candTo_no h]; omega
theorem candTo_mem {D : Nat → Nat} {wrong : Int} {n : Nat} {x : Int} : x ∈ candTo D wrong n ↔ ∃ i : Nat, x = i ∧ i < n ∧ (D i : Int) ≤ wrong := by
  induction n with
  | zero => simp [candTo]
  | succ n ih =>
    by_cases h : (D n : Int) ≤ wrong
    · rw [candTo_yes h, List.mem_append, ih, List.mem_singleton]
      constructor
      · rintro (⟨i, h1, h2, h3⟩ | rfl)
        · exact ⟨i, h1, by omega, h3⟩
        · exact ⟨n, rfl, by omega, h⟩
      · rintro ⟨i, rfl, h2, h3⟩
        by_cases e : i = n
        · subst e; exact .inr rfl
        · exact .inl ⟨i, rfl, by omega, h3⟩
    · rw [candTo_no h, ih]
      constructor
      · rintro ⟨i, h1, h2, h3⟩; exact ⟨i, h1, by omega, h3⟩
      · rintro ⟨i, rfl, h2, h3⟩
        refine ⟨i, rfl, ?_, h3⟩
        by_cases e : i = n
        · subst e; exact absurd h3 h
        · omega
/-- the first of the nearest, how far, how many. -/
structure Rs where
  b : Int
  l : Int
  c : Int
def rsStep (D : Nat → Nat) (i : Nat) (s : Rs) : Rs := if s.l < 0 ∨ (D i : Int) < s.l then ⟨i, D i, 1⟩ else if (D i : Int) = s.l then ⟨s.b, s.l, s.c + 1⟩ else s
def rsTo (D : Nat → Nat) : Nat → Rs
  | 0 => ⟨0, -1, 0⟩
  | n + 1 => rsStep D n (rsTo D n)
def rsOut (s : Rs) : Int × Int × Int := if 1 < s.c then (0, 0, 8) else (s.b, s.l, 0)
theorem rsTo_yes {D : Nat → Nat} {k : Nat} {b l c : Int} (h : (⟨b, l, c⟩ : Rs) = rsTo D k) (h1 : l < 0 ∨ (D k : Int) < l) : rsTo D (k + 1) = ⟨k, D k, 1⟩ := by
  rw [rsTo, ← h, rsStep, if_pos h1]
theorem rsTo_same {D : Nat → Nat} {k : Nat} {b l c : Int} (h : (⟨b, l, c⟩ : Rs) = rsTo D k) (h1 : ¬ (l < 0 ∨ (D k : Int) < l)) (h2 : (D k : Int) = l) : rsTo D (k + 1) = ⟨b, l, c + 1⟩ := by
  rw [rsTo, ← h, rsStep, if_neg h1, if_pos h2]
theorem rsTo_no {D : Nat → Nat} {k : Nat} {b l c : Int} (h : (⟨b, l, c⟩ : Rs) = rsTo D k) (h1 : ¬ (l < 0 ∨ (D k : Int) < l)) (h2 : ¬ (D k : Int) = l) : rsTo D (k + 1) = ⟨b, l, c⟩ := by
  rw [rsTo, ← h, rsStep, if_neg h1, if_neg h2]
theorem rs_cand (D : Nat → Nat) : ∀ n : Nat, 1 ≤ n → 0 ≤ (rsTo D n).l ∧ (∃ i, i < n ∧ (rsTo D n).l = D i) ∧ (∀ wrong, wrong < (rsTo D n).l → candTo D wrong n = []) ∧ ∃ tl, candTo D (rsTo D n).l n = (rsTo D n).b :: tl ∧ (tl.length : Int) + 1 = (rsTo D n).c
  | 0, h => absurd h (by omega)
  | n + 1, _ => by
    rcases Nat.eq_zero_or_pos n with e | hn
    · subst e
      have h1 : rsTo D (0 + 1) = ⟨(0 : Nat), D 0, 1⟩ := rsTo_yes (D := D) (k := 0) rfl (.inl (by decide))
      rw [h1]
      refine ⟨by simp, ⟨0, by omega, rfl⟩, fun wrong hw => candTo_no (by simp only at hw; omega), [], ?_, rfl⟩
      rw [candTo_yes (by simp)]
      rfl
    · obtain ⟨h1, h2, h3, tl, h4, h5⟩ := rs_cand D n hn
      rcases hs : rsTo D n with ⟨b, l, c⟩
      rw [hs] at h1 h2 h3 h4 h5
      simp only at h1 h2 h3 h4 h5
      by_cases hb : l < 0 ∨ (D n : Int) < l
      · rw [rsTo_yes hs.symm hb]
        refine ⟨by simp, ⟨n, by omega, rfl⟩, fun wrong hw => ?_, [], ?_, rfl⟩
        · simp only at hw
          rw [candTo_no (by omega)]
          exact h3 wrong (by omega)
        · simp only
          rw [candTo_yes (by omega), h3 _ (by omega)]
          rfl
      · by_cases he : (D n : Int) = l
        · rw [rsTo_same hs.symm hb he]
          refine ⟨h1, ?_, fun wrong hw => ?_, tl ++ [(n : Int)], ?_, ?_⟩
          · obtain ⟨i, h6, h7⟩ := h2; exact ⟨i, by omega, h7⟩
          · simp only at hw
            rw [candTo_no (by omega)]
            exact h3 wrong hw
          · simp only
            rw [candTo_yes (by omega), h4]
            rfl
          · simp only [List.length_append, List.length_singleton]
            push_cast
            omega
        · rw [rsTo_no hs.symm hb he]
          refine ⟨h1, ?_, fun wrong hw => ?_, tl, ?_, h5⟩
          · obtain ⟨i, h6, h7⟩ := h2; exact ⟨i, by omega, h7⟩
          · simp only at hw
            rw [candTo_no (by omega)]
            exact h3 wrong hw
          · simp only
            rw [candTo_no (by omega), h4]
theorem rs_least (D : Nat → Nat) : ∀ n i : Nat, i < n → (rsTo D n).l ≤ D i := by
  intro n i hi
  rcases (show (D i : Int) < (rsTo D n).l ∨ (rsTo D n).l ≤ D i by omega) with h | h
  · have h1 := (rs_cand D n (by omega)).2.2.1 _ h
    have h2 : (i : Int) ∈ candTo D (D i) n := candTo_mem.2 ⟨i, rfl, hi, Int.le_refl _⟩
    rw [h1] at h2
    cases h2
  · exact h
theorem rs_count (D : Nat → Nat) (n : Nat) : 0 ≤ (rsTo D n).c ∧ (rsTo D n).c ≤ n := by
  induction n with
  | zero => simp [rsTo]
  | succ n ih =>
    rcases hs : rsTo D n with ⟨b, l, c⟩
    rw [hs] at ih
    simp only at ih
    by_cases hb : l < 0 ∨ (D n : Int) < l
    · rw [rsTo_yes hs.symm hb]; simp only; omega
    · by_cases he : (D n : Int) = l
      · rw [rsTo_same hs.symm hb he]; simp only; omega
      · rw [rsTo_no hs.symm hb he]; simp only; omega
def dSee (fs ws ss : List (List Int)) (i : Nat) : Nat := farS (see fs (rl ws i)) ss
theorem dSee_le {fs ws ss : List (List Int)} (hg : Good fs ws) {i : Nat} (hi : i < ws.length) : dSee fs ws ss i ≤ 48 := by
  have h1 := farS_le (b := ss) (see_each fs (rl ws i))
  have h2 := (hg.len i hi).2
  rw [see_length] at h1
  unfold dSee
  omega
def rsV (fs ws ss : List (List Int)) : Int × Int × Int :=
  if okC fs ws then (if okS ss then (if ws.length = 0 then (0, 0, 6) else if ss.length = (rl ws 0).length then rsOut (rsTo (dSee fs ws ss) ws.length) else (0, 0, 2)) else (0, 0, 1)) else (0, 0, 1)
def candV (fs ws ss : List (List Int)) (wrong : Int) : List Int × Int :=
  if okC fs ws then (if okS ss then (if inB wrong 0 48 && (decide (ws.length = 0) || decide (ss.length = (rl ws 0).length)) then (candTo (dSee fs ws ss) wrong ws.length, 0) else ([], 2)) else ([], 1)) else ([], 1)
def tup3 (r : Int × Int × Int) : Ending := .returned (.tuple #[.int .i64 r.1, .int .i64 r.2.1, .int .i64 r.2.2])
theorem uinfo_i64 : (Try.prog.info? 2).map (fun i => (i.zero, i.size, i.bytes)) = some (some (.int .i64 0), 1, 8) := by kernel_rfl
end Go.Proofs.Ytjadhhnajphibaa
