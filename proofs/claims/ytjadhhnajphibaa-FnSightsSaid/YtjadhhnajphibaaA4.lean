/- Codes: sizes and copies. -/
import Derived.Test.YtjadhhnajphibaaA3
set_option linter.unusedVariables false
set_option linter.unusedSimpArgs false
namespace Go.Proofs.Ytjadhhnajphibaa
open Go.RowKit Go.Proofs.YtjadhhnajphibaaW.PrintWords

def szCV (left : Int) (fs ws : List (List Int)) : Int := if szV left fs.length < 0 then -1 else if szWV (szV left fs.length) ws < 0 then -1 else szWV (szV left fs.length) ws
theorem szWV_le {left : Int} {ws : List (List Int)} (hl : 0 ≤ left) : szWV left ws ≤ left ∧ -1 ≤ szWV left ws := by
  unfold szWV
  split
  · omega
  · have := szTo_le (left := left - ws.length) (ws := ws) (k := ws.length) (by omega)
    omega

set_option maxHeartbeats 2000000 in
theorem szCode_ok (A : Option Addr) (c : Nat) (fs : List (List Int)) (A1 : Option Addr) (c1 : Nat) (ws : List (List Int)) (left : Int) (w : World) (hf : fs.length ≤ 9223372036854775807) (hn : ws.length ≤ 9223372036854775807) (hw : ∀ j, (rl ws j).length ≤ 9223372036854775807) (hl : 0 ≤ left) (hl' : left ≤ 1048576)
    (h0 : (Kd.slice 5 (Kd.int .u8)).C w A1 ws.length ws) :
    Calls Try.prog 21 #[.agg #[.slice A fs.length c, .slice A1 ws.length c1], .int .i64 left] w fun e w' => e = .returned (.int .i64 (szCV left fs ws)) ∧ Below w.heap.size w w' := by
  have HC := Lib.hid (C_below' h0 (below_box w (.cells #[.slice A fs.length c, .slice A1 ws.length c1] 40)))
  have HW := Lib.hid hw
  have HV : Hid (szCV left fs ws = if szV left fs.length < 0 then -1 else if szWV (szV left fs.length) ws < 0 then -1 else szWV (szV left fs.length) ws) := rfl
  have hv := szV_le (left := left) (n := fs.length) (by omega) hl
  have HL := Lib.hid (szFlagS_ok A c fs.length left (w.alloc (.cells #[.slice A fs.length c, .slice A1 ws.length c1] 40)) hf hl hl')
  clear h0 hw
  generalize szV left fs.length = l1 at *
  obtain ⟨hv1, hv2⟩ := hv
  by_cases h1 : l1 < 0
  · have HS := Lib.hid (show szCV left fs ws = -1 by rw [HV.out, if_pos h1])
    go_enter Try.func21, Try.ntmps21
    go_wp2_with fail
    refine HL.out.mono ?_
    rintro e w' ⟨rfl, rfl⟩
    go_wp2_with fail
    go_ret
    exact ⟨ret_int HS.out.symm, below_box _ _⟩
  · have HS := Lib.hid (show szCV left fs ws = if szWV l1 ws < 0 then -1 else szWV l1 ws by rw [HV.out, if_neg h1])
    have HL2 := Lib.hid (szWordS_ok A1 c1 ws l1 (w.alloc (.cells #[.slice A fs.length c, .slice A1 ws.length c1] 40)) hn HW.out (by omega) (by omega) HC.out)
    generalize szWV l1 ws = l2 at *
    by_cases h2 : l2 < 0
    · have HS2 := Lib.hid (show szCV left fs ws = -1 by rw [HS.out, if_pos h2])
      go_enter Try.func21, Try.ntmps21
      go_wp2_with fail
      refine HL.out.mono ?_
      rintro e w' ⟨rfl, rfl⟩
      go_wp2_with fail
      refine HL2.out.mono ?_
      rintro e w' ⟨rfl, rfl⟩
      go_wp2_with fail
      go_ret
      exact ⟨ret_int HS2.out.symm, below_box _ _⟩
    · have HS2 := Lib.hid (show szCV left fs ws = l2 by rw [HS.out, if_neg h2])
      go_enter Try.func21, Try.ntmps21
      go_wp2_with fail
      refine HL.out.mono ?_
      rintro e w' ⟨rfl, rfl⟩
      go_wp2_with fail
      refine HL2.out.mono ?_
      rintro e w' ⟨rfl, rfl⟩
      go_wp2_with fail
      go_ret
      exact ⟨ret_int HS2.out.symm, below_box _ _⟩

/-- a code that has been made from B on. -/
structure MC (w : World) (B gs gw : Nat) (bk : Nat → Nat) (fs ws : List (List Int)) : Prop where
  set : NB .u8 w gs 78 (flat fs)
  base : B ≤ gs
  len : ∀ f ∈ fs, f.length = 24
  words : MW w B gw bk ws ws.length
theorem MC.below {w w1 : World} {B gs gw : Nat} {bk : Nat → Nat} {fs ws : List (List Int)} (h : MC w B gs gw bk fs ws) (hb : Below w.heap.size w w1) : MC w1 B gs gw bk fs ws :=
  ⟨h.set.below hb, h.base, h.len, h.words.below hb⟩
/-- the value of a code that has been made. -/
def cv (gs gw : Nat) (fs ws : List (List Int)) : Value := .agg #[hd gs fs.length, hd gw ws.length]

set_option maxRecDepth 100000 in
set_option maxHeartbeats 2000000 in
theorem toCode_ok (A : Option Addr) (c : Nat) (fs : List (List Int)) (A1 : Option Addr) (c1 : Nat) (ws : List (List Int)) (w : World) (hf : fs.length ≤ 1048576) (hn : ws.length ≤ 1048576) (hl : ∀ j, (rl ws j).length ≤ 1048576)
    (h0 : (Karr 24).C w A fs.length fs) (h1 : (Kd.slice 5 (Kd.int .u8)).C w A1 ws.length ws) :
    Calls Try.prog 23 #[.agg #[.slice A fs.length c, .slice A1 ws.length c1]] w fun e w' => ∃ gs gw bk, e = .returned (cv gs gw fs ws) ∧ MC w' w.heap.size gs gw bk fs ws ∧ Below w.heap.size w w' := by
  have H0 := Lib.hid h0
  have H1 := Lib.hid h1
  have HL := Lib.hid hl
  clear h0 h1 hl
  go_enter Try.func23, Try.ntmps23
  go_wp2_with fail
  have hsz : ((((w.alloc (.cells #[.slice A fs.length c, .slice A1 ws.length c1] 40)).alloc (.cells #[.slice none 0 0, .slice none 0 0] 46)).alloc (.cells #[.slice none 0 0, .slice none 0 0] 46))).heap.size = w.heap.size + 3 := by rw [size_box, size_box, size_box]
  have hb0 : ((((w.alloc (.cells #[.slice A fs.length c, .slice A1 ws.length c1] 40)).alloc (.cells #[.slice none 0 0, .slice none 0 0] 46)).alloc (.cells #[.slice none 0 0, .slice none 0 0] 46))).heap[w.heap.size]? = some (.cells #[.slice A fs.length c, .slice A1 ws.length c1] 40 (0, 0)) := blk_alloc (blk_alloc (heap_alloc_new w _) _) _
  have hb1 : ((((w.alloc (.cells #[.slice A fs.length c, .slice A1 ws.length c1] 40)).alloc (.cells #[.slice none 0 0, .slice none 0 0] 46)).alloc (.cells #[.slice none 0 0, .slice none 0 0] 46))).heap[w.heap.size + 1]? = some (.cells #[.slice none 0 0, .slice none 0 0] 46 (0, 0)) := by
    have := blk_alloc (heap_alloc_new (w.alloc (.cells #[.slice A fs.length c, .slice A1 ws.length c1] 40)) (.cells #[.slice none 0 0, .slice none 0 0] 46)) (.cells #[.slice none 0 0, .slice none 0 0] 46)
    rwa [size_box] at this
  have hb2 : ((((w.alloc (.cells #[.slice A fs.length c, .slice A1 ws.length c1] 40)).alloc (.cells #[.slice none 0 0, .slice none 0 0] 46)).alloc (.cells #[.slice none 0 0, .slice none 0 0] 46))).heap[w.heap.size + 1 + 1]? = some (.cells #[.slice none 0 0, .slice none 0 0] 46 (0, 0)) := by
    have := heap_alloc_new ((w.alloc (.cells #[.slice A fs.length c, .slice A1 ws.length c1] 40)).alloc (.cells #[.slice none 0 0, .slice none 0 0] 46)) (.cells #[.slice none 0 0, .slice none 0 0] 46)
    rwa [size_box, size_box] at this
  have hbel : Below w.heap.size w ((((w.alloc (.cells #[.slice A fs.length c, .slice A1 ws.length c1] 40)).alloc (.cells #[.slice none 0 0, .slice none 0 0] 46)).alloc (.cells #[.slice none 0 0, .slice none 0 0] 46))) := below_alloc (below_alloc (below_box _ _) _) _
  generalize ((((w.alloc (.cells #[.slice A fs.length c, .slice A1 ws.length c1] 40)).alloc (.cells #[.slice none 0 0, .slice none 0 0] 46)).alloc (.cells #[.slice none 0 0, .slice none 0 0] 46))) = W0 at *
  refine (toFlagS_ok A c fs W0 hf (C_below' H0.out hbel)).mono ?_
  rintro e w1 ⟨gs, rfl, hg1, hg2, hnb, hlen, hbw1⟩
  have HLEN := Lib.hid hlen
  have HNB := Lib.hid hnb
  have HS1 := Lib.hid (show w.heap.size + 3 ≤ gs by omega)
  have c10 := (hbw1.block w.heap.size (by omega)).trans hb0
  have c11 := Lib.hid ((hbw1.block (w.heap.size + 1) (by omega)).trans hb1)
  have c12 := (hbw1.block (w.heap.size + 1 + 1) (by omega)).trans hb2
  have HB1 := Lib.hid (hbel.trans (hbw1.mono hbel.size))
  have hw1sz : w.heap.size + 3 ≤ w1.heap.size := by have := hbw1.size; omega
  clear hb0 hb1 hb2 hsz hg1 hlen hnb
  have x0 := (blk_cell c10 1).trans (show _ = some (.slice A1 ws.length c1) from rfl)
  have x1 := (blk_cell c12 0).trans (show _ = some (.slice none 0 0) from rfl)
  have x2 := blk_frozen c12 0
  have C10 := Lib.hid c10
  have C12 := Lib.hid c12
  clear c10 c12
  go_wp2_with fail
  have hb2 := blk_set C12.out 0 (hd gs fs.length)
  have hbw2 : Below w.heap.size w (w1.setCell ⟨w.heap.size + 1 + 1, 0, none⟩ (hd gs fs.length)) := set_below HB1.out (by simp; omega) _
  have hnb2 := HNB.out.far (p := ⟨w.heap.size + 1 + 1, 0, none⟩) (by have := HS1.out; simp; omega) (hd gs fs.length)
  have c21 := Lib.hid (blk_far c11.out (p := ⟨w.heap.size + 1 + 1, 0, none⟩) (by simp) (hd gs fs.length))
  have hsz2 : (w1.setCell ⟨w.heap.size + 1 + 1, 0, none⟩ (hd gs fs.length)).heap.size = w1.heap.size := by simp [World.setCell]
  clear x1 x2 C12 HB1
  generalize w1.setCell ⟨w.heap.size + 1 + 1, 0, none⟩ (hd gs fs.length) = w2 at *
  refine (toWordS_ok A1 c1 ws w2 hn HL.out (C_below' H1.out hbw2)).mono ?_
  rintro e w3 ⟨gw, bk, rfl, hmw, hb3⟩
  have hd1 := (hb3.block (w.heap.size + 1 + 1) (by omega)).trans hb2
  have c31 := Lib.hid ((hb3.block (w.heap.size + 1) (by omega)).trans c21.out)
  have HB3 := Lib.hid (hbw2.trans (hb3.mono hbw2.size))
  have HN3 := Lib.hid (hnb2.below hb3)
  have HMW := Lib.hid hmw
  have hsz3 := hb3.size
  have y1 := (blk_cell hd1 1).trans (show _ = some (.slice none 0 0) from rfl)
  have y2 := blk_frozen hd1 1
  have HD1 := Lib.hid hd1
  clear hb2 hbw2 hnb2 hmw hb3 c21 c11 hd1
  have hz4 := blk_set HD1.out 1 (hd gw ws.length)
  have hz4' : (w3.setCell ⟨w.heap.size + 1 + 1, 1, none⟩ (hd gw ws.length)).heap[w.heap.size + 1 + 1]? = some (.cells #[hd gs fs.length, hd gw ws.length] 46 (0, 0)) := by rw [hz4]; rfl
  have HZ4 := Lib.hid hz4'
  have hc41 := blk_far c31.out (p := ⟨w.heap.size + 1 + 1, 1, none⟩) (by simp) (hd gw ws.length)
  have HC41 := Lib.hid hc41
  clear hz4 hz4' hc41
  have hi2 : (Try.prog.info? 46).map (·.size) = some 2 := by kernel_rfl
  have d0 := (blk_cell c31.out 0).trans (show _ = some (.slice none 0 0) from rfl)
  have d1 := (blk_cell c31.out 1).trans (show _ = some (.slice none 0 0) from rfl)
  have d2 := blk_frozen c31.out 0
  have d3 := blk_frozen c31.out 1
  go_wp2_with (refine load_agg rfl 46 (.tmp 3) rfl ⟨w.heap.size + 1 + 1, 0, none⟩ rfl [hd gs fs.length, hd gw ws.length] _ (fun j v hv => by rw [add_plain, blk_cell HZ4.out j]; simpa using hv) Try.underlying46 rfl hi2 ?_)
  have hfin := blk_set (blk_set HC41.out 0 (hd gs fs.length)) 1 (hd gw ws.length)
  have hgs := HS1.out
  have hmwb := HMW.out.lower (B' := w.heap.size + 3) (by omega)
  refine bodyPost_ret (results_cell_row rfl _ _ (w.heap.size + 1) 46 #[hd gs fs.length, hd gw ws.length] (0, 0) _ rfl hfin Try.underlying46 rfl hi2) rfl ⟨gs, gw, bk, rfl, ⟨?_, by omega, HLEN.out, ?_⟩, ?_⟩
  · exact ((HN3.out.far (by simp <;> omega) _).far (by simp <;> omega) _).far (by simp <;> omega) _
  · exact (((hmwb.far (by simp <;> omega) _).far (by simp <;> omega) _).far (by simp <;> omega) _).lower (by omega)
  · exact set_below (set_below (set_below HB3.out (by simp <;> omega) _) (by simp <;> omega) _) (by simp <;> omega) _
end Go.Proofs.Ytjadhhnajphibaa
