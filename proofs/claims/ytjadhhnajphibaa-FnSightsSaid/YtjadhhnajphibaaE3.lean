/- Codes that are compared. -/
import Derived.Test.YtjadhhnajphibaaE2
set_option linter.unusedVariables false
set_option linter.unusedSimpArgs false
namespace Go.Proofs.Ytjadhhnajphibaa
open Go.RowKit Go.Proofs.YtjadhhnajphibaaW.PrintWords

set_option maxHeartbeats 4000000 in
theorem eqCode_ok (A0 : Option Addr) (c0 : Nat) (fs : List (List Int)) (A1 : Option Addr) (c1 : Nat) (ws : List (List Int)) (A2 : Option Addr) (c2 : Nat) (gs : List (List Int)) (A3 : Option Addr) (c3 : Nat) (xs : List (List Int)) (w : World)
    (h0 : (Karr 24).C w A0 fs.length fs) (h1 : (Kd.slice 5 (Kd.int .u8)).C w A1 ws.length ws) (h2 : (Karr 24).C w A2 gs.length gs) (h3 : (Kd.slice 5 (Kd.int .u8)).C w A3 xs.length xs) :
    Calls Try.prog 25 #[.agg #[.slice A0 fs.length c0, .slice A1 ws.length c1], .agg #[.slice A2 gs.length c2, .slice A3 xs.length c3]] w fun e w' => e = .returned (.bool (eqWB fs gs && eqWB ws xs)) ∧ Below w.heap.size w w' := by
  have hb1 : Below w.heap.size w ((w.alloc (.cells #[.slice A0 fs.length c0, .slice A1 ws.length c1] 46)).alloc (.cells #[.slice A2 gs.length c2, .slice A3 xs.length c3] 46)) := below_alloc (below_box _ _) _
  have k0 : ((w.alloc (.cells #[.slice A0 fs.length c0, .slice A1 ws.length c1] 46)).alloc (.cells #[.slice A2 gs.length c2, .slice A3 xs.length c3] 46)).heap[w.heap.size]? = some (.cells #[.slice A0 fs.length c0, .slice A1 ws.length c1] 46 (0, 0)) := blk_alloc (heap_alloc_new w _) _
  have k1 : ((w.alloc (.cells #[.slice A0 fs.length c0, .slice A1 ws.length c1] 46)).alloc (.cells #[.slice A2 gs.length c2, .slice A3 xs.length c3] 46)).heap[w.heap.size + 1]? = some (.cells #[.slice A2 gs.length c2, .slice A3 xs.length c3] 46 (0, 0)) := by
    have := heap_alloc_new (w.alloc (.cells #[.slice A0 fs.length c0, .slice A1 ws.length c1] 46)) (.cells #[.slice A2 gs.length c2, .slice A3 xs.length c3] 46)
    rwa [size_box] at this
  have hsz : ((w.alloc (.cells #[.slice A0 fs.length c0, .slice A1 ws.length c1] 46)).alloc (.cells #[.slice A2 gs.length c2, .slice A3 xs.length c3] 46)).heap.size = w.heap.size + 2 := by rw [size_box, size_box]
  have HB := Lib.hid hb1
  have K0 := Lib.hid k0
  have K1 := Lib.hid k1
  have HSZ := Lib.hid hsz
  have H0 := Lib.hid h0
  have H1 := Lib.hid h1
  have H2 := Lib.hid h2
  have H3 := Lib.hid h3
  clear hb1 k0 k1 h0 h1 h2 h3 hsz
  rcases hc : eqWB fs gs with _ | _
  · have HC := Lib.hid hc
    clear hc
    go_enter Try.func25, Try.ntmps25
    go_wp2_with fail
    refine (eqFlagS_ok A0 c0 fs A2 c2 gs _ (C_below' H0.out HB.out) (C_below' H2.out HB.out)).mono ?_
    rintro e w1 ⟨rfl, hb1⟩
    rw [HC.out]
    have HB1 := Lib.hid (HB.out.trans (hb1.mono HB.out.size))
    clear hb1
    go_wp2_with fail
    go_ret
    exact ⟨rfl, HB1.out⟩
  · have HC := Lib.hid hc
    clear hc
    go_enter Try.func25, Try.ntmps25
    go_wp2_with fail
    generalize ((w.alloc (.cells #[.slice A0 fs.length c0, .slice A1 ws.length c1] 46)).alloc (.cells #[.slice A2 gs.length c2, .slice A3 xs.length c3] 46)) = W0 at *
    refine (eqFlagS_ok A0 c0 fs A2 c2 gs W0 (C_below' H0.out HB.out) (C_below' H2.out HB.out)).mono ?_
    rintro e w1 ⟨rfl, hb1⟩
    rw [HC.out]
    have HB1 := Lib.hid (HB.out.trans (hb1.mono HB.out.size))
    have hsz := HSZ.out
    have k0 := (hb1.block _ (by omega)).trans K0.out
    have k1 := (hb1.block _ (by omega)).trans K1.out
    have x0 := (blk_cell k0 1).trans (show _ = some (.slice A1 ws.length c1) from rfl)
    have x1 := (blk_cell k1 1).trans (show _ = some (.slice A3 xs.length c3) from rfl)
    clear hb1 K0 K1 k0 k1 hsz
    go_wp2_with fail
    refine (eqWordS_ok A1 c1 ws A3 c3 xs w1 (C_below' H1.out HB1.out) (C_below' H3.out HB1.out)).mono ?_
    rintro e w2 ⟨rfl, q, rfl⟩
    rcases hd : eqWB ws xs with _ | _
    · go_wp2_with fail
      go_ret
      exact ⟨ret_bool (by rw [hd]; rfl), below_dN HB1.out _⟩
    · go_wp2_with fail
      go_ret
      exact ⟨ret_bool (by rw [hd]; rfl), below_dN HB1.out _⟩
end Go.Proofs.Ytjadhhnajphibaa
