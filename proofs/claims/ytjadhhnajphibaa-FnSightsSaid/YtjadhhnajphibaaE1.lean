/- Codes, sights and numbers that are compared. -/
import Derived.Test.YtjadhhnajphibaaA4
import Derived.Test.YtjadhhnajphibaaW4
import Derived.StillTailTactics
set_option linter.unusedVariables false
set_option linter.unusedSimpArgs false
namespace Go.Proofs.Ytjadhhnajphibaa
open Go.RowKit Go.Proofs.YtjadhhnajphibaaW.PrintWords

set_option maxRecDepth 100000 in
set_option maxHeartbeats 2000000 in
theorem eqFlag_ok (f g : List Int) (hf : f.length = 24) (hg : g.length = 24) (w : World) :
    Calls Try.prog 116 #[av f, av g] w fun e w' => e = .returned (.bool (eqB f g)) ∧ Below w.heap.size w w' := by
  unfold av
  have HF := Lib.hid hf
  have HG := Lib.hid hg
  clear hf hg
  go_enter Try.func116, Try.ntmps116
  go_wp2
  have H1 := Lib.hid ((NB.new (kd := .u8) w 78 f).alloc (.cells (nums .u8 g).toArray 78))
  have h2 := NB.new (kd := .u8) (w.alloc (.cells (nums .u8 f).toArray 78)) 78 g
  rw [size_box] at h2
  have H2 := Lib.hid h2
  have HB := Lib.hid (below_alloc (below_box w (.cells (nums .u8 f).toArray 78)) (.cells (nums .u8 g).toArray 78))
  clear h2
  generalize (w.alloc (.cells (nums .u8 f).toArray 78)).alloc (.cells (nums .u8 g).toArray 78) = W0 at *
  go_loopw [5] (fun i wr => ∃ k q : Nat, k ≤ 24 ∧ i = .int .i64 k ∧ Hid (∀ j, j < k → (rn f j != rn g j) = false) ∧ wr = W0.drewN q) (fun i _ => 24 - (intOf i).toNat)
  case atStart => exact ⟨0, 0, by omega, rfl, fun j hj => absurd hj (by omega), rfl⟩
  case round =>
    obtain ⟨k, q, hk, rfl, HA, rfl⟩ := hrel
    by_cases hlt : k < 24
    · have hx0 := H1.out.cell (i := k) (by rw [HF.out]; exact hlt)
      have hx1 := H2.out.cell (i := k) (by rw [HG.out]; exact hlt)
      have hlti : (k : Int) < 24 := by omega
      rcases hc : (rn f k != rn g k) with _ | _
      · have HS := Lib.hid hc
        go_wp2
        go_quiet (fail)
        go_wp2
        go_roundw
        case rel =>
          refine ⟨k + 1, _, by omega, by go_num, fun j hj => ?_, rfl⟩
          by_cases e : j = k
          · rw [e]; exact HS.out
          · exact HA.out j (by omega)
        case measure => first|(simp [intOf]; done)|(simp [intOf]; omega)
      · have HS := Lib.hid (eqB_no (xs := f) (ys := g) (by rw [HF.out]; exact hlt) hc)
        go_wp2
        go_quiet (fail)
        go_wp2
        go_ret
        exact ⟨ret_bool HS.out.symm, below_dN (below_dN HB.out _) _⟩
    · obtain rfl : k = 24 := by omega
      have HS := Lib.hid (eqB_yes (xs := f) (ys := g) (by rw [HF.out, HG.out]) (by rw [HF.out]; exact HA.out))
      go_wp2
      go_ret
      exact ⟨ret_bool HS.out.symm, below_dN HB.out _⟩

set_option maxRecDepth 100000 in
set_option maxHeartbeats 2000000 in
theorem eqSight_ok (f g : List Int) (hf : f.length = 6) (hg : g.length = 6) (w : World) :
    Calls Try.prog 88 #[av f, av g] w fun e w' => e = .returned (.bool (eqB f g)) ∧ Below w.heap.size w w' := by
  unfold av
  have HF := Lib.hid hf
  have HG := Lib.hid hg
  clear hf hg
  go_enter Try.func88, Try.ntmps88
  go_wp2
  have H1 := Lib.hid ((NB.new (kd := .u8) w 72 f).alloc (.cells (nums .u8 g).toArray 72))
  have h2 := NB.new (kd := .u8) (w.alloc (.cells (nums .u8 f).toArray 72)) 72 g
  rw [size_box] at h2
  have H2 := Lib.hid h2
  have HB := Lib.hid (below_alloc (below_box w (.cells (nums .u8 f).toArray 72)) (.cells (nums .u8 g).toArray 72))
  clear h2
  generalize (w.alloc (.cells (nums .u8 f).toArray 72)).alloc (.cells (nums .u8 g).toArray 72) = W0 at *
  go_loopw [5] (fun i wr => ∃ k q : Nat, k ≤ 6 ∧ i = .int .i64 k ∧ Hid (∀ j, j < k → (rn f j != rn g j) = false) ∧ wr = W0.drewN q) (fun i _ => 6 - (intOf i).toNat)
  case atStart => exact ⟨0, 0, by omega, rfl, fun j hj => absurd hj (by omega), rfl⟩
  case round =>
    obtain ⟨k, q, hk, rfl, HA, rfl⟩ := hrel
    by_cases hlt : k < 6
    · have hx0 := H1.out.cell (i := k) (by rw [HF.out]; exact hlt)
      have hx1 := H2.out.cell (i := k) (by rw [HG.out]; exact hlt)
      have hlti : (k : Int) < 6 := by omega
      rcases hc : (rn f k != rn g k) with _ | _
      · have HS := Lib.hid hc
        go_wp2
        go_quiet (fail)
        go_wp2
        go_roundw
        case rel =>
          refine ⟨k + 1, _, by omega, by go_num, fun j hj => ?_, rfl⟩
          by_cases e : j = k
          · rw [e]; exact HS.out
          · exact HA.out j (by omega)
        case measure => first|(simp [intOf]; done)|(simp [intOf]; omega)
      · have HS := Lib.hid (eqB_no (xs := f) (ys := g) (by rw [HF.out]; exact hlt) hc)
        go_wp2
        go_quiet (fail)
        go_wp2
        go_ret
        exact ⟨ret_bool HS.out.symm, below_dN (below_dN HB.out _) _⟩
    · obtain rfl : k = 6 := by omega
      have HS := Lib.hid (eqB_yes (xs := f) (ys := g) (by rw [HF.out, HG.out]) (by rw [HF.out]; exact HA.out))
      go_wp2
      go_ret
      exact ⟨ret_bool HS.out.symm, below_dN HB.out _⟩

set_option maxHeartbeats 1000000 in
theorem eqWord_ok (A0 : Option Addr) (c0 : Nat) (xs : List Int) (A1 : Option Addr) (c1 : Nat) (ys : List Int) (w : World)
    (h0 : (Kd.int .u8).C w A0 xs.length xs) (h1 : (Kd.int .u8).C w A1 ys.length ys) :
    Calls Try.prog 117 #[.slice A0 xs.length c0, .slice A1 ys.length c1] w fun e w' => e = .returned (.bool (eqB xs ys)) ∧ ∃ q, w' = w.drewN q := by
  have hm : xs.length ≤ 9223372036854775807 := h0.2.1
  have hm1 : ys.length ≤ 9223372036854775807 := h1.2.1
  have H0 := Lib.hid h0
  have H1 := Lib.hid h1
  clear h0 h1
  by_cases hl : xs.length = ys.length
  · have HL := Lib.hid hl
    have hle : xs.length ≤ ys.length := by omega
    have hlb : ((xs.length : Int) != (ys.length : Int)) = false := by simp [hl]
    clear hl
    go_enter Try.func117, Try.ntmps117
    go_wp2
    go_loopw [5] (fun i wr => ∃ k q : Nat, k ≤ xs.length ∧ i = .int .i64 k ∧ Hid (∀ j, j < k → (rn xs j != rn ys j) = false) ∧ wr = w.drewN q) (fun i _ => xs.length - (intOf i).toNat)
    case atStart => exact ⟨0, 0, Nat.zero_le _, rfl, fun j hj => absurd hj (by omega), rfl⟩
    case round =>
      obtain ⟨k, q, hk, rfl, HA, rfl⟩ := hrel
      by_cases hlt : k < xs.length
      · obtain ⟨ad0, rfl, hx0⟩ := at_nat H0.out hlt
        obtain ⟨ad1, rfl, hx1⟩ := at_nat H1.out (show k < ys.length by omega)
        have hlt1 : k < ys.length := by omega
        have hlti : (k : Int) < (xs.length : Int) := by omega
        have hlti1 : (k : Int) < (ys.length : Int) := by omega
        rcases hc : (rn xs k != rn ys k) with _ | _
        · have HS := Lib.hid hc
          go_wp2
          go_quiet (fail)
          go_wp2
          go_roundw
          case rel =>
            refine ⟨k + 1, _, by omega, by go_num, fun j hj => ?_, rfl⟩
            by_cases e : j = k
            · rw [e]; exact HS.out
            · exact HA.out j (by omega)
          case measure => first|(simp [intOf]; done)|(simp [intOf]; omega)
        · have HS := Lib.hid (eqB_no hlt hc)
          go_wp2
          go_quiet (fail)
          go_wp2
          go_ret
          exact ⟨ret_bool HS.out.symm, _, World.drewN_drewN ..⟩
      · obtain rfl : k = xs.length := by omega
        have HS := Lib.hid (eqB_yes HL.out HA.out)
        go_wp2
        go_ret
        exact ⟨ret_bool HS.out.symm, _, rfl⟩
  · have HS := Lib.hid (eqB_len hl)
    have hlb : ((xs.length : Int) != (ys.length : Int)) = true := by simp; omega
    go_enter Try.func117, Try.ntmps117
    go_wp2
    go_ret
    exact ⟨ret_bool HS.out.symm, 0, rfl⟩

set_option maxHeartbeats 1000000 in
theorem eqInt64S_ok (A0 : Option Addr) (c0 : Nat) (xs : List Int) (A1 : Option Addr) (c1 : Nat) (ys : List Int) (w : World)
    (h0 : (Kd.int .i64).C w A0 xs.length xs) (h1 : (Kd.int .i64).C w A1 ys.length ys) :
    Calls Try.prog 38 #[.slice A0 xs.length c0, .slice A1 ys.length c1] w fun e w' => e = .returned (.bool (eqB xs ys)) ∧ ∃ q, w' = w.drewN q := by
  have hm : xs.length ≤ 9223372036854775807 := h0.2.1
  have hm1 : ys.length ≤ 9223372036854775807 := h1.2.1
  have H0 := Lib.hid h0
  have H1 := Lib.hid h1
  clear h0 h1
  by_cases hl : xs.length = ys.length
  · have HL := Lib.hid hl
    have hle : xs.length ≤ ys.length := by omega
    have hlb : ((xs.length : Int) != (ys.length : Int)) = false := by simp [hl]
    clear hl
    go_enter Try.func38, Try.ntmps38
    go_wp2
    go_loopw [5] (fun i wr => ∃ k q : Nat, k ≤ xs.length ∧ i = .int .i64 k ∧ Hid (∀ j, j < k → (rn xs j != rn ys j) = false) ∧ wr = w.drewN q) (fun i _ => xs.length - (intOf i).toNat)
    case atStart => exact ⟨0, 0, Nat.zero_le _, rfl, fun j hj => absurd hj (by omega), rfl⟩
    case round =>
      obtain ⟨k, q, hk, rfl, HA, rfl⟩ := hrel
      by_cases hlt : k < xs.length
      · obtain ⟨ad0, rfl, hx0⟩ := at_nat H0.out hlt
        obtain ⟨ad1, rfl, hx1⟩ := at_nat H1.out (show k < ys.length by omega)
        have hlt1 : k < ys.length := by omega
        have hlti : (k : Int) < (xs.length : Int) := by omega
        have hlti1 : (k : Int) < (ys.length : Int) := by omega
        rcases hc : (rn xs k != rn ys k) with _ | _
        · have HS := Lib.hid hc
          go_wp2
          go_quiet (fail)
          go_wp2
          go_roundw
          case rel =>
            refine ⟨k + 1, _, by omega, by go_num, fun j hj => ?_, rfl⟩
            by_cases e : j = k
            · rw [e]; exact HS.out
            · exact HA.out j (by omega)
          case measure => first|(simp [intOf]; done)|(simp [intOf]; omega)
        · have HS := Lib.hid (eqB_no hlt hc)
          go_wp2
          go_quiet (fail)
          go_wp2
          go_ret
          exact ⟨ret_bool HS.out.symm, _, World.drewN_drewN ..⟩
      · obtain rfl : k = xs.length := by omega
        have HS := Lib.hid (eqB_yes HL.out HA.out)
        go_wp2
        go_ret
        exact ⟨ret_bool HS.out.symm, _, rfl⟩
  · have HS := Lib.hid (eqB_len hl)
    have hlb : ((xs.length : Int) != (ys.length : Int)) = true := by simp; omega
    go_enter Try.func38, Try.ntmps38
    go_wp2
    go_ret
    exact ⟨ret_bool HS.out.symm, 0, rfl⟩

set_option maxHeartbeats 2000000 in
theorem eqWordS_ok (A0 : Option Addr) (c0 : Nat) (xss : List (List Int)) (A1 : Option Addr) (c1 : Nat) (yss : List (List Int)) (w : World)
    (h0 : (Kd.slice 5 (Kd.int .u8)).C w A0 xss.length xss) (h1 : (Kd.slice 5 (Kd.int .u8)).C w A1 yss.length yss) :
    Calls Try.prog 87 #[.slice A0 xss.length c0, .slice A1 yss.length c1] w fun e w' => e = .returned (.bool (eqWB xss yss)) ∧ ∃ q, w' = w.drewN q := by
  have hm : xss.length ≤ 9223372036854775807 := h0.2.1
  have hm1 : yss.length ≤ 9223372036854775807 := h1.2.1
  have H0 := Lib.hid h0
  have H1 := Lib.hid h1
  clear h0 h1
  by_cases hl : xss.length = yss.length
  · have HL := Lib.hid hl
    have hle : xss.length ≤ yss.length := by omega
    have hlb : ((xss.length : Int) != (yss.length : Int)) = false := by simp [hl]
    clear hl
    go_enter Try.func87, Try.ntmps87
    go_wp2
    go_loopw [5] (fun i wr => ∃ k q : Nat, k ≤ xss.length ∧ i = .int .i64 k ∧ Hid (∀ j, j < k → eqB (rl xss j) (rl yss j) = true) ∧ wr = w.drewN q) (fun i _ => xss.length - (intOf i).toNat)
    case atStart => exact ⟨0, 0, Nat.zero_le _, rfl, fun j hj => absurd hj (by omega), rfl⟩
    case round =>
      obtain ⟨k, q, hk, rfl, HA, rfl⟩ := hrel
      by_cases hlt : k < xss.length
      · obtain ⟨ad0, A3, c3, rfl, hx0, hl3, hr3⟩ := at_row H0.out hlt
        obtain ⟨ad1, A4, c4, rfl, hx1, hl4, hr4⟩ := at_row H1.out (show k < yss.length by omega)
        have hlt1 : k < yss.length := by omega
        have hlti : (k : Int) < (xss.length : Int) := by omega
        have hlti1 : (k : Int) < (yss.length : Int) := by omega
        have hcall : ∀ n, Calls Try.prog 117 #[.slice A3 (rl xss k).length c3, .slice A4 (rl yss k).length c4] (w.drewN n) fun e w' => e = .returned (.bool (eqB (rl xss k) (rl yss k))) ∧ ∃ m, w' = (w.drewN n).drewN m :=
          fun n => eqWord_ok A3 c3 _ A4 c4 _ _ hr3 hr4
        clear hr3 hr4
        have HC := Lib.hid hcall
        clear hcall
        rcases hc : eqB (rl xss k) (rl yss k) with _ | _
        · have HS := Lib.hid (eqWB_no hlt hc)
          go_wp2
          go_quiet ((go_at_call 117; first | exact quiet_add (HC.out _) | exact quiet_any (HC.out _)))
          go_wp2
          go_ret
          exact ⟨ret_bool HS.out.symm, _, World.drewN_drewN ..⟩
        · have HS := Lib.hid hc
          go_wp2
          go_quiet ((go_at_call 117; first | exact quiet_add (HC.out _) | exact quiet_any (HC.out _)))
          go_wp2
          go_roundw
          case rel =>
            refine ⟨k + 1, _, by omega, by go_num, fun j hj => ?_, rfl⟩
            by_cases e : j = k
            · rw [e]; exact HS.out
            · exact HA.out j (by omega)
          case measure => first|(simp [intOf]; done)|(simp [intOf]; omega)
      · obtain rfl : k = xss.length := by omega
        have HS := Lib.hid (eqWB_yes HL.out HA.out)
        go_wp2
        go_ret
        exact ⟨ret_bool HS.out.symm, _, rfl⟩
  · have HS := Lib.hid (eqWB_len hl)
    have hlb : ((xss.length : Int) != (yss.length : Int)) = true := by simp; omega
    go_enter Try.func87, Try.ntmps87
    go_wp2
    go_ret
    exact ⟨ret_bool HS.out.symm, 0, rfl⟩

end Go.Proofs.Ytjadhhnajphibaa
