/- Rows of arrays that are compared. -/
import Derived.Test.YtjadhhnajphibaaE1
set_option linter.unusedVariables false
set_option linter.unusedSimpArgs false
namespace Go.Proofs.Ytjadhhnajphibaa
open Go.RowKit Go.Proofs.YtjadhhnajphibaaW.PrintWords

theorem below_one {B : Nat} {w W : World} (h : Below B w W) : Below B w { heap := W.heap, tape := W.tape, drawn := W.drawn + 1, os := W.os, output := W.output } := ⟨h.os, h.tape, h.output, h.size, h.block⟩
section
variable {P : Program}
theorem still_load_agg {ops : Array Oper} {rest : List Oper} {op : Oper} {a : Act} {w : World} {Q : Act → Prop} (hgd : op.guard = none) (ty : TypeId) (x : Operand) (ho : op.op = .load ty x)
    (a0 : Addr) (hx : a.eval x = .pointer (some a0)) (cs : List Value) (d : TypeDesc) (hc : ∀ j v, cs[j]? = some v → w.cell? (a0.add j) = some v)
    (hu : P.underlying ty = some d) (hd : d.isRow = true) (hi : (P.info? ty).map (·.size) = some cs.length)
    (h : wpStill P ops w Q rest (a.put op.dst (.agg cs.toArray))) : wpStill P ops w Q (op :: rest) a :=
  wpStill_step fun K hK => by
    have hw : Region.wanted op (yielded ops a.tmps) = true := by simp [Region.wanted, hgd]
    rw [if_pos hw]
    unfold Oper.still execOp
    simp only [ho, hx, Instr.loadAt, Instr.sureAddr, Sem.run_bind, Sem.run_pure, Result.andThen_ok, run_loadVar_agg w a0 ty cs d hc hu hd hi]
    exact ⟨rfl, hK _ h⟩
end
set_option maxRecDepth 100000 in
set_option maxHeartbeats 4000000 in
theorem eqFlagS_ok (A0 : Option Addr) (c0 : Nat) (fs : List (List Int)) (A1 : Option Addr) (c1 : Nat) (gs : List (List Int)) (w : World) (h0 : (Karr 24).C w A0 fs.length fs) (h1 : (Karr 24).C w A1 gs.length gs) :
    Calls Try.prog 86 #[.slice A0 fs.length c0, .slice A1 gs.length c1] w fun e w' => e = .returned (.bool (eqWB fs gs)) ∧ Below w.heap.size w w' := by
  have hm : fs.length ≤ 9223372036854775807 := h0.2.1
  have hm1 : gs.length ≤ 9223372036854775807 := h1.2.1
  have H0 := Lib.hid h0
  have H1 := Lib.hid h1
  clear h0 h1
  by_cases hl : fs.length = gs.length
  · have HL := Lib.hid hl
    have hle : fs.length ≤ gs.length := by omega
    have hlb : ((fs.length : Int) != (gs.length : Int)) = false := by simp [hl]
    clear hl
    go_enter Try.func86, Try.ntmps86
    go_wp2
    go_loopw [5] (fun i wr => ∃ k : Nat, k ≤ fs.length ∧ i = .int .i64 k ∧ Hid (∀ j, j < k → eqB (rl fs j) (rl gs j) = true) ∧ Hid (Below w.heap.size w wr)) (fun i _ => fs.length - (intOf i).toNat)
    case atStart => exact ⟨0, Nat.zero_le _, rfl, fun j hj => absurd hj (by omega), Below.refl _ _⟩
    case round =>
      obtain ⟨k, hk, rfl, HA, HB⟩ := hrel
      by_cases hlt : k < fs.length
      · obtain ⟨ad0, rfl, hl0, hx0⟩ := at_arr (C_below' H0.out HB.out) hlt
        obtain ⟨ad1, rfl, hl1, hx1⟩ := at_arr (C_below' H1.out HB.out) (show k < gs.length by omega)
        have hlt1 : k < gs.length := by omega
        have hlti : (k : Int) < (fs.length : Int) := by omega
        have hlti1 : (k : Int) < (gs.length : Int) := by omega
        have HX0 := Lib.hid hx0
        have HX1 := Lib.hid hx1
        have HL0 := Lib.hid hl0
        have HL1 := Lib.hid hl1
        clear hx0 hx1 hl0 hl1
        have hcall : ∀ w2, Calls Try.prog 116 #[.agg (nums .u8 (rl fs k)).toArray, .agg (nums .u8 (rl gs k)).toArray] w2 fun e w' => e = .returned (.bool (eqB (rl fs k) (rl gs k))) ∧ Below w2.heap.size w2 w' :=
          fun w2 => eqFlag_ok (rl fs k) (rl gs k) HL0.out HL1.out w2
        have HC := Lib.hid hcall
        clear hcall
        rcases hc : eqB (rl fs k) (rl gs k) with _ | _
        · have HS := Lib.hid (eqWB_no hlt hc)
          rw [hc] at HC
          go_wp2
          go_still_tail 8, (by kernel_rfl)
          refine still_load_agg rfl 78 (.tmp 19) rfl _ rfl (nums .u8 (rl fs k)) _ HX0.out Try.underlying78 rfl (by rw [nums_length, HL0.out]; exact ainfo_flag) ?_
          repeat still_step
          refine still_load_agg rfl 78 (.tmp 23) rfl _ rfl (nums .u8 (rl gs k)) _ HX1.out Try.underlying78 rfl (by rw [nums_length, HL1.out]; exact ainfo_flag) ?_
          refine wpStill_nil ?_
          go_simp
          go_wp2_with (go_at_call 116; refine (HC.out _).mono ?_; rintro e w1 ⟨rfl, hb1⟩; have HB1 := Lib.hid ((below_one HB.out).trans (hb1.mono (below_one HB.out).size)); clear hb1)
          go_ret
          exact ⟨ret_bool HS.out.symm, HB1.out⟩
        · have HS := Lib.hid hc
          rw [hc] at HC
          go_wp2
          go_still_tail 8, (by kernel_rfl)
          refine still_load_agg rfl 78 (.tmp 19) rfl _ rfl (nums .u8 (rl fs k)) _ HX0.out Try.underlying78 rfl (by rw [nums_length, HL0.out]; exact ainfo_flag) ?_
          repeat still_step
          refine still_load_agg rfl 78 (.tmp 23) rfl _ rfl (nums .u8 (rl gs k)) _ HX1.out Try.underlying78 rfl (by rw [nums_length, HL1.out]; exact ainfo_flag) ?_
          refine wpStill_nil ?_
          go_simp
          go_wp2_with (go_at_call 116; refine (HC.out _).mono ?_; rintro e w1 ⟨rfl, hb1⟩; have HB1 := Lib.hid ((below_one HB.out).trans (hb1.mono (below_one HB.out).size)); clear hb1)
          go_roundw
          case rel =>
            refine ⟨k + 1, by omega, by go_num, fun j hj => ?_, HB1.out⟩
            by_cases e : j = k
            · rw [e]; exact HS.out
            · exact HA.out j (by omega)
          case measure => first|(simp [intOf]; done)|(simp [intOf]; omega)
      · obtain rfl : k = fs.length := by omega
        have HS := Lib.hid (eqWB_yes HL.out HA.out)
        go_wp2
        go_ret
        exact ⟨ret_bool HS.out.symm, HB.out⟩
  · have HS := Lib.hid (eqWB_len hl)
    have hlb : ((fs.length : Int) != (gs.length : Int)) = true := by simp; omega
    go_enter Try.func86, Try.ntmps86
    go_wp2
    go_ret
    exact ⟨ret_bool HS.out.symm, Below.refl _ _⟩

set_option maxRecDepth 100000 in
set_option maxHeartbeats 4000000 in
theorem eqSightS_ok (A0 : Option Addr) (c0 : Nat) (fs : List (List Int)) (A1 : Option Addr) (c1 : Nat) (gs : List (List Int)) (w : World) (h0 : (Karr 6).C w A0 fs.length fs) (h1 : (Karr 6).C w A1 gs.length gs) :
    Calls Try.prog 28 #[.slice A0 fs.length c0, .slice A1 gs.length c1] w fun e w' => e = .returned (.bool (eqWB fs gs)) ∧ Below w.heap.size w w' := by
  have hm : fs.length ≤ 9223372036854775807 := h0.2.1
  have hm1 : gs.length ≤ 9223372036854775807 := h1.2.1
  have H0 := Lib.hid h0
  have H1 := Lib.hid h1
  clear h0 h1
  by_cases hl : fs.length = gs.length
  · have HL := Lib.hid hl
    have hle : fs.length ≤ gs.length := by omega
    have hlb : ((fs.length : Int) != (gs.length : Int)) = false := by simp [hl]
    clear hl
    go_enter Try.func28, Try.ntmps28
    go_wp2
    go_loopw [5] (fun i wr => ∃ k : Nat, k ≤ fs.length ∧ i = .int .i64 k ∧ Hid (∀ j, j < k → eqB (rl fs j) (rl gs j) = true) ∧ Hid (Below w.heap.size w wr)) (fun i _ => fs.length - (intOf i).toNat)
    case atStart => exact ⟨0, Nat.zero_le _, rfl, fun j hj => absurd hj (by omega), Below.refl _ _⟩
    case round =>
      obtain ⟨k, hk, rfl, HA, HB⟩ := hrel
      by_cases hlt : k < fs.length
      · obtain ⟨ad0, rfl, hl0, hx0⟩ := at_arr (C_below' H0.out HB.out) hlt
        obtain ⟨ad1, rfl, hl1, hx1⟩ := at_arr (C_below' H1.out HB.out) (show k < gs.length by omega)
        have hlt1 : k < gs.length := by omega
        have hlti : (k : Int) < (fs.length : Int) := by omega
        have hlti1 : (k : Int) < (gs.length : Int) := by omega
        have HX0 := Lib.hid hx0
        have HX1 := Lib.hid hx1
        have HL0 := Lib.hid hl0
        have HL1 := Lib.hid hl1
        clear hx0 hx1 hl0 hl1
        have hcall : ∀ w2, Calls Try.prog 88 #[.agg (nums .u8 (rl fs k)).toArray, .agg (nums .u8 (rl gs k)).toArray] w2 fun e w' => e = .returned (.bool (eqB (rl fs k) (rl gs k))) ∧ Below w2.heap.size w2 w' :=
          fun w2 => eqSight_ok (rl fs k) (rl gs k) HL0.out HL1.out w2
        have HC := Lib.hid hcall
        clear hcall
        rcases hc : eqB (rl fs k) (rl gs k) with _ | _
        · have HS := Lib.hid (eqWB_no hlt hc)
          rw [hc] at HC
          go_wp2
          go_still_tail 8, (by kernel_rfl)
          refine still_load_agg rfl 72 (.tmp 19) rfl _ rfl (nums .u8 (rl fs k)) _ HX0.out Try.underlying72 rfl (by rw [nums_length, HL0.out]; exact ainfo_sight) ?_
          repeat still_step
          refine still_load_agg rfl 72 (.tmp 23) rfl _ rfl (nums .u8 (rl gs k)) _ HX1.out Try.underlying72 rfl (by rw [nums_length, HL1.out]; exact ainfo_sight) ?_
          refine wpStill_nil ?_
          go_simp
          go_wp2_with (go_at_call 88; refine (HC.out _).mono ?_; rintro e w1 ⟨rfl, hb1⟩; have HB1 := Lib.hid ((below_one HB.out).trans (hb1.mono (below_one HB.out).size)); clear hb1)
          go_ret
          exact ⟨ret_bool HS.out.symm, HB1.out⟩
        · have HS := Lib.hid hc
          rw [hc] at HC
          go_wp2
          go_still_tail 8, (by kernel_rfl)
          refine still_load_agg rfl 72 (.tmp 19) rfl _ rfl (nums .u8 (rl fs k)) _ HX0.out Try.underlying72 rfl (by rw [nums_length, HL0.out]; exact ainfo_sight) ?_
          repeat still_step
          refine still_load_agg rfl 72 (.tmp 23) rfl _ rfl (nums .u8 (rl gs k)) _ HX1.out Try.underlying72 rfl (by rw [nums_length, HL1.out]; exact ainfo_sight) ?_
          refine wpStill_nil ?_
          go_simp
          go_wp2_with (go_at_call 88; refine (HC.out _).mono ?_; rintro e w1 ⟨rfl, hb1⟩; have HB1 := Lib.hid ((below_one HB.out).trans (hb1.mono (below_one HB.out).size)); clear hb1)
          go_roundw
          case rel =>
            refine ⟨k + 1, by omega, by go_num, fun j hj => ?_, HB1.out⟩
            by_cases e : j = k
            · rw [e]; exact HS.out
            · exact HA.out j (by omega)
          case measure => first|(simp [intOf]; done)|(simp [intOf]; omega)
      · obtain rfl : k = fs.length := by omega
        have HS := Lib.hid (eqWB_yes HL.out HA.out)
        go_wp2
        go_ret
        exact ⟨ret_bool HS.out.symm, HB.out⟩
  · have HS := Lib.hid (eqWB_len hl)
    have hlb : ((fs.length : Int) != (gs.length : Int)) = true := by simp; omega
    go_enter Try.func28, Try.ntmps28
    go_wp2
    go_ret
    exact ⟨ret_bool HS.out.symm, Below.refl _ _⟩

end Go.Proofs.Ytjadhhnajphibaa
