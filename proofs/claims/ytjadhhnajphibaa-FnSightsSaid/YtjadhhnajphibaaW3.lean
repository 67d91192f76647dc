/- Rows that are compared; rows that are searched. -/
import Derived.Test.YtjadhhnajphibaaB
set_option linter.unusedVariables false
set_option linter.unusedSimpArgs false
namespace Go.Proofs.Ytjadhhnajphibaa
open Go.RowKit Go.Proofs.YtjadhhnajphibaaW.PrintWords

theorem bne_swap (a b : Int) : (a != b) = (b != a) := by
  rw [Bool.eq_iff_iff, bne_iff_ne, bne_iff_ne]
  exact ⟨Ne.symm, Ne.symm⟩

set_option maxHeartbeats 1000000 in
theorem unlike_ok (A0 : Option Addr) (c0 : Nat) (xs : List Int) (A1 : Option Addr) (c1 : Nat) (ys : List Int) (w : World)
    (h0 : (Kd.int .u8).C w A0 xs.length xs) (h1 : (Kd.int .u8).C w A1 ys.length ys) (hl : xs.length ≤ ys.length) :
    Calls Try.prog 60 #[.slice A0 xs.length c0, .slice A1 ys.length c1] w fun e w' => e = .returned (.int .i64 (diffs xs ys)) ∧ w = w' := by
  have hm : xs.length ≤ 9223372036854775807 := h0.2.1
  have H0 := Lib.hid h0
  have H1 := Lib.hid h1
  clear h0 h1
  go_enter Try.func60, Try.ntmps60
  go_wp2
  go_loop [5, 10] (fun m i => ∃ k : Nat, k ≤ xs.length ∧ i = .int .i64 k ∧ m = .int .i64 (diffsTo xs ys k)) (fun _ i => xs.length - (intOf i).toNat)
  case atStart => exact ⟨0, Nat.zero_le _, rfl, rfl⟩
  case round =>
    obtain ⟨k, hk, rfl, rfl⟩ := hrel
    have hcl := diffsTo_le xs ys k
    by_cases hlt : k < xs.length
    · obtain ⟨ad0, rfl, hx0⟩ := at_nat H0.out hlt
      obtain ⟨ad1, rfl, hx1⟩ := at_nat H1.out (show k < ys.length by omega)
      have hlt1 : k < ys.length := by omega
      rcases hc : (rn ys k != rn xs k) with _ | _
      · have HS := Lib.hid (diffsTo_no (xs := xs) (ys := ys) (k := k) ((bne_swap _ _).trans hc))
        go_wp2
        go_round
        case rel => exact ⟨k + 1, by omega, by go_num, by rw [HS.out]⟩
        case measure => first|(simp [intOf]; done)|(simp [intOf]; omega)
      · have HS := Lib.hid (diffsTo_yes (xs := xs) (ys := ys) (k := k) ((bne_swap _ _).trans hc))
        go_wp2
        go_round
        case rel => exact ⟨k + 1, by omega, by go_num, by rw [HS.out]; go_num⟩
        case measure => first|(simp [intOf]; done)|(simp [intOf]; omega)
    · go_wp2
      go_ret
      obtain rfl : k = xs.length := by omega
      exact ⟨rfl, rfl⟩

set_option maxHeartbeats 1000000 in
theorem l05Apart_ok (A0 : Option Addr) (c0 : Nat) (xs : List Int) (A1 : Option Addr) (c1 : Nat) (ys : List Int) (w : World)
    (h0 : (Kd.int .u8).C w A0 xs.length xs) (h1 : (Kd.int .u8).C w A1 ys.length ys) (hl : xs.length ≤ ys.length) :
    Calls Try.prog 65 #[.slice A0 xs.length c0, .slice A1 ys.length c1] w fun e w' => e = .returned (.int .i64 (diffs xs ys)) ∧ ∃ q, w' = w.drewN q := by
  have hm : xs.length ≤ 9223372036854775807 := h0.2.1
  have H0 := Lib.hid h0
  have H1 := Lib.hid h1
  clear h0 h1
  go_enter Try.func65, Try.ntmps65
  go_wp2
  go_loopw [5, 6] (fun m i wr => ∃ k q : Nat, k ≤ xs.length ∧ i = .int .i64 k ∧ m = .int .i64 (diffsTo xs ys k) ∧ wr = w.drewN q) (fun _ i _ => xs.length - (intOf i).toNat)
  case atStart => exact ⟨0, 0, Nat.zero_le _, rfl, rfl, rfl⟩
  case round =>
    obtain ⟨k, q, hk, rfl, rfl, rfl⟩ := hrel
    have hcl := diffsTo_le xs ys k
    by_cases hlt : k < xs.length
    · obtain ⟨ad0, rfl, hx0⟩ := at_nat H0.out hlt
      obtain ⟨ad1, rfl, hx1⟩ := at_nat H1.out (show k < ys.length by omega)
      have hlt1 : k < ys.length := by omega
      have hlti : (k : Int) < (xs.length : Int) := by omega
      have hlti1 : (k : Int) < (ys.length : Int) := by omega
      rcases hc : (rn xs k != rn ys k) with _ | _
      · have HS := Lib.hid (diffsTo_no hc)
        go_wp2
        go_quiet (fail)
        go_wp2
        go_roundw
        case rel => exact ⟨k + 1, _, by omega, by go_num, by rw [HS.out], rfl⟩
        case measure => first|(simp [intOf]; done)|(simp [intOf]; omega)
      · have HS := Lib.hid (diffsTo_yes hc)
        go_wp2
        go_quiet (fail)
        go_wp2
        go_roundw
        case rel => exact ⟨k + 1, _, by omega, by go_num, by rw [HS.out]; go_num, rfl⟩
        case measure => first|(simp [intOf]; done)|(simp [intOf]; omega)
    · go_wp2
      go_ret
      obtain rfl : k = xs.length := by omega
      exact ⟨rfl, _, rfl⟩

/-- two lists are one: as long, and alike at each place. -/
def eqB (xs ys : List Int) : Bool := decide (xs.length = ys.length) && allB (fun i => rn xs i == rn ys i) xs.length
theorem eqB_len {xs ys : List Int} (h : xs.length ≠ ys.length) : eqB xs ys = false := by simp [eqB, h]
theorem eqB_no {xs ys : List Int} {k : Nat} (hk : k < xs.length) (h : (rn xs k != rn ys k) = true) : eqB xs ys = false := by
  unfold eqB
  rw [allB_no hk (by simpa using h), Bool.and_false]
theorem eqB_yes {xs ys : List Int} (hl : xs.length = ys.length) (h : ∀ i, i < xs.length → (rn xs i != rn ys i) = false) : eqB xs ys = true := by
  unfold eqB
  rw [allB_iff.2 (fun i hi => by simpa using h i hi)]
  simp [hl]
theorem eqB_iff {xs ys : List Int} : eqB xs ys = true ↔ xs = ys := by
  unfold eqB
  rw [Bool.and_eq_true, decide_eq_true_iff, allB_iff]
  constructor
  · rintro ⟨hl, h⟩
    apply List.ext_getElem hl
    intro i h1 h2
    have := h i h1
    simpa [rn, List.getD_eq_getElem?_getD, h1, h2] using this
  · rintro rfl
    exact ⟨rfl, fun i _ => by simp⟩

set_option maxHeartbeats 1000000 in
theorem equalW_ok (A0 : Option Addr) (c0 : Nat) (xs : List Int) (A1 : Option Addr) (c1 : Nat) (ys : List Int) (w : World)
    (h0 : (Kd.int .u8).C w A0 xs.length xs) (h1 : (Kd.int .u8).C w A1 ys.length ys) :
    Calls Try.prog 68 #[.slice A0 xs.length c0, .slice A1 ys.length c1] w fun e w' => e = .returned (.bool (eqB xs ys)) ∧ ∃ q, w' = w.drewN q := by
  have hm : xs.length ≤ 9223372036854775807 := h0.2.1
  have hm1 : ys.length ≤ 9223372036854775807 := h1.2.1
  have H0 := Lib.hid h0
  have H1 := Lib.hid h1
  clear h0 h1
  by_cases hl : xs.length = ys.length
  · have HL := Lib.hid hl
    have hle : xs.length ≤ ys.length := by omega
    have hlb : ((xs.length : Int) != (ys.length : Int)) = false := by simp [hl]
    clear hl
    go_enter Try.func68, Try.ntmps68
    go_wp2
    go_loopw [5, 13] (fun _ i wr => ∃ k q : Nat, k ≤ xs.length ∧ i = .int .i64 k ∧ Hid (∀ j, j < k → (rn xs j != rn ys j) = false) ∧ wr = w.drewN q) (fun _ i _ => xs.length - (intOf i).toNat)
    case atStart => exact ⟨0, 0, Nat.zero_le _, rfl, fun j hj => absurd hj (by omega), rfl⟩
    case round =>
      obtain ⟨k, q, hk, rfl, HA, rfl⟩ := hrel
      by_cases hlt : k < xs.length
      · obtain ⟨ad0, rfl, hx0⟩ := at_nat H0.out hlt
        obtain ⟨ad1, rfl, hx1⟩ := at_nat H1.out (show k < ys.length by omega)
        have hlt1 : k < ys.length := by omega
        have hlti : (k : Int) < (xs.length : Int) := by omega
        have hlti1 : (k : Int) < (ys.length : Int) := by omega
        rcases hc : (rn xs k != rn ys k) with _ | _
        · have HS := Lib.hid hc
          go_wp2
          go_quiet (fail)
          go_wp2
          go_roundw
          case rel =>
            refine ⟨k + 1, _, by omega, by go_num, fun j hj => ?_, rfl⟩
            by_cases e : j = k
            · rw [e]; exact HS.out
            · exact HA.out j (by omega)
          case measure => first|(simp [intOf]; done)|(simp [intOf]; omega)
        · have HS := Lib.hid (eqB_no hlt hc)
          go_wp2
          go_quiet (fail)
          go_wp2
          go_ret
          exact ⟨ret_bool HS.out.symm, _, World.drewN_drewN ..⟩
      · obtain rfl : k = xs.length := by omega
        have HS := Lib.hid (eqB_yes HL.out HA.out)
        go_wp2
        go_ret
        exact ⟨ret_bool HS.out.symm, _, rfl⟩
  · have HS := Lib.hid (eqB_len hl)
    have hlb : ((xs.length : Int) != (ys.length : Int)) = true := by simp; omega
    go_enter Try.func68, Try.ntmps68
    go_wp2
    go_ret
    exact ⟨ret_bool HS.out.symm, 0, rfl⟩

set_option maxHeartbeats 1000000 in
theorem l05Same_ok (A0 : Option Addr) (c0 : Nat) (xs : List Int) (A1 : Option Addr) (c1 : Nat) (ys : List Int) (w : World)
    (h0 : (Kd.int .u8).C w A0 xs.length xs) (h1 : (Kd.int .u8).C w A1 ys.length ys) :
    Calls Try.prog 66 #[.slice A0 xs.length c0, .slice A1 ys.length c1] w fun e w' => e = .returned (.bool (eqB xs ys)) ∧ ∃ q, w' = w.drewN q := by
  have hm : xs.length ≤ 9223372036854775807 := h0.2.1
  have hm1 : ys.length ≤ 9223372036854775807 := h1.2.1
  have H0 := Lib.hid h0
  have H1 := Lib.hid h1
  clear h0 h1
  by_cases hl : xs.length = ys.length
  · have HL := Lib.hid hl
    have hle : xs.length ≤ ys.length := by omega
    have hlb : ((xs.length : Int) != (ys.length : Int)) = false := by simp [hl]
    clear hl
    go_enter Try.func66, Try.ntmps66
    go_wp2
    go_loopw [5] (fun i wr => ∃ k q : Nat, k ≤ xs.length ∧ i = .int .i64 k ∧ Hid (∀ j, j < k → (rn xs j != rn ys j) = false) ∧ wr = w.drewN q) (fun i _ => xs.length - (intOf i).toNat)
    case atStart => exact ⟨0, 0, Nat.zero_le _, rfl, fun j hj => absurd hj (by omega), rfl⟩
    case round =>
      obtain ⟨k, q, hk, rfl, HA, rfl⟩ := hrel
      by_cases hlt : k < xs.length
      · obtain ⟨ad0, rfl, hx0⟩ := at_nat H0.out hlt
        obtain ⟨ad1, rfl, hx1⟩ := at_nat H1.out (show k < ys.length by omega)
        have hlt1 : k < ys.length := by omega
        have hlti : (k : Int) < (xs.length : Int) := by omega
        have hlti1 : (k : Int) < (ys.length : Int) := by omega
        rcases hc : (rn xs k != rn ys k) with _ | _
        · have HS := Lib.hid hc
          go_wp2
          go_quiet (fail)
          go_wp2
          go_roundw
          case rel =>
            refine ⟨k + 1, _, by omega, by go_num, fun j hj => ?_, rfl⟩
            by_cases e : j = k
            · rw [e]; exact HS.out
            · exact HA.out j (by omega)
          case measure => first|(simp [intOf]; done)|(simp [intOf]; omega)
        · have HS := Lib.hid (eqB_no hlt hc)
          go_wp2
          go_quiet (fail)
          go_wp2
          go_ret
          exact ⟨ret_bool HS.out.symm, _, World.drewN_drewN ..⟩
      · obtain rfl : k = xs.length := by omega
        have HS := Lib.hid (eqB_yes HL.out HA.out)
        go_wp2
        go_ret
        exact ⟨ret_bool HS.out.symm, _, rfl⟩
  · have HS := Lib.hid (eqB_len hl)
    have hlb : ((xs.length : Int) != (ys.length : Int)) = true := by simp; omega
    go_enter Try.func66, Try.ntmps66
    go_wp2
    go_ret
    exact ⟨ret_bool HS.out.symm, 0, rfl⟩


set_option maxHeartbeats 1000000 in
theorem indexFuncW_ok (g : Nat) (lb : Array Value) (eg : ∀ args w, (callFunc g args).run Try.prog w = .ok (.enter g args) w) (A : Option Addr) (n c : Nat) (el : Nat → Value) (p : Nat → Bool) (w : World) (hr : Raw w A n el) (hp : PredB Try.prog g lb n el p w) :
    Calls Try.prog 105 #[.slice A n c, .func (.func g) #[] lb] w fun e w' => e = .returned (.int .i64 (idx p n)) ∧ Below w.heap.size w w' := by
  have hm := hr.1
  have HR := Lib.hid hr
  have HP := Lib.hid hp
  clear hr hp
  go_enter Try.func105, Try.ntmps105
  go_wp2
  go_loopw [5, 8] (fun _ i wr => ∃ k : Nat, k ≤ n ∧ i = .int .i64 k ∧ Hid (Below w.heap.size w wr) ∧ Hid (∀ j, j < k → p j = false)) (fun _ i _ => n - (intOf i).toNat)
  case atStart => exact ⟨0, Nat.zero_le _, rfl, Below.refl _ _, fun j hj => absurd hj (by omega)⟩
  case round =>
    obtain ⟨k, hk, rfl, HB, HA⟩ := hrel
    by_cases hlt : k < n
    · have hlti : (k : Int) < (n : Int) := by omega
      have hcall := HP.out k wr hlt HB.out
      obtain ⟨ad, rfl, hc⟩ := (HR.out.below HB.out).2 k hlt
      rcases hq : p k with _ | _
      · rw [hq] at hcall
        have HQ := Lib.hid hq
        clear hq
        go_wp2_with (go_at_fn g; refine hcall.mono ?_; rintro e w' ⟨rfl, hb'⟩)
        go_roundw
        case rel =>
          refine ⟨k + 1, by omega, by go_num, HB.out.trans (hb'.mono HB.out.size), fun j hj => ?_⟩
          by_cases e : j = k
          · rw [e]; exact HQ.out
          · exact HA.out j (by omega)
        case measure => first|(simp [intOf]; done)|(simp [intOf]; omega)
      · rw [hq] at hcall
        have HQ := Lib.hid (idx_hit HA.out hq hlt)
        clear hq
        go_wp2_with (go_at_fn g; refine hcall.mono ?_; rintro e w' ⟨rfl, hb'⟩)
        go_ret
        exact ⟨ret_int HQ.out.symm, HB.out.trans (hb'.mono HB.out.size)⟩
    · obtain rfl : k = n := by omega
      have HQ := Lib.hid (idx_none HA.out)
      go_wp2
      go_ret
      exact ⟨ret_int HQ.out.symm, HB.out⟩

set_option maxHeartbeats 1000000 in
theorem indexFuncU8_ok (g : Nat) (lb : Array Value) (eg : ∀ args w, (callFunc g args).run Try.prog w = .ok (.enter g args) w) (A : Option Addr) (n c : Nat) (el : Nat → Value) (p : Nat → Bool) (w : World) (hr : Raw w A n el) (hp : PredB Try.prog g lb n el p w) :
    Calls Try.prog 129 #[.slice A n c, .func (.func g) #[] lb] w fun e w' => e = .returned (.int .i64 (idx p n)) ∧ Below w.heap.size w w' := by
  have hm := hr.1
  have HR := Lib.hid hr
  have HP := Lib.hid hp
  clear hr hp
  go_enter Try.func129, Try.ntmps129
  go_wp2
  go_loopw [5, 8] (fun _ i wr => ∃ k : Nat, k ≤ n ∧ i = .int .i64 k ∧ Hid (Below w.heap.size w wr) ∧ Hid (∀ j, j < k → p j = false)) (fun _ i _ => n - (intOf i).toNat)
  case atStart => exact ⟨0, Nat.zero_le _, rfl, Below.refl _ _, fun j hj => absurd hj (by omega)⟩
  case round =>
    obtain ⟨k, hk, rfl, HB, HA⟩ := hrel
    by_cases hlt : k < n
    · have hlti : (k : Int) < (n : Int) := by omega
      have hcall := HP.out k wr hlt HB.out
      obtain ⟨ad, rfl, hc⟩ := (HR.out.below HB.out).2 k hlt
      rcases hq : p k with _ | _
      · rw [hq] at hcall
        have HQ := Lib.hid hq
        clear hq
        go_wp2_with (go_at_fn g; refine hcall.mono ?_; rintro e w' ⟨rfl, hb'⟩)
        go_roundw
        case rel =>
          refine ⟨k + 1, by omega, by go_num, HB.out.trans (hb'.mono HB.out.size), fun j hj => ?_⟩
          by_cases e : j = k
          · rw [e]; exact HQ.out
          · exact HA.out j (by omega)
        case measure => first|(simp [intOf]; done)|(simp [intOf]; omega)
      · rw [hq] at hcall
        have HQ := Lib.hid (idx_hit HA.out hq hlt)
        clear hq
        go_wp2_with (go_at_fn g; refine hcall.mono ?_; rintro e w' ⟨rfl, hb'⟩)
        go_ret
        exact ⟨ret_int HQ.out.symm, HB.out.trans (hb'.mono HB.out.size)⟩
    · obtain rfl : k = n := by omega
      have HQ := Lib.hid (idx_none HA.out)
      go_wp2
      go_ret
      exact ⟨ret_int HQ.out.symm, HB.out⟩


set_option maxHeartbeats 1000000 in
theorem containsFuncW_ok (g : Nat) (lb : Array Value) (eg : ∀ args w, (callFunc g args).run Try.prog w = .ok (.enter g args) w) (A : Option Addr) (n c : Nat) (el : Nat → Value) (p : Nat → Bool) (w : World) (hr : Raw w A n el) (hp : PredB Try.prog g lb n el p w) :
    Calls Try.prog 58 #[.slice A n c, .func (.func g) #[] lb] w fun e w' => e = .returned (.bool (anyB p n)) ∧ Below w.heap.size w w' := by
  have HR := Lib.hid hr
  have HP := Lib.hid hp
  clear hr hp
  have HS := Lib.hid (idx_any p n)
  go_enter Try.func58, Try.ntmps58
  go_wp2_with (go_at_call 105; refine (indexFuncW_ok g lb eg A n c el p w HR.out HP.out).mono ?_; rintro e w' ⟨rfl, hb'⟩)
  go_ret
  exact ⟨ret_bool HS.out, hb'⟩

set_option maxHeartbeats 1000000 in
theorem containsFuncU8_ok (g : Nat) (lb : Array Value) (eg : ∀ args w, (callFunc g args).run Try.prog w = .ok (.enter g args) w) (A : Option Addr) (n c : Nat) (el : Nat → Value) (p : Nat → Bool) (w : World) (hr : Raw w A n el) (hp : PredB Try.prog g lb n el p w) :
    Calls Try.prog 108 #[.slice A n c, .func (.func g) #[] lb] w fun e w' => e = .returned (.bool (anyB p n)) ∧ Below w.heap.size w w' := by
  have HR := Lib.hid hr
  have HP := Lib.hid hp
  clear hr hp
  have HS := Lib.hid (idx_any p n)
  go_enter Try.func108, Try.ntmps108
  go_wp2_with (go_at_call 129; refine (indexFuncU8_ok g lb eg A n c el p w HR.out HP.out).mono ?_; rintro e w' ⟨rfl, hb'⟩)
  go_ret
  exact ⟨ret_bool HS.out, hb'⟩

end Go.Proofs.Ytjadhhnajphibaa
