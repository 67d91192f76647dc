/- Sights and flags that are valid: the program's. -/
import Derived.Test.YtjadhhnajphibaaV5
set_option linter.unusedVariables false
set_option linter.unusedSimpArgs false
namespace Go.Proofs.Ytjadhhnajphibaa
open Go.RowKit Go.Proofs.YtjadhhnajphibaaW.PrintWords

set_option maxHeartbeats 1000000 in
theorem indexFunc8_ok (g : Nat) (lb : Array Value) (eg : ∀ args w, (callFunc g args).run Try.prog w = .ok (.enter g args) w) (A : Option Addr) (n c : Nat) (el : Nat → Value) (p : Nat → Bool) (w : World) (hr : Raw w A n el) (hp : PredB Try.prog g lb n el p w) :
    Calls Try.prog 134 #[.slice A n c, .func (.func g) #[] lb] w fun e w' => e = .returned (.int .i64 (idx p n)) ∧ Below w.heap.size w w' := by
  have hm := hr.1
  have HR := Lib.hid hr
  have HP := Lib.hid hp
  clear hr hp
  go_enter Try.func134, Try.ntmps134
  go_wp2
  go_loopw [5, 8] (fun _ i wr => ∃ k : Nat, k ≤ n ∧ i = .int .i64 k ∧ Hid (Below w.heap.size w wr) ∧ Hid (∀ j, j < k → p j = false)) (fun _ i _ => n - (intOf i).toNat)
  case atStart => exact ⟨0, Nat.zero_le _, rfl, Below.refl _ _, fun j hj => absurd hj (by omega)⟩
  case round =>
    obtain ⟨k, hk, rfl, HB, HA⟩ := hrel
    by_cases hlt : k < n
    · have hlti : (k : Int) < (n : Int) := by omega
      have hcall := HP.out k wr hlt HB.out
      obtain ⟨ad, rfl, hc⟩ := (HR.out.below HB.out).2 k hlt
      rcases hq : p k with _ | _
      · rw [hq] at hcall
        have HQ := Lib.hid hq
        clear hq
        go_wp2_with (go_at_fn g; refine hcall.mono ?_; rintro e w' ⟨rfl, hb'⟩)
        go_roundw
        case rel =>
          refine ⟨k + 1, by omega, by go_num, HB.out.trans (hb'.mono HB.out.size), fun j hj => ?_⟩
          by_cases e : j = k
          · rw [e]; exact HQ.out
          · exact HA.out j (by omega)
        case measure => first|(simp [intOf]; done)|(simp [intOf]; omega)
      · rw [hq] at hcall
        have HQ := Lib.hid (idx_hit HA.out hq hlt)
        clear hq
        go_wp2_with (go_at_fn g; refine hcall.mono ?_; rintro e w' ⟨rfl, hb'⟩)
        go_ret
        exact ⟨ret_int HQ.out.symm, HB.out.trans (hb'.mono HB.out.size)⟩
    · obtain rfl : k = n := by omega
      have HQ := Lib.hid (idx_none HA.out)
      go_wp2
      go_ret
      exact ⟨ret_int HQ.out.symm, HB.out⟩

set_option maxHeartbeats 1000000 in
theorem containsFunc8_ok (g : Nat) (lb : Array Value) (eg : ∀ args w, (callFunc g args).run Try.prog w = .ok (.enter g args) w) (A : Option Addr) (n c : Nat) (el : Nat → Value) (p : Nat → Bool) (w : World) (hr : Raw w A n el) (hp : PredB Try.prog g lb n el p w) :
    Calls Try.prog 121 #[.slice A n c, .func (.func g) #[] lb] w fun e w' => e = .returned (.bool (anyB p n)) ∧ Below w.heap.size w w' := by
  have HR := Lib.hid hr
  have HP := Lib.hid hp
  clear hr hp
  have HS := Lib.hid (idx_any p n)
  go_enter Try.func121, Try.ntmps121
  go_wp2_with (go_at_call 134; refine (indexFunc8_ok g lb eg A n c el p w HR.out HP.out).mono ?_; rintro e w' ⟨rfl, hb'⟩)
  go_ret
  exact ⟨ret_bool HS.out, hb'⟩

set_option maxHeartbeats 1000000 in
theorem indexFuncF_ok (g : Nat) (lb : Array Value) (eg : ∀ args w, (callFunc g args).run Try.prog w = .ok (.enter g args) w) (A : Option Addr) (c : Nat) (fs : List (List Int)) (p : Nat → Bool) (w : World) (hr : (Karr 24).C w A fs.length fs) (hp : PredB Try.prog g lb fs.length (fun k => av (rl fs k)) p w) :
    Calls Try.prog 139 #[.slice A fs.length c, .func (.func g) #[] lb] w fun e w' => e = .returned (.int .i64 (idx p fs.length)) ∧ Below w.heap.size w w' := by
  have hm : fs.length ≤ 9223372036854775807 := hr.2.1
  have HR := Lib.hid hr
  have HP := Lib.hid hp
  clear hr hp
  go_enter Try.func139, Try.ntmps139
  go_wp2
  go_loopw [5, 8] (fun _ i wr => ∃ k : Nat, k ≤ fs.length ∧ i = .int .i64 k ∧ Hid (Below w.heap.size w wr) ∧ Hid (∀ j, j < k → p j = false)) (fun _ i _ => fs.length - (intOf i).toNat)
  case atStart => exact ⟨0, Nat.zero_le _, rfl, Below.refl _ _, fun j hj => absurd hj (by omega)⟩
  case round =>
    obtain ⟨k, hk, rfl, HB, HA⟩ := hrel
    by_cases hlt : k < fs.length
    · have hlti : (k : Int) < (fs.length : Int) := by omega
      have hcall := HP.out k wr hlt HB.out
      obtain ⟨ad, rfl, hlk, hck⟩ := at_arr (C_below' HR.out HB.out) hlt
      have HLK := Lib.hid hlk
      have HCK := Lib.hid hck
      unfold av at hcall
      clear hlk hck
      rcases hq : p k with _ | _
      · rw [hq] at hcall
        have HQ := Lib.hid hq
        clear hq
        go_wp2_with (first | (refine load_agg rfl 78 (.tmp 14) rfl (ad.add (k * 24)) rfl (nums .u8 (rl fs k)) _ HCK.out Try.underlying78 rfl (by rw [nums_length, HLK.out]; exact ainfo_flag) ?_) | (go_at_fn g; refine hcall.mono ?_; rintro e w' ⟨rfl, hb'⟩))
        go_roundw
        case rel =>
          refine ⟨k + 1, by omega, by go_num, HB.out.trans (hb'.mono HB.out.size), fun j hj => ?_⟩
          by_cases e : j = k
          · rw [e]; exact HQ.out
          · exact HA.out j (by omega)
        case measure => first|(simp [intOf]; done)|(simp [intOf]; omega)
      · rw [hq] at hcall
        have HQ := Lib.hid (idx_hit HA.out hq hlt)
        clear hq
        go_wp2_with (first | (refine load_agg rfl 78 (.tmp 14) rfl (ad.add (k * 24)) rfl (nums .u8 (rl fs k)) _ HCK.out Try.underlying78 rfl (by rw [nums_length, HLK.out]; exact ainfo_flag) ?_) | (go_at_fn g; refine hcall.mono ?_; rintro e w' ⟨rfl, hb'⟩))
        go_ret
        exact ⟨ret_int HQ.out.symm, HB.out.trans (hb'.mono HB.out.size)⟩
    · obtain rfl : k = fs.length := by omega
      have HQ := Lib.hid (idx_none HA.out)
      go_wp2
      go_ret
      exact ⟨ret_int HQ.out.symm, HB.out⟩

set_option maxHeartbeats 1000000 in
theorem indexFuncS_ok (g : Nat) (lb : Array Value) (eg : ∀ args w, (callFunc g args).run Try.prog w = .ok (.enter g args) w) (A : Option Addr) (c : Nat) (fs : List (List Int)) (p : Nat → Bool) (w : World) (hr : (Karr 6).C w A fs.length fs) (hp : PredB Try.prog g lb fs.length (fun k => av (rl fs k)) p w) :
    Calls Try.prog 133 #[.slice A fs.length c, .func (.func g) #[] lb] w fun e w' => e = .returned (.int .i64 (idx p fs.length)) ∧ Below w.heap.size w w' := by
  have hm : fs.length ≤ 9223372036854775807 := hr.2.1
  have HR := Lib.hid hr
  have HP := Lib.hid hp
  clear hr hp
  go_enter Try.func133, Try.ntmps133
  go_wp2
  go_loopw [5, 8] (fun _ i wr => ∃ k : Nat, k ≤ fs.length ∧ i = .int .i64 k ∧ Hid (Below w.heap.size w wr) ∧ Hid (∀ j, j < k → p j = false)) (fun _ i _ => fs.length - (intOf i).toNat)
  case atStart => exact ⟨0, Nat.zero_le _, rfl, Below.refl _ _, fun j hj => absurd hj (by omega)⟩
  case round =>
    obtain ⟨k, hk, rfl, HB, HA⟩ := hrel
    by_cases hlt : k < fs.length
    · have hlti : (k : Int) < (fs.length : Int) := by omega
      have hcall := HP.out k wr hlt HB.out
      obtain ⟨ad, rfl, hlk, hck⟩ := at_arr (C_below' HR.out HB.out) hlt
      have HLK := Lib.hid hlk
      have HCK := Lib.hid hck
      unfold av at hcall
      clear hlk hck
      rcases hq : p k with _ | _
      · rw [hq] at hcall
        have HQ := Lib.hid hq
        clear hq
        go_wp2_with (first | (refine load_agg rfl 72 (.tmp 14) rfl (ad.add (k * 6)) rfl (nums .u8 (rl fs k)) _ HCK.out Try.underlying72 rfl (by rw [nums_length, HLK.out]; exact ainfo_sight) ?_) | (go_at_fn g; refine hcall.mono ?_; rintro e w' ⟨rfl, hb'⟩))
        go_roundw
        case rel =>
          refine ⟨k + 1, by omega, by go_num, HB.out.trans (hb'.mono HB.out.size), fun j hj => ?_⟩
          by_cases e : j = k
          · rw [e]; exact HQ.out
          · exact HA.out j (by omega)
        case measure => first|(simp [intOf]; done)|(simp [intOf]; omega)
      · rw [hq] at hcall
        have HQ := Lib.hid (idx_hit HA.out hq hlt)
        clear hq
        go_wp2_with (first | (refine load_agg rfl 72 (.tmp 14) rfl (ad.add (k * 6)) rfl (nums .u8 (rl fs k)) _ HCK.out Try.underlying72 rfl (by rw [nums_length, HLK.out]; exact ainfo_sight) ?_) | (go_at_fn g; refine hcall.mono ?_; rintro e w' ⟨rfl, hb'⟩))
        go_ret
        exact ⟨ret_int HQ.out.symm, HB.out.trans (hb'.mono HB.out.size)⟩
    · obtain rfl : k = fs.length := by omega
      have HQ := Lib.hid (idx_none HA.out)
      go_wp2
      go_ret
      exact ⟨ret_int HQ.out.symm, HB.out⟩

set_option maxHeartbeats 1000000 in
theorem containsFuncF_ok (g : Nat) (lb : Array Value) (eg : ∀ args w, (callFunc g args).run Try.prog w = .ok (.enter g args) w) (A : Option Addr) (c : Nat) (fs : List (List Int)) (p : Nat → Bool) (w : World) (hr : (Karr 24).C w A fs.length fs) (hp : PredB Try.prog g lb fs.length (fun k => av (rl fs k)) p w) :
    Calls Try.prog 124 #[.slice A fs.length c, .func (.func g) #[] lb] w fun e w' => e = .returned (.bool (anyB p fs.length)) ∧ Below w.heap.size w w' := by
  have HR := Lib.hid hr
  have HP := Lib.hid hp
  clear hr hp
  have HS := Lib.hid (idx_any p fs.length)
  go_enter Try.func124, Try.ntmps124
  go_wp2_with (go_at_call 139; refine (indexFuncF_ok g lb eg A c fs p w HR.out HP.out).mono ?_; rintro e w' ⟨rfl, hb'⟩)
  go_ret
  exact ⟨ret_bool HS.out, hb'⟩

set_option maxHeartbeats 1000000 in
theorem containsFuncS_ok (g : Nat) (lb : Array Value) (eg : ∀ args w, (callFunc g args).run Try.prog w = .ok (.enter g args) w) (A : Option Addr) (c : Nat) (fs : List (List Int)) (p : Nat → Bool) (w : World) (hr : (Karr 6).C w A fs.length fs) (hp : PredB Try.prog g lb fs.length (fun k => av (rl fs k)) p w) :
    Calls Try.prog 119 #[.slice A fs.length c, .func (.func g) #[] lb] w fun e w' => e = .returned (.bool (anyB p fs.length)) ∧ Below w.heap.size w w' := by
  have HR := Lib.hid hr
  have HP := Lib.hid hp
  clear hr hp
  have HS := Lib.hid (idx_any p fs.length)
  go_enter Try.func119, Try.ntmps119
  go_wp2_with (go_at_call 133; refine (indexFuncS_ok g lb eg A c fs p w HR.out HP.out).mono ?_; rintro e w' ⟨rfl, hb'⟩)
  go_ret
  exact ⟨ret_bool HS.out, hb'⟩

end Go.Proofs.Ytjadhhnajphibaa
