/- Sights, flags and sets that are valid: the program's. -/
import Derived.Test.YtjadhhnajphibaaV6
set_option linter.unusedVariables false
set_option linter.unusedSimpArgs false
namespace Go.Proofs.Ytjadhhnajphibaa
open Go.RowKit Go.Proofs.YtjadhhnajphibaaW.PrintWords

theorem five_six (x : Int) : decide (6 ≤ x) = decide (5 < x) := by rw [Bool.eq_iff_iff]; simp; omega
theorem okF_any {f : List Int} : (!anyB (fun i => decide (6 ≤ rn f i)) f.length) = okF f := by
  rw [allB_not]
  exact allB_congr fun i _ => by rw [five_six]

theorem areSights11_ok (c : Int) (w : World) : Calls Try.prog 122 #[.int .u8 c] w fun e w' => e = .returned (.bool (decide (6 ≤ c))) ∧ w = w' := by
  go_enter Try.func122, Try.ntmps122
  go_wp2
  go_ret
  exact ⟨rfl, rfl⟩

theorem validFlag1_ok (c : Int) (w : World) : Calls Try.prog 127 #[.int .u8 c] w fun e w' => e = .returned (.bool (decide (6 ≤ c))) ∧ w = w' := by
  go_enter Try.func127, Try.ntmps127
  go_wp2
  go_ret
  exact ⟨rfl, rfl⟩


theorem raw_box {w : World} {g t : Nat} {xs : List Int} (h : NB .u8 w g t xs) (hm : xs.length ≤ 9223372036854775807) : Raw w (some ⟨g, 0, none⟩) xs.length (fun k => .int .u8 (rn xs k)) := raw_int (h.nums_read hm)

set_option maxRecDepth 100000 in
set_option maxHeartbeats 2000000 in
theorem areSights1_ok (f : List Int) (hf : f.length = 6) (w : World) : Calls Try.prog 120 #[av f] w fun e w' => e = .returned (.bool (!okF f)) ∧ Below w.heap.size w w' := by
  have HB := Lib.hid (NB.new (kd := .u8) w 72 f)
  have hr := raw_box HB.out (by omega)
  have HP : Hid (PredB Try.prog 122 #[] f.length (fun k => .int .u8 (rn f k)) (fun i => decide (6 ≤ rn f i)) (w.alloc (.cells (nums .u8 f).toArray 72))) := by
    intro k W hk hb
    exact (areSights11_ok (rn f k) W).mono fun e w' ⟨he, hw⟩ => ⟨he, by rw [← hw]; exact Below.refl _ _⟩
  have eg : ∀ args w, (callFunc 122 args).run Try.prog w = .ok (.enter 122 args) w := enters_of Try.func122 (by kernel_rfl) rfl
  have hc := containsFunc8_ok _ _ eg (some ⟨w.heap.size, 0, none⟩) f.length f.length _ _ _ hr HP.out
  rw [hf] at hc
  have HC := Lib.hid hc
  have HS := Lib.hid (okF_any (f := f))
  have HBX := Lib.hid (below_box w (.cells (nums .u8 f).toArray 72))
  have hsz := size_box w (.cells (nums .u8 f).toArray 72)
  have HF := Lib.hid hf
  rw [hf] at HS
  clear hr HP eg hc hf
  unfold av
  go_enter Try.func120, Try.ntmps120
  go_wp2_with (go_at_call 121; refine HC.out.mono ?_; rintro e w' ⟨rfl, hb'⟩)
  go_ret
  exact ⟨ret_bool (by rw [← HS.out, Bool.not_not]), HBX.out.trans (hb'.mono (by rw [hsz]; omega))⟩

set_option maxRecDepth 100000 in
set_option maxHeartbeats 2000000 in
theorem ValidFlag_ok (f : List Int) (hf : f.length = 24) (w : World) : Calls Try.prog 103 #[av f] w fun e w' => e = .returned (.bool (okF f)) ∧ Below w.heap.size w w' := by
  have HB := Lib.hid (NB.new (kd := .u8) w 78 f)
  have hr := raw_box HB.out (by omega)
  have HP : Hid (PredB Try.prog 127 #[] f.length (fun k => .int .u8 (rn f k)) (fun i => decide (6 ≤ rn f i)) (w.alloc (.cells (nums .u8 f).toArray 78))) := by
    intro k W hk hb
    exact (validFlag1_ok (rn f k) W).mono fun e w' ⟨he, hw⟩ => ⟨he, by rw [← hw]; exact Below.refl _ _⟩
  have eg : ∀ args w, (callFunc 127 args).run Try.prog w = .ok (.enter 127 args) w := enters_of Try.func127 (by kernel_rfl) rfl
  have hc := containsFunc8_ok _ _ eg (some ⟨w.heap.size, 0, none⟩) f.length f.length _ _ _ hr HP.out
  rw [hf] at hc
  have HC := Lib.hid hc
  have HS := Lib.hid (okF_any (f := f))
  have HBX := Lib.hid (below_box w (.cells (nums .u8 f).toArray 78))
  have hsz := size_box w (.cells (nums .u8 f).toArray 78)
  have HF := Lib.hid hf
  rw [hf] at HS
  clear hr HP eg hc hf
  unfold av
  go_enter Try.func103, Try.ntmps103
  go_wp2_with (go_at_call 121; refine HC.out.mono ?_; rintro e w' ⟨rfl, hb'⟩)
  go_ret
  exact ⟨ret_bool (HS.out), HBX.out.trans (hb'.mono (by rw [hsz]; omega))⟩


set_option maxRecDepth 100000 in
set_option maxHeartbeats 2000000 in
theorem setCode1_ok (f : List Int) (hf : f.length = 24) (w : World) : Calls Try.prog 125 #[av f] w fun e w' => e = .returned (.bool (!okF f)) ∧ Below w.heap.size w w' := by
  have HB := Lib.hid (NB.new (kd := .u8) w 78 f)
  have HC := Lib.hid (ValidFlag_ok f hf (w.alloc (.cells (nums .u8 f).toArray 78)))
  have HBX := Lib.hid (below_box w (.cells (nums .u8 f).toArray 78))
  have HF := Lib.hid hf
  have hsz := size_box w (.cells (nums .u8 f).toArray 78)
  clear hf
  unfold av at HC
  unfold av
  go_enter Try.func125, Try.ntmps125
  go_wp2_with (first | (refine load_agg rfl 78 (.tmp 1) rfl ⟨w.heap.size, 0, none⟩ rfl (nums .u8 f) _ HB.out.range Try.underlying78 rfl (by rw [nums_length, HF.out]; exact ainfo_flag) ?_) | (go_at_call 103; refine HC.out.mono ?_; rintro e w' ⟨rfl, hb'⟩))
  go_ret
  exact ⟨rfl, HBX.out.trans (hb'.mono (by rw [hsz]; omega))⟩

def okFs (fs : List (List Int)) : Bool := allB (fun i => okF (rl fs i)) fs.length
theorem badFlags_ok (A : Option Addr) (c : Nat) (fs : List (List Int)) (w : World) (h0 : (Karr 24).C w A fs.length fs) (eg : ∀ args w, (callFunc 125 args).run Try.prog w = .ok (.enter 125 args) w := enters_of Try.func125 (by kernel_rfl) rfl) :
    Calls Try.prog 124 #[.slice A fs.length c, .func (.func 125) #[] #[]] w fun e w' => e = .returned (.bool (!okFs fs)) ∧ Below w.heap.size w w' := by
  have HP : PredB Try.prog 125 #[] fs.length (fun k => av (rl fs k)) (fun i => !okF (rl fs i)) w := by
    intro k W hk hb
    exact setCode1_ok (rl fs k) ((C_lens h0).2 k hk) W
  have hc := containsFuncF_ok _ _ eg A c fs _ _ h0 HP
  have hs : anyB (fun i => !okF (rl fs i)) fs.length = !okFs fs := by
    have h1 : (!anyB (fun i => !okF (rl fs i)) fs.length) = okFs fs := by
      rw [allB_not]
      unfold okFs
      exact allB_congr fun i _ => by rw [Bool.not_not]
    rw [← h1, Bool.not_not]
  rwa [hs] at hc

theorem badSights_ok (A : Option Addr) (c : Nat) (fs : List (List Int)) (w : World) (h0 : (Karr 6).C w A fs.length fs) (eg : ∀ args w, (callFunc 120 args).run Try.prog w = .ok (.enter 120 args) w := enters_of Try.func120 (by kernel_rfl) rfl) :
    Calls Try.prog 119 #[.slice A fs.length c, .func (.func 120) #[] #[]] w fun e w' => e = .returned (.bool (!okS fs)) ∧ Below w.heap.size w w' := by
  have HP : PredB Try.prog 120 #[] fs.length (fun k => av (rl fs k)) (fun i => !okF (rl fs i)) w := by
    intro k W hk hb
    exact areSights1_ok (rl fs k) ((C_lens h0).2 k hk) W
  have hc := containsFuncS_ok _ _ eg A c fs _ _ h0 HP
  have hs : anyB (fun i => !okF (rl fs i)) fs.length = !okS fs := by
    have h1 : (!anyB (fun i => !okF (rl fs i)) fs.length) = okS fs := by
      rw [allB_not]
      unfold okS
      exact allB_congr fun i _ => by rw [Bool.not_not]
    rw [← h1, Bool.not_not]
  rwa [hs] at hc


set_option maxHeartbeats 2000000 in
theorem areSights_ok (A : Option Addr) (c : Nat) (ss : List (List Int)) (w : World) (h0 : (Karr 6).C w A ss.length ss) :
    Calls Try.prog 93 #[.slice A ss.length c] w fun e w' => e = .returned (.bool (okS ss)) ∧ Below w.heap.size w w' := by
  have HC := Lib.hid (badSights_ok A c ss w h0)
  clear h0
  go_enter Try.func93, Try.ntmps93
  go_wp2_with (go_at_call 119; refine HC.out.mono ?_; rintro e w' ⟨rfl, hb'⟩)
  go_ret
  exact ⟨rfl, hb'⟩

theorem sizeFlag_ok (A0 : Option Addr) (c0 n : Nat) (w : World) (hn : n ≤ 9223372036854775807) : Calls Try.prog 99 #[.slice A0 n c0] w fun e w' => e = .returned (.int .i64 n) ∧ w = w' := by
  go_enter Try.func99, Try.ntmps99
  go_wp2
  go_ret
  exact ⟨rfl, rfl⟩

def setV (fs : List (List Int)) (least : Int) : Int := if okFs fs then (if 40 < fs.length then 3 else unlessV (inB least 0 6) 2) else 1
set_option maxHeartbeats 2000000 in
theorem setCode_ok (A : Option Addr) (c : Nat) (fs : List (List Int)) (least : Int) (w : World) (h0 : (Karr 24).C w A fs.length fs) :
    Calls Try.prog 97 #[.slice A fs.length c, .int .i64 least] w fun e w' => e = .returned (.int .i64 (setV fs least)) ∧ Below w.heap.size w w' := by
  have hm : fs.length ≤ 9223372036854775807 := h0.2.1
  have HC := Lib.hid (badFlags_ok A c fs w h0)
  have HV : Hid (setV fs least = if okFs fs then (if 40 < fs.length then 3 else unlessV (inB least 0 6) 2) else 1) := rfl
  clear h0
  rcases ho : okFs fs with _ | _
  · have HS := Lib.hid (show setV fs least = 1 by rw [HV.out, ho]; rfl)
    rw [ho] at HC
    clear ho
    go_enter Try.func97, Try.ntmps97
    go_wp2_with (go_at_call 124; refine HC.out.mono ?_; rintro e w' ⟨rfl, hb'⟩)
    go_ret
    exact ⟨ret_int HS.out.symm, hb'⟩
  · rw [ho] at HC
    by_cases h4 : 40 < fs.length
    · have HS := Lib.hid (show setV fs least = 3 by rw [HV.out, ho]; simp [h4])
      have h4i : (40 : Int) < (fs.length : Int) := by omega
      clear ho
      go_enter Try.func97, Try.ntmps97
      go_wp2_with (go_at_call 124; refine HC.out.mono ?_; rintro e w' ⟨rfl, hb'⟩)
      go_ret
      exact ⟨ret_int HS.out.symm, hb'⟩
    · have HS := Lib.hid (show setV fs least = unlessV (inB least 0 6) 2 by rw [HV.out, ho]; simp [h4])
      have h4i : ¬ (40 : Int) < (fs.length : Int) := by omega
      clear ho
      go_enter Try.func97, Try.ntmps97
      go_wp2_with (first | (go_at_call 124; refine HC.out.mono ?_; rintro e w' ⟨rfl, hb'⟩) | (go_at_call 54; refine (within_ok _ _ _ _).mono ?_; rintro e w' ⟨rfl, rfl⟩) | (go_at_call 53; refine (unless_ok _ _ _).mono ?_; rintro e w' ⟨rfl, rfl⟩))
      go_ret
      exact ⟨ret_int HS.out.symm, hb'⟩
end Go.Proofs.Ytjadhhnajphibaa
