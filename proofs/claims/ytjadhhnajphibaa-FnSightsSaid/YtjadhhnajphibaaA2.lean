/- Copies of rows of arrays. -/
import Derived.Test.YtjadhhnajphibaaA1
set_option linter.unusedVariables false
set_option linter.unusedSimpArgs false
namespace Go.Proofs.Ytjadhhnajphibaa
open Go.RowKit Go.Proofs.YtjadhhnajphibaaW.PrintWords

theorem uinfo_flag : (Try.prog.info? 78).map (fun i => (i.zero, i.size, i.bytes)) = some (some (av (List.replicate 24 0)), 24, 24) := by kernel_rfl
theorem uinfo_sight : (Try.prog.info? 72).map (fun i => (i.zero, i.size, i.bytes)) = some (some (av (List.replicate 6 0)), 6, 6) := by kernel_rfl
theorem ainfo_flag' : (Try.prog.info? 77).map (·.size) = some 24 := by kernel_rfl
theorem ainfo_sight' : (Try.prog.info? 71).map (·.size) = some 6 := by kernel_rfl
theorem rn_rep (k i : Nat) : rn (List.replicate k 0) i = 0 := by
  by_cases h : i < k
  · simp [rn, List.getD_eq_getElem?_getD, List.getElem?_replicate, h]
  · simp [rn, List.getD_eq_getElem?_getD, List.getElem?_replicate, h]
/-- what has been copied behind k rounds. -/
def flatTo (fs : List (List Int)) (n k : Nat) : List Int := flat (fs.take k) ++ List.replicate ((fs.length - k) * n) 0
theorem flatTo_zero (fs : List (List Int)) (n : Nat) : flatTo fs n 0 = List.replicate (fs.length * n) 0 := by simp [flatTo, flat]
theorem flatTo_all (fs : List (List Int)) (n : Nat) : flatTo fs n fs.length = flat fs := by simp [flatTo]
theorem flatTo_length {fs : List (List Int)} {n k : Nat} (h : ∀ f ∈ fs, f.length = n) (hk : k ≤ fs.length) : (flatTo fs n k).length = fs.length * n := by
  unfold flatTo
  rw [List.length_append, flat_length (n := n) (fun f hf => h f (List.mem_of_mem_take hf)), List.length_replicate, List.length_take, Nat.min_eq_left hk, ← Nat.add_mul]
  congr 1
  omega
theorem flatTo_step {fs : List (List Int)} {n k : Nat} (h : ∀ f ∈ fs, f.length = n) (hk : k < fs.length) :
    (flatTo fs n k).take (k * n) ++ rl fs k ++ (flatTo fs n k).drop (k * n + n) = flatTo fs n (k + 1) := by
  have hl : (flat (fs.take k)).length = k * n := by rw [flat_length (n := n) (fun f hf => h f (List.mem_of_mem_take hf)), List.length_take, Nat.min_eq_left (by omega)]
  have h1 : fs.take (k + 1) = fs.take k ++ [rl fs k] := by
    rw [List.take_succ_eq_append_getElem hk]
    simp [rl, List.getD_eq_getElem?_getD, hk]
  unfold flatTo
  rw [h1, flat_snoc, List.take_left' hl, List.drop_append, List.drop_of_length_le (by omega), List.nil_append, List.drop_replicate, hl]
  congr 2
  have : fs.length - k = (fs.length - (k + 1)) + 1 := by omega
  rw [this, Nat.add_mul, Nat.one_mul]
  omega

set_option maxRecDepth 100000 in
set_option maxHeartbeats 2000000 in
theorem toFlagS_ok (A : Option Addr) (c : Nat) (fs : List (List Int)) (w : World) (hn : fs.length ≤ 1048576) (h0 : (Karr 24).C w A fs.length fs) :
    Calls Try.prog 81 #[.slice A fs.length c] w fun e w' => ∃ g, e = .returned (.slice (some ⟨g, 0, none⟩) fs.length fs.length) ∧ w.heap.size ≤ g ∧ g < w'.heap.size ∧ NB .u8 w' g 78 (flat fs) ∧ (∀ f ∈ fs, f.length = 24) ∧ Below w.heap.size w w' := by
  have hlens := lens_of (C_lens h0).2
  have HL := Lib.hid hlens
  have HC := Lib.hid h0
  have hmk := make_arr (P := Try.prog) 44 78 (List.replicate 24 0) 24 Try.underlying44 uinfo_flag (by simp) (rn_rep _) fs.length (by omega) (by omega)
  have hm : fs.length ≤ 9223372036854775807 := by omega
  clear hlens h0
  go_enter Try.func81, Try.ntmps81
  go_wp2
  clear hmk
  have H1 := Lib.hid (NB.new (kd := .u8) w 78 (List.replicate (fs.length * 24) 0))
  have HB := Lib.hid (below_box w (.cells (nums .u8 (List.replicate (fs.length * 24) 0)).toArray 78))
  generalize w.alloc (.cells (nums .u8 (List.replicate (fs.length * 24) 0)).toArray 78) = W0 at *
  rw [← flatTo_zero] at H1
  go_loopw [4] (fun i wr => ∃ k : Nat, k ≤ fs.length ∧ i = .int .i64 k ∧ Hid (NB .u8 wr w.heap.size 78 (flatTo fs 24 k)) ∧ Hid (Below w.heap.size w wr)) (fun i _ => fs.length - (intOf i).toNat)
  case atStart => exact ⟨0, by omega, rfl, H1, HB⟩
  case round =>
    clear H1 HB
    obtain ⟨k, hk, rfl, H1, HB⟩ := hrel
    by_cases hlt : k < fs.length
    · obtain ⟨ad, rfl, hlk, hcell⟩ := at_arr (C_below' HC.out HB.out) hlt
      have HCELL := Lib.hid hcell
      have HLK := Lib.hid hlk
      have hlti : (k : Int) < (fs.length : Int) := by omega
      clear hcell hlk
      go_wp2_with (first | (refine load_agg rfl 77 (.tmp 18) rfl (ad.add (k * 24)) rfl (nums .u8 (rl fs k)) _ HCELL.out Try.underlying77 rfl (by rw [nums_length, HLK.out]; exact ainfo_flag') ?_) | (go_at_call 113; refine (toFlag_ok (rl fs k) HLK.out _).mono ?_; rintro e w1 ⟨rfl, hb1⟩; have H2 := Lib.hid (H1.out.below hb1); have HB2 := Lib.hid (HB.out.trans (hb1.mono HB.out.size)); clear hb1) | (unfold av; refine wpList_store_mid rfl 78 (.tmp 21) (.tmp 20) rfl w.heap.size (k * 24) (nums .u8 (rl fs k)).toArray rfl rfl (NB.there_mid H2.out (by rw [flatTo_length HL.out hk]; simp only [List.size_toArray, nums_length, HLK.out]; omega)) (by simp only [List.size_toArray, nums_length, HLK.out]; exact ainfo_flag) (all_oneCell_toArray (nums_one _ _)) ?_))
      go_roundw
      case rel =>
        refine ⟨k + 1, by omega, by go_num, ?_, setCells_below HB2.out (Nat.le_refl _) _ _⟩
        rw [← flatTo_step HL.out hlt]
        have h3 := NB.mid H2.out (o := k * 24) (ys := rl fs k) (by rw [flatTo_length HL.out hk, HLK.out]; omega)
        rw [HLK.out] at h3
        exact h3
      case measure => first|(simp [intOf]; done)|(simp [intOf]; omega)
    · have ek : k = fs.length := by omega
      subst ek
      have h1 := H1.out
      rw [flatTo_all] at h1
      have H1' := Lib.hid h1
      clear h1 H1
      go_wp2
      go_ret
      exact ⟨_, rfl, Nat.le_refl _, H1'.out.lt, H1'.out, HL.out, HB.out⟩

set_option maxRecDepth 100000 in
set_option maxHeartbeats 2000000 in
theorem toSightS_ok (A : Option Addr) (c : Nat) (fs : List (List Int)) (w : World) (hn : fs.length ≤ 1048576) (h0 : (Karr 6).C w A fs.length fs) :
    Calls Try.prog 34 #[.slice A fs.length c] w fun e w' => ∃ g, e = .returned (.slice (some ⟨g, 0, none⟩) fs.length fs.length) ∧ w.heap.size ≤ g ∧ g < w'.heap.size ∧ NB .u8 w' g 72 (flat fs) ∧ (∀ f ∈ fs, f.length = 6) ∧ Below w.heap.size w w' := by
  have hlens := lens_of (C_lens h0).2
  have HL := Lib.hid hlens
  have HC := Lib.hid h0
  have hmk := make_arr (P := Try.prog) 50 72 (List.replicate 6 0) 6 Try.underlying50 uinfo_sight (by simp) (rn_rep _) fs.length (by omega) (by omega)
  have hm : fs.length ≤ 9223372036854775807 := by omega
  clear hlens h0
  go_enter Try.func34, Try.ntmps34
  go_wp2
  clear hmk
  have H1 := Lib.hid (NB.new (kd := .u8) w 72 (List.replicate (fs.length * 6) 0))
  have HB := Lib.hid (below_box w (.cells (nums .u8 (List.replicate (fs.length * 6) 0)).toArray 72))
  generalize w.alloc (.cells (nums .u8 (List.replicate (fs.length * 6) 0)).toArray 72) = W0 at *
  rw [← flatTo_zero] at H1
  go_loopw [4] (fun i wr => ∃ k : Nat, k ≤ fs.length ∧ i = .int .i64 k ∧ Hid (NB .u8 wr w.heap.size 72 (flatTo fs 6 k)) ∧ Hid (Below w.heap.size w wr)) (fun i _ => fs.length - (intOf i).toNat)
  case atStart => exact ⟨0, by omega, rfl, H1, HB⟩
  case round =>
    clear H1 HB
    obtain ⟨k, hk, rfl, H1, HB⟩ := hrel
    by_cases hlt : k < fs.length
    · obtain ⟨ad, rfl, hlk, hcell⟩ := at_arr (C_below' HC.out HB.out) hlt
      have HCELL := Lib.hid hcell
      have HLK := Lib.hid hlk
      have hlti : (k : Int) < (fs.length : Int) := by omega
      clear hcell hlk
      go_wp2_with (first | (refine load_agg rfl 71 (.tmp 18) rfl (ad.add (k * 6)) rfl (nums .u8 (rl fs k)) _ HCELL.out Try.underlying71 rfl (by rw [nums_length, HLK.out]; exact ainfo_sight') ?_) | (go_at_call 92; refine (toSight_ok (rl fs k) HLK.out _).mono ?_; rintro e w1 ⟨rfl, hb1⟩; have H2 := Lib.hid (H1.out.below hb1); have HB2 := Lib.hid (HB.out.trans (hb1.mono HB.out.size)); clear hb1) | (unfold av; refine wpList_store_mid rfl 72 (.tmp 21) (.tmp 20) rfl w.heap.size (k * 6) (nums .u8 (rl fs k)).toArray rfl rfl (NB.there_mid H2.out (by rw [flatTo_length HL.out hk]; simp only [List.size_toArray, nums_length, HLK.out]; omega)) (by simp only [List.size_toArray, nums_length, HLK.out]; exact ainfo_sight) (all_oneCell_toArray (nums_one _ _)) ?_))
      go_roundw
      case rel =>
        refine ⟨k + 1, by omega, by go_num, ?_, setCells_below HB2.out (Nat.le_refl _) _ _⟩
        rw [← flatTo_step HL.out hlt]
        have h3 := NB.mid H2.out (o := k * 6) (ys := rl fs k) (by rw [flatTo_length HL.out hk, HLK.out]; omega)
        rw [HLK.out] at h3
        exact h3
      case measure => first|(simp [intOf]; done)|(simp [intOf]; omega)
    · have ek : k = fs.length := by omega
      subst ek
      have h1 := H1.out
      rw [flatTo_all] at h1
      have H1' := Lib.hid h1
      clear h1 H1
      go_wp2
      go_ret
      exact ⟨_, rfl, Nat.le_refl _, H1'.out.lt, H1'.out, HL.out, HB.out⟩

end Go.Proofs.Ytjadhhnajphibaa
