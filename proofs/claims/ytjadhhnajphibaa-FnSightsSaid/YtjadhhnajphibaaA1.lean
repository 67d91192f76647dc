/- Copies of arrays, rows and codes: the laws' own. -/
import Derived.Test.YtjadhhnajphibaaB3
set_option linter.unusedVariables false
set_option linter.unusedSimpArgs false
namespace Go.Proofs.Ytjadhhnajphibaa
open Go.RowKit Go.Proofs.YtjadhhnajphibaaW.PrintWords

theorem ainfo_flag : (Try.prog.info? 78).map (·.size) = some 24 := by kernel_rfl

theorem ainfo_sight : (Try.prog.info? 72).map (·.size) = some 6 := by kernel_rfl

set_option maxRecDepth 100000 in
set_option maxHeartbeats 2000000 in
theorem toFlag_ok (f : List Int) (hf : f.length = 24) (w : World) :
    Calls Try.prog 113 #[av f] w fun e w' => e = .returned (av f) ∧ Below w.heap.size w w' := by
  unfold av
  have HF := Lib.hid hf
  go_enter Try.func113, Try.ntmps113
  go_wp2
  rw [nums_zero24]
  have hz : (List.replicate 24 (0 : Int)).length = 24 := by simp
  generalize List.replicate 24 (0 : Int) = zs at *
  have H1 := Lib.hid ((((NB.new (kd := .u8) w 77 f).alloc (.cells (nums .u8 zs).toArray 78)).alloc (.cells (nums .u8 zs).toArray 78)))
  have h2 := (NB.new (kd := .u8) (w.alloc (.cells (nums .u8 f).toArray 77)) 78 zs).alloc (.cells (nums .u8 zs).toArray 78)
  have h3 := NB.new (kd := .u8) ((w.alloc (.cells (nums .u8 f).toArray 77)).alloc (.cells (nums .u8 zs).toArray 78)) 78 zs
  rw [size_box] at h2
  rw [size_box, size_box] at h3
  have H2 := Lib.hid h2
  have H3 := Lib.hid h3
  have HB := Lib.hid (show Below w.heap.size w (((w.alloc (.cells (nums .u8 f).toArray 77)).alloc (.cells (nums .u8 zs).toArray 78)).alloc (.cells (nums .u8 zs).toArray 78)) from below_alloc (below_alloc (below_box _ _) _) _)
  clear h2 h3
  generalize ((w.alloc (.cells (nums .u8 f).toArray 77)).alloc (.cells (nums .u8 zs).toArray 78)).alloc (.cells (nums .u8 zs).toArray 78) = W0 at *
  have HZ := Lib.hid hz
  clear hz hf
  go_loopw [4] (fun i wr => ∃ k : Nat, k ≤ 24 ∧ i = .int .i64 k ∧ Hid (NB .u8 wr w.heap.size 77 f) ∧ Hid (NB .u8 wr (w.heap.size + 1) 78 zs) ∧ Hid (NB .u8 wr (w.heap.size + 1 + 1) 78 (f.take k ++ zs.drop k)) ∧ Hid (Below w.heap.size w wr)) (fun i _ => 24 - (intOf i).toNat)
  case atStart => exact ⟨0, by omega, rfl, H1, H2, by simpa using H3, HB⟩
  case round =>
    clear H1 H2 H3 HB
    obtain ⟨k, hk, rfl, H1, H2, H3, HB⟩ := hrel
    by_cases hlt : k < 24
    · have hc1 := H1.out.cell (i := k) (by rw [HF.out]; exact hlt)
      have hl3 : k < (f.take k ++ zs.drop k).length := by simp [HF.out, HZ.out]; omega
      have hc3 := H3.out.cell hl3
      have hf3 := H3.out.frozen k
      clear hl3
      go_wp2
      go_roundw
      case rel =>
        refine ⟨k + 1, by omega, by go_num, H1.out.far (by simp; omega) _, H2.out.far (by simp) _, ?_, set_below HB.out (by simp; omega) _⟩
        rw [← take_step (by rw [HF.out]; exact hlt) (by rw [HF.out, HZ.out])]
        exact H3.out.set k _
      case measure => first|(simp [intOf]; done)|(simp [intOf]; omega)
    · obtain rfl : k = 24 := by omega
      have h3 := H3.out
      rw [List.take_of_length_le (by rw [HF.out]; omega), List.drop_of_length_le (by rw [HZ.out]; omega), List.append_nil] at h3
      have H3' := Lib.hid h3
      clear H3 h3
      go_wp2_with (first | (refine load_agg rfl 78 (.tmp 3) rfl ⟨w.heap.size + 1 + 1, 0, none⟩ rfl (nums .u8 f) _ H3'.out.range Try.underlying78 rfl (by rw [nums_length, HF.out]; exact ainfo_flag) ?_) | (refine wpList_store_mid rfl 78 (.tmp 2) (.tmp 14) rfl (w.heap.size + 1) 0 (nums .u8 f).toArray rfl rfl (by simpa [nums, HF.out, HZ.out] using H2.out.there) (by simp only [List.size_toArray, nums_length, HF.out]; exact ainfo_flag) (all_oneCell_toArray (nums_one _ _)) ?_))
      have hw := H2.out.over (ys := f) (by rw [HF.out, HZ.out])
      exact bodyPost_ret (results_cell_row rfl _ _ (w.heap.size + 1) 78 (nums .u8 f).toArray (0, 0) _ rfl hw Try.underlying78 rfl (by simp only [List.size_toArray, nums_length, HF.out]; exact ainfo_flag)) rfl ⟨rfl, setCells_below HB.out (by omega) _ _⟩

set_option maxRecDepth 100000 in
set_option maxHeartbeats 2000000 in
theorem toSight_ok (f : List Int) (hf : f.length = 6) (w : World) :
    Calls Try.prog 92 #[av f] w fun e w' => e = .returned (av f) ∧ Below w.heap.size w w' := by
  unfold av
  have HF := Lib.hid hf
  go_enter Try.func92, Try.ntmps92
  go_wp2
  rw [nums_zero6]
  have hz : (List.replicate 6 (0 : Int)).length = 6 := by simp
  generalize List.replicate 6 (0 : Int) = zs at *
  have H1 := Lib.hid ((((NB.new (kd := .u8) w 71 f).alloc (.cells (nums .u8 zs).toArray 72)).alloc (.cells (nums .u8 zs).toArray 72)))
  have h2 := (NB.new (kd := .u8) (w.alloc (.cells (nums .u8 f).toArray 71)) 72 zs).alloc (.cells (nums .u8 zs).toArray 72)
  have h3 := NB.new (kd := .u8) ((w.alloc (.cells (nums .u8 f).toArray 71)).alloc (.cells (nums .u8 zs).toArray 72)) 72 zs
  rw [size_box] at h2
  rw [size_box, size_box] at h3
  have H2 := Lib.hid h2
  have H3 := Lib.hid h3
  have HB := Lib.hid (show Below w.heap.size w (((w.alloc (.cells (nums .u8 f).toArray 71)).alloc (.cells (nums .u8 zs).toArray 72)).alloc (.cells (nums .u8 zs).toArray 72)) from below_alloc (below_alloc (below_box _ _) _) _)
  clear h2 h3
  generalize ((w.alloc (.cells (nums .u8 f).toArray 71)).alloc (.cells (nums .u8 zs).toArray 72)).alloc (.cells (nums .u8 zs).toArray 72) = W0 at *
  have HZ := Lib.hid hz
  clear hz hf
  go_loopw [4] (fun i wr => ∃ k : Nat, k ≤ 6 ∧ i = .int .i64 k ∧ Hid (NB .u8 wr w.heap.size 71 f) ∧ Hid (NB .u8 wr (w.heap.size + 1) 72 zs) ∧ Hid (NB .u8 wr (w.heap.size + 1 + 1) 72 (f.take k ++ zs.drop k)) ∧ Hid (Below w.heap.size w wr)) (fun i _ => 6 - (intOf i).toNat)
  case atStart => exact ⟨0, by omega, rfl, H1, H2, by simpa using H3, HB⟩
  case round =>
    clear H1 H2 H3 HB
    obtain ⟨k, hk, rfl, H1, H2, H3, HB⟩ := hrel
    by_cases hlt : k < 6
    · have hc1 := H1.out.cell (i := k) (by rw [HF.out]; exact hlt)
      have hl3 : k < (f.take k ++ zs.drop k).length := by simp [HF.out, HZ.out]; omega
      have hc3 := H3.out.cell hl3
      have hf3 := H3.out.frozen k
      clear hl3
      go_wp2
      go_roundw
      case rel =>
        refine ⟨k + 1, by omega, by go_num, H1.out.far (by simp; omega) _, H2.out.far (by simp) _, ?_, set_below HB.out (by simp; omega) _⟩
        rw [← take_step (by rw [HF.out]; exact hlt) (by rw [HF.out, HZ.out])]
        exact H3.out.set k _
      case measure => first|(simp [intOf]; done)|(simp [intOf]; omega)
    · obtain rfl : k = 6 := by omega
      have h3 := H3.out
      rw [List.take_of_length_le (by rw [HF.out]; omega), List.drop_of_length_le (by rw [HZ.out]; omega), List.append_nil] at h3
      have H3' := Lib.hid h3
      clear H3 h3
      go_wp2_with (first | (refine load_agg rfl 72 (.tmp 3) rfl ⟨w.heap.size + 1 + 1, 0, none⟩ rfl (nums .u8 f) _ H3'.out.range Try.underlying72 rfl (by rw [nums_length, HF.out]; exact ainfo_sight) ?_) | (refine wpList_store_mid rfl 72 (.tmp 2) (.tmp 14) rfl (w.heap.size + 1) 0 (nums .u8 f).toArray rfl rfl (by simpa [nums, HF.out, HZ.out] using H2.out.there) (by simp only [List.size_toArray, nums_length, HF.out]; exact ainfo_sight) (all_oneCell_toArray (nums_one _ _)) ?_))
      have hw := H2.out.over (ys := f) (by rw [HF.out, HZ.out])
      exact bodyPost_ret (results_cell_row rfl _ _ (w.heap.size + 1) 72 (nums .u8 f).toArray (0, 0) _ rfl hw Try.underlying72 rfl (by simp only [List.size_toArray, nums_length, HF.out]; exact ainfo_sight)) rfl ⟨rfl, setCells_below HB.out (by omega) _ _⟩

end Go.Proofs.Ytjadhhnajphibaa
