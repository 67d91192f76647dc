/- Codes that are valid. -/
import Derived.Test.YtjadhhnajphibaaF1
set_option linter.unusedVariables false
set_option linter.unusedSimpArgs false
namespace Go.Proofs.Ytjadhhnajphibaa
open Go.RowKit Go.Proofs.YtjadhhnajphibaaW.PrintWords

/-- a code that is valid. -/
def okC (fs ws : List (List Int)) : Bool := decide (0 < fs.length) && okFs fs && decide (fs.length ≤ 40) && decide (ws.length ≤ 60) && wordsB ws (lim fs.length)
theorem setV0 (fs : List (List Int)) : setV fs 0 = 0 ∧ okFs fs = true ∧ fs.length ≤ 40 ∨ setV fs 0 ≠ 0 ∧ (okFs fs && decide (fs.length ≤ 40)) = false := by
  unfold setV
  rcases h : okFs fs with _ | _
  · right; simp
  · by_cases h4 : 40 < fs.length
    · right; simp [h4]
    · left
      simp [h4, unlessV, inB]
      omega

set_option maxRecDepth 100000 in
set_option maxHeartbeats 8000000 in
theorem ValidCode_ok (A : Option Addr) (c : Nat) (fs : List (List Int)) (A1 : Option Addr) (c1 : Nat) (ws : List (List Int)) (w : World) (hx : WBytes ws) (h0 : (Karr 24).C w A fs.length fs) (h1 : (Kd.slice 5 (Kd.int .u8)).C w A1 ws.length ws) :
    Calls Try.prog 42 #[.agg #[.slice A fs.length c, .slice A1 ws.length c1]] w fun e w' => e = .returned (.bool (okC fs ws)) ∧ Below w.heap.size w w' := by
  have hm : fs.length ≤ 9223372036854775807 := h0.2.1
  have hm1 : ws.length ≤ 9223372036854775807 := h1.2.1
  have hcc := heap_alloc_new w (.cells #[.slice A fs.length c, .slice A1 ws.length c1] 46)
  have HB := Lib.hid (below_box w (.cells #[.slice A fs.length c, .slice A1 ws.length c1] 46))
  have HSC := Lib.hid (fun W (h : Below w.heap.size w W) => setCode_ok A c fs 0 W (C_below' h0 h))
  have HSZ := Lib.hid (fun W => sizeFlag_ok A c fs.length W hm)
  have HAW := Lib.hid (fun W (h : Below w.heap.size w W) => areWords_ok A1 c1 ws fs.length W hx (C_below' h1 h))
  have hv : okC fs ws = (decide (0 < fs.length) && okFs fs && decide (fs.length ≤ 40) && decide (ws.length ≤ 60) && wordsB ws (lim fs.length)) := rfl
  have hs0 := setV0 fs
  have hle : w.heap.size ≤ (w.alloc (.cells #[.slice A fs.length c, .slice A1 ws.length c1] 46)).heap.size := (below_box w _).size
  have x0 := fam_cell (Nat.le_refl _) ((blk_cell hcc 0).trans (show _ = some (.slice A fs.length c) from rfl))
  have x1 := fam_cell (Nat.le_refl _) ((blk_cell hcc 1).trans (show _ = some (.slice A1 ws.length c1) from rfl))
  have hok : ∀ b : Bool, okC fs ws = b → okC fs ws = b := fun _ h => h
  generalize okC fs ws = res at *
  generalize okFs fs = okf at *
  generalize setV fs 0 = sv at *
  generalize wordsB ws (lim fs.length) = wb at *
  generalize fs.length = n at *
  generalize ws.length = m at *
  clear hcc h0 h1 hx hok
  have HV := Lib.hid hv
  clear hv
  by_cases h0f : 0 < n
  · have hd1 : decide ((0 : Int) < (n : Int)) = true := by rw [decide_eq_true_iff]; omega
    have hi1 : (0 : Int) < (n : Int) := by omega
    rcases hs0 with ⟨rfl, rfl, h40⟩ | ⟨hs0, ho⟩
    · by_cases h60 : m ≤ 60
      · have hi2 : (m : Int) ≤ 60 := by omega
        have HS := Lib.hid (show res = wb by rw [HV.out]; simp [h0f, h40, h60])
        clear HV
        go_enter Try.func42, Try.ntmps42
        go_wp2
        generalize (w.alloc (.cells #[.slice A n c, .slice A1 m c1] 46)) = W0 at *
        (haveI hne9 := fam_ne (W0).heap.size (W0); refine wp_region_fam (W0).heap.size (W0) (Below.refl _ _) (by kernel_rfl) (by kernel_rfl) ?_; (repeat (go_big_quiet_step ((first|(go_at_call 97; exact fam_call (Nat.le_refl _) (HSC.out _ (HB.out.trans ((Fam.below _).mono hle))))|(go_at_call 99; exact fam_same (HSZ.out _))|(go_at_call 98; exact fam_call (Nat.le_refl _) (HAW.out _ (HB.out.trans ((Fam.below _).mono hle)))))))); refine wpQuiet_nil ?_; intro _ hw'; obtain ⟨nq, hw''⟩ := hw'; subst hw''; clear hne9)
        go_wp2
        go_ret
        exact ⟨ret_bool HS.out.symm, HB.out.trans (nq.below.mono hle)⟩
      · have hd2 : decide ((m : Int) ≤ 60) = false := by rw [decide_eq_false_iff_not]; omega
        have HS := Lib.hid (show res = false by rw [HV.out]; simp [h60])
        clear HV h60
        go_enter Try.func42, Try.ntmps42
        go_wp2
        generalize (w.alloc (.cells #[.slice A n c, .slice A1 m c1] 46)) = W0 at *
        (haveI hne9 := fam_ne (W0).heap.size (W0); refine wp_region_fam (W0).heap.size (W0) (Below.refl _ _) (by kernel_rfl) (by kernel_rfl) ?_; (repeat (go_big_quiet_step ((first|(go_at_call 97; exact fam_call (Nat.le_refl _) (HSC.out _ (HB.out.trans ((Fam.below _).mono hle))))|(go_at_call 99; exact fam_same (HSZ.out _))|(go_at_call 98; exact fam_call (Nat.le_refl _) (HAW.out _ (HB.out.trans ((Fam.below _).mono hle)))))))); refine wpQuiet_nil ?_; intro _ hw'; obtain ⟨nq, hw''⟩ := hw'; subst hw''; clear hne9)
        go_wp2
        go_ret
        exact ⟨ret_bool HS.out.symm, HB.out.trans (nq.below.mono hle)⟩
    · have hd2 : (sv == 0) = false := by simpa using hs0
      have HS := Lib.hid (show res = false by rw [HV.out, Bool.and_assoc (decide (0 < n)) okf, ho]; simp)
      clear HV hs0
      go_enter Try.func42, Try.ntmps42
      go_wp2
      generalize (w.alloc (.cells #[.slice A n c, .slice A1 m c1] 46)) = W0 at *
      (haveI hne9 := fam_ne (W0).heap.size (W0); refine wp_region_fam (W0).heap.size (W0) (Below.refl _ _) (by kernel_rfl) (by kernel_rfl) ?_; (repeat (go_big_quiet_step ((first|(go_at_call 97; exact fam_call (Nat.le_refl _) (HSC.out _ (HB.out.trans ((Fam.below _).mono hle))))|(go_at_call 99; exact fam_same (HSZ.out _))|(go_at_call 98; exact fam_call (Nat.le_refl _) (HAW.out _ (HB.out.trans ((Fam.below _).mono hle)))))))); refine wpQuiet_nil ?_; intro _ hw'; obtain ⟨nq, hw''⟩ := hw'; subst hw''; clear hne9)
      go_wp2
      go_ret
      exact ⟨ret_bool HS.out.symm, HB.out.trans (nq.below.mono hle)⟩
  · have HS := Lib.hid (show res = false by rw [HV.out]; simp [h0f])
    obtain rfl : n = 0 := by omega
    clear HV h0f hs0
    go_enter Try.func42, Try.ntmps42
    go_wp2
    generalize (w.alloc (.cells #[.slice A 0 c, .slice A1 m c1] 46)) = W0 at *
    (haveI hne9 := fam_ne (W0).heap.size (W0); refine wp_region_fam (W0).heap.size (W0) (Below.refl _ _) (by kernel_rfl) (by kernel_rfl) ?_; (repeat (go_big_quiet_step ((first|(go_at_call 97; exact fam_call (Nat.le_refl _) (HSC.out _ (HB.out.trans ((Fam.below _).mono hle))))|(go_at_call 99; exact fam_same (HSZ.out _))|(go_at_call 98; exact fam_call (Nat.le_refl _) (HAW.out _ (HB.out.trans ((Fam.below _).mono hle)))))))); refine wpQuiet_nil ?_; intro _ hw'; obtain ⟨nq, hw''⟩ := hw'; subst hw''; clear hne9)
    go_wp2
    go_ret
    exact ⟨ret_bool HS.out.symm, HB.out.trans (nq.below.mono hle)⟩
end Go.Proofs.Ytjadhhnajphibaa
