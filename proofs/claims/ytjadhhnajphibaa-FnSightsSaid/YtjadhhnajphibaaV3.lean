/- What is seen of a flag: the program's. -/
import Derived.Test.YtjadhhnajphibaaV2
set_option linter.unusedVariables false
set_option linter.unusedSimpArgs false
namespace Go.Proofs.Ytjadhhnajphibaa
open Go.RowKit Go.Proofs.YtjadhhnajphibaaW.PrintWords

theorem bestTo_max (cs : Nat → Nat) (n : Nat) : ∀ i, i < n → cs i ≤ cs (bestTo cs n) := by
  induction n with
  | zero => intro i hi; omega
  | succ n ih =>
    intro i hi
    unfold bestTo
    by_cases e : i = n
    · subst e; split <;> omega
    · have := ih i (by omega)
      split <;> omega
theorem bestTo_first (cs : Nat → Nat) (n : Nat) : ∀ i, i < bestTo cs n → cs i < cs (bestTo cs n) := by
  induction n with
  | zero => intro i hi; simp [bestTo] at hi
  | succ n ih =>
    intro i hi
    unfold bestTo at hi ⊢
    split at hi
    · rename_i h
      rw [if_pos h]
      have := bestTo_max cs n i hi
      omega
    · rename_i h
      rw [if_neg h]
      exact ih i hi

set_option maxHeartbeats 2000000 in
theorem Max_ok (A0 : Option Addr) (c0 : Nat) (xs : List Int) (m : Int) (w : World) (h0 : (Kd.int .i64).C w A0 xs.length xs) (hl : 1 ≤ xs.length) (hm1 : ∃ k, k < xs.length ∧ rn xs k = m) (hm2 : ∀ k, k < xs.length → rn xs k ≤ m) :
    Calls Try.prog 132 #[.slice A0 xs.length c0] w fun e w' => e = .returned (.int .i64 m) ∧ w = w' := by
  have hm : xs.length ≤ 9223372036854775807 := h0.2.1
  obtain ⟨ad0, rfl, hx0⟩ := at_nat h0 (show 0 < xs.length by omega)
  rw [Addr.add_zero'] at hx0
  have H0 := Lib.hid h0
  have HM1 := Lib.hid hm1
  have HM2 := Lib.hid hm2
  clear h0 hm1 hm2
  have hl1 : (1 : Int) ≤ (xs.length : Int) := by omega
  have hl2 : (0 : Int) < (xs.length : Int) := by omega
  go_enter Try.func132, Try.ntmps132
  go_wp2
  go_loop [3, 4] (fun v i => ∃ k : Nat, ∃ x : Int, 1 ≤ k ∧ k ≤ xs.length ∧ i = .int .i64 k ∧ v = .int .i64 x ∧ Hid (∃ j, j < k ∧ rn xs j = x) ∧ Hid (∀ j, j < k → rn xs j ≤ x)) (fun _ i => xs.length - (intOf i).toNat)
  case atStart => exact ⟨1, rn xs 0, Nat.le_refl _, hl, rfl, rfl, ⟨0, by omega, rfl⟩, fun j hj => by rw [show j = 0 by omega]; exact Int.le_refl _⟩
  case round =>
    obtain ⟨k, x, hk1, hk, rfl, rfl, HA, HB⟩ := hrel
    by_cases hlt : k < xs.length
    · have hlti : (k : Int) < (xs.length : Int) := by omega
      obtain ⟨ad1, e1, hx1⟩ := at_nat H0.out hlt
      cases e1
      go_wp2
      go_round
      case rel =>
        refine ⟨k + 1, _, by omega, by omega, by go_num, rfl, ?_, ?_⟩
        · split
          · exact ⟨k, by omega, rfl⟩
          · obtain ⟨j, hj, hj'⟩ := HA.out
            exact ⟨j, by omega, hj'⟩
        · intro j hj
          by_cases e : j = k
          · subst e; split <;> omega
          · have := HB.out j (by omega)
            split <;> omega
      case measure => first|(simp [intOf]; done)|(simp [intOf]; omega)
    · obtain rfl : k = xs.length := by omega
      have HS := Lib.hid (show x = m by
        obtain ⟨a, ha, ha'⟩ := HA.out
        obtain ⟨b, hb, hb'⟩ := HM1.out
        have h1 := HM2.out a ha
        have h2 := HB.out b hb
        omega)
      go_wp2
      go_ret
      exact ⟨ret_int HS.out, rfl⟩
theorem Index_ok (A0 : Option Addr) (c0 : Nat) (xs : List Int) (x : Int) (k0 : Nat) (w : World) (h0 : (Kd.int .i64).C w A0 xs.length xs) (hk : k0 < xs.length) (hx : rn xs k0 = x) (hf : ∀ j, j < k0 → (x == rn xs j) = false) :
    Calls Try.prog 131 #[.slice A0 xs.length c0, .int .i64 x] w fun e w' => e = .returned (.int .i64 k0) ∧ w = w' := by
  have hm : xs.length ≤ 9223372036854775807 := h0.2.1
  have H0 := Lib.hid h0
  have HX := Lib.hid hx
  have HF := Lib.hid hf
  clear h0 hx hf
  go_enter Try.func131, Try.ntmps131
  go_wp2
  go_loop [5, 8] (fun u i => ∃ k : Nat, k ≤ k0 ∧ i = .int .i64 k) (fun _ i => k0 - (intOf i).toNat)
  case atStart => exact ⟨0, Nat.zero_le _, rfl⟩
  case round =>
    obtain ⟨k, hk, rfl⟩ := hrel
    have hlt : k < xs.length := by omega
    have hlti : (k : Int) < (xs.length : Int) := by omega
    obtain ⟨ad0, rfl, hx0⟩ := at_nat H0.out hlt
    by_cases hkk : k < k0
    · have hc := HF.out k hkk
      go_wp2
      go_round
      case rel => exact ⟨k + 1, by omega, by go_num⟩
      case measure => first|(simp [intOf]; done)|(simp [intOf]; omega)
    · obtain rfl : k = k0 := by omega
      have hc : (x == rn xs k) = true := by rw [HX.out]; simp
      go_wp2
      go_ret
      exact ⟨rfl, rfl⟩

def countsV (f : List Int) (b : Nat) : List Int := (List.range 6).map fun c => ((cN f b 4 c : Nat) : Int)
theorem countsV_length (f : List Int) (b : Nat) : (countsV f b).length = 6 := by simp [countsV]
theorem countsV_at {f : List Int} {b c : Nat} (h : c < 6) : rn (countsV f b) c = ((cN f b 4 c : Nat) : Int) := by simp [rn, countsV, List.getD_eq_getElem?_getD, h]
theorem counts_read {w : World} {g t : Nat} {f : List Int} {b : Nat} (h : NF .i64 w g t 6 (fun c => (cN f b 4 c : Nat))) : (Kd.int .i64).C w (some ⟨g, 0, none⟩) 6 (countsV f b) := by
  have h1 : (Kd.int .i64).C w (some ⟨g, 0, none⟩) (countsV f b).length (countsV f b) := C_of_nums (by rw [countsV_length]; omega) fun j u hu => by
    have hj : j < 6 := by
      have := (List.getElem?_eq_some_iff.1 hu).1
      rwa [nums_length, countsV_length] at this
    refine ⟨_, rfl, ?_⟩
    have h2 := h.cell hj
    have h3 : u = .int .i64 ((cN f b 4 j : Nat) : Int) := by
      simp [nums, countsV, hj] at hu
      exact hu.symm
    rw [h3]
    rw [show ((⟨g, 0, none⟩ : Addr).add j) = ⟨g, j, none⟩ by unfold Addr.add; split <;> simp_all]
    exact h2
  rwa [countsV_length] at h1

set_option maxRecDepth 100000 in
set_option maxHeartbeats 4000000 in
theorem blur_ok (f : List Int) (hf : f.length = 24) (h5 : okF f = true) (hp : ∀ i, 0 ≤ rn f i) (w : World) :
    Calls Try.prog 115 #[av f] w fun e w' => e = .returned (av (blurV f)) ∧ Below w.heap.size w w' := by
  have HF := Lib.hid hf
  have H5 := Lib.hid h5
  have HP := Lib.hid hp
  clear hf h5 hp
  unfold av
  go_enter Try.func115, Try.ntmps115
  go_wp2
  rw [nums_zero6]
  have hz : (List.replicate 6 (0 : Int)).length = 6 := by simp
  generalize List.replicate 6 (0 : Int) = zs at *
  have H0 := Lib.hid (((NB.new (kd := .u8) w 78 f).alloc (.cells (nums .u8 zs).toArray 71)).alloc (.cells (nums .u8 zs).toArray 71))
  have h1 := (NB.new (kd := .u8) (w.alloc (.cells (nums .u8 f).toArray 78)) 71 zs).alloc (.cells (nums .u8 zs).toArray 71)
  have h2 := NB.new (kd := .u8) ((w.alloc (.cells (nums .u8 f).toArray 78)).alloc (.cells (nums .u8 zs).toArray 71)) 71 zs
  rw [size_box] at h1
  rw [size_box, size_box] at h2
  have H1 := Lib.hid h1
  have H2 := Lib.hid h2
  have HB := Lib.hid (show Below w.heap.size w (((w.alloc (.cells (nums .u8 f).toArray 78)).alloc (.cells (nums .u8 zs).toArray 71)).alloc (.cells (nums .u8 zs).toArray 71)) from below_alloc (below_alloc (below_box _ _) _) _)
  clear h1 h2
  generalize ((w.alloc (.cells (nums .u8 f).toArray 78)).alloc (.cells (nums .u8 zs).toArray 71)).alloc (.cells (nums .u8 zs).toArray 71) = W0 at *
  have HZ := Lib.hid hz
  clear hz
  go_loopw [4, 5, 6, 8, 10, 29, 30, 31] (fun _ _ _ _ i _ _ _ wr => ∃ b : Nat, b ≤ 6 ∧ i = .int .i64 b ∧ Hid (NB .u8 wr w.heap.size 78 f) ∧ Hid (NB .u8 wr (w.heap.size + 1) 71 zs) ∧ Hid (NB .u8 wr (w.heap.size + 1 + 1) 71 ((blurV f).take b ++ zs.drop b)) ∧ Hid (Below w.heap.size w wr)) (fun _ _ _ _ i _ _ _ _ => 6 - (intOf i).toNat)
  case atStart => exact ⟨0, by omega, rfl, H0, H1, by simpa using H2, HB⟩
  case round =>
    clear H0 H1 H2 HB
    obtain ⟨b, hb6, rfl, H0, H1, H2, HB⟩ := hrel
    by_cases hlt : b < 6
    · have hlti : (b : Int) < 6 := by omega
      go_wp2
      have hg := HB.out.size
      have hl2 := H2.out.lt
      have HC := Lib.hid (show NF .i64 ((wr.alloc (.cells #[.int .i64 0, .int .i64 0, .int .i64 0, .int .i64 0, .int .i64 0, .int .i64 0] 154)).alloc (.cells #[.int .i64 (2 * ((b : Int) % 3) + 12 * ((b : Int) / 3)), .int .i64 ((2 * ((b : Int) % 3) + 12 * ((b : Int) / 3)) + 1), .int .i64 ((2 * ((b : Int) % 3) + 12 * ((b : Int) / 3)) + 6), .int .i64 ((2 * ((b : Int) % 3) + 12 * ((b : Int) / 3)) + 6 + 1)] 3)) wr.heap.size 154 6 (fun c => (cN f b 0 c : Nat)) from ⟨_, blk_alloc (heap_alloc_new wr _) _, fun i hi => by
        have : i = 0 ∨ i = 1 ∨ i = 2 ∨ i = 3 ∨ i = 4 ∨ i = 5 := by omega
        rcases this with rfl | rfl | rfl | rfl | rfl | rfl <;> rfl⟩)
      have hx := heap_alloc_new (wr.alloc (.cells #[.int .i64 0, .int .i64 0, .int .i64 0, .int .i64 0, .int .i64 0, .int .i64 0] 154)) (.cells #[.int .i64 (2 * ((b : Int) % 3) + 12 * ((b : Int) / 3)), .int .i64 ((2 * ((b : Int) % 3) + 12 * ((b : Int) / 3)) + 1), .int .i64 ((2 * ((b : Int) % 3) + 12 * ((b : Int) / 3)) + 6), .int .i64 ((2 * ((b : Int) % 3) + 12 * ((b : Int) / 3)) + 6 + 1)] 3)
      rw [size_box] at hx
      have HX := Lib.hid (show NF .i64 ((wr.alloc (.cells #[.int .i64 0, .int .i64 0, .int .i64 0, .int .i64 0, .int .i64 0, .int .i64 0] 154)).alloc (.cells #[.int .i64 (2 * ((b : Int) % 3) + 12 * ((b : Int) / 3)), .int .i64 ((2 * ((b : Int) % 3) + 12 * ((b : Int) / 3)) + 1), .int .i64 ((2 * ((b : Int) % 3) + 12 * ((b : Int) / 3)) + 6), .int .i64 ((2 * ((b : Int) % 3) + 12 * ((b : Int) / 3)) + 6 + 1)] 3)) (wr.heap.size + 1) 3 4 (fun k => (cidx b k : Nat)) from ⟨_, hx, fun i hi => by
        have : i = 0 ∨ i = 1 ∨ i = 2 ∨ i = 3 := by omega
        rcases this with rfl | rfl | rfl | rfl <;> (simp [cidx]; omega)⟩)
      have H0a := Lib.hid ((H0.out.alloc (.cells #[.int .i64 0, .int .i64 0, .int .i64 0, .int .i64 0, .int .i64 0, .int .i64 0] 154)).alloc (.cells #[.int .i64 (2 * ((b : Int) % 3) + 12 * ((b : Int) / 3)), .int .i64 ((2 * ((b : Int) % 3) + 12 * ((b : Int) / 3)) + 1), .int .i64 ((2 * ((b : Int) % 3) + 12 * ((b : Int) / 3)) + 6), .int .i64 ((2 * ((b : Int) % 3) + 12 * ((b : Int) / 3)) + 6 + 1)] 3))
      have H1a := Lib.hid ((H1.out.alloc (.cells #[.int .i64 0, .int .i64 0, .int .i64 0, .int .i64 0, .int .i64 0, .int .i64 0] 154)).alloc (.cells #[.int .i64 (2 * ((b : Int) % 3) + 12 * ((b : Int) / 3)), .int .i64 ((2 * ((b : Int) % 3) + 12 * ((b : Int) / 3)) + 1), .int .i64 ((2 * ((b : Int) % 3) + 12 * ((b : Int) / 3)) + 6), .int .i64 ((2 * ((b : Int) % 3) + 12 * ((b : Int) / 3)) + 6 + 1)] 3))
      have H2a := Lib.hid ((H2.out.alloc (.cells #[.int .i64 0, .int .i64 0, .int .i64 0, .int .i64 0, .int .i64 0, .int .i64 0] 154)).alloc (.cells #[.int .i64 (2 * ((b : Int) % 3) + 12 * ((b : Int) / 3)), .int .i64 ((2 * ((b : Int) % 3) + 12 * ((b : Int) / 3)) + 1), .int .i64 ((2 * ((b : Int) % 3) + 12 * ((b : Int) / 3)) + 6), .int .i64 ((2 * ((b : Int) % 3) + 12 * ((b : Int) / 3)) + 6 + 1)] 3))
      have HBa := Lib.hid (below_alloc (below_alloc HB.out (.cells #[.int .i64 0, .int .i64 0, .int .i64 0, .int .i64 0, .int .i64 0, .int .i64 0] 154)) (.cells #[.int .i64 (2 * ((b : Int) % 3) + 12 * ((b : Int) / 3)), .int .i64 ((2 * ((b : Int) % 3) + 12 * ((b : Int) / 3)) + 1), .int .i64 ((2 * ((b : Int) % 3) + 12 * ((b : Int) / 3)) + 6), .int .i64 ((2 * ((b : Int) % 3) + 12 * ((b : Int) / 3)) + 6 + 1)] 3))
      clear hx H0 H1 H2 HB
      generalize (wr.alloc (.cells #[.int .i64 0, .int .i64 0, .int .i64 0, .int .i64 0, .int .i64 0, .int .i64 0] 154)).alloc (.cells #[.int .i64 (2 * ((b : Int) % 3) + 12 * ((b : Int) / 3)), .int .i64 ((2 * ((b : Int) % 3) + 12 * ((b : Int) / 3)) + 1), .int .i64 ((2 * ((b : Int) % 3) + 12 * ((b : Int) / 3)) + 6), .int .i64 ((2 * ((b : Int) % 3) + 12 * ((b : Int) / 3)) + 6 + 1)] 3) = W1 at *
      generalize wr.heap.size = g at *
      go_loopw [8, 31] (fun _ i wr => ∃ k : Nat, k ≤ 4 ∧ i = .int .i64 k ∧ Hid (NF .i64 wr g 154 6 (fun c => (cN f b k c : Nat))) ∧ Hid (NF .i64 wr (g + 1) 3 4 (fun k => (cidx b k : Nat))) ∧ Hid (NB .u8 wr w.heap.size 78 f) ∧ Hid (NB .u8 wr (w.heap.size + 1) 71 zs) ∧ Hid (NB .u8 wr (w.heap.size + 1 + 1) 71 ((blurV f).take b ++ zs.drop b)) ∧ Hid (Below w.heap.size w wr)) (fun _ i _ => 4 - (intOf i).toNat)
      case atStart => exact ⟨0, by omega, rfl, HC, HX, H0a, H1a, H2a, HBa⟩
      case round =>
        clear HC HX H0a H1a H2a HBa
        obtain ⟨k, hk4, rfl, HC, HX, H0, H1, H2, HB⟩ := hrel
        by_cases hlt2 : k < 4
        · have hltk : (k : Int) < 4 := by omega
          have hci := cidx_lt hlt hlt2
          obtain ⟨c, hc⟩ : ∃ c : Nat, rn f (cidx b k) = (c : Int) := ⟨(rn f (cidx b k)).toNat, by have := HP.out (cidx b k); omega⟩
          have hc6 : c < 6 := by
            have := allB_iff.1 H5.out (cidx b k) (by rw [HF.out]; exact hci)
            simp at this
            omega
          have hx0 := H0.out.cell (i := cidx b k) (by rw [HF.out]; exact hci)
          rw [hc] at hx0
          have hx1 := HC.out.cell hc6
          have hf1 := HC.out.frozen c
          have hx2 := HX.out.cell hlt2
          have hcil : ((cidx b k : Nat) : Int) < 24 := by omega
          have hcl : (c : Int) < 6 := by omega
          have hcnt : cN f b k c ≤ k := cnt_le _ _
          have hst := fun d => cN_step f b k c d hc
          have HST := Lib.hid hst
          have HC2 := Lib.hid ((NF.set HC.out hc6 (((cN f b k c : Nat) : Int) + 1)).ext (f' := fun d => (cN f b (k + 1) d : Nat)) (fun i hi => by
            rw [HST.out i]
            by_cases e : i = c
            · subst e; simp only [if_true]; push_cast; rfl
            · simp [e]))
          have HX2 := Lib.hid (HX.out.far (p := ⟨g, c, none⟩) (by simp) (.int .i64 (((cN f b k c : Nat) : Int) + 1)))
          clear hst hc
          generalize cidx b k = ci at hx0 hx2 hcil
          go_wp2
          go_roundw
          case rel => exact ⟨k + 1, by omega, by go_num, HC2, HX2, H0.out.far (by simp; omega) _, H1.out.far (by simp; omega) _, H2.out.far (by simp; omega) _, set_below HB.out (by simp; omega) _⟩
          case measure => first|(simp [intOf]; done)|(simp [intOf]; omega)
        · have e4 : k = 4 := by omega
          rw [e4] at HC
          clear e4
          go_wp2
          have hcs := counts_read HC.out
          have HCS := Lib.hid hcs
          have hbl := bestTo_lt (cN f b 4) (n := 6) (by omega)
          have HMX := Lib.hid (fun W h => Max_ok (some ⟨g, 0, none⟩) 6 (countsV f b) ((cN f b 4 (bestTo (cN f b 4) 6) : Nat) : Int) W h (by simp [countsV]) ⟨bestTo (cN f b 4) 6, by simpa [countsV] using hbl, countsV_at hbl⟩ (fun k hk => by
            have hk6 : k < 6 := by simpa [countsV] using hk
            rw [countsV_at hk6]
            have := bestTo_max (cN f b 4) 6 k hk6
            omega))
          have HIX := Lib.hid (fun W h => Index_ok (some ⟨g, 0, none⟩) 6 (countsV f b) ((cN f b 4 (bestTo (cN f b 4) 6) : Nat) : Int) (bestTo (cN f b 4) 6) W h (by simpa [countsV] using hbl) (countsV_at hbl) (fun j hj => by
            rw [countsV_at (by omega)]
            have := bestTo_first (cN f b 4) 6 j hj
            simp
            omega))
          have hba : Hid (((bestTo (cN f b 4) 6 : Nat) : Int) = rn (blurV f) b) := by
            unfold Hid
            simp [rn, blurV, List.getD_eq_getElem?_getD, hlt, blurAt]
          rw [countsV_length] at HMX HIX
          clear hcs
          go_still_tail 7, (by kernel_rfl)
          still_call ((HMX.out _ (C_below' HCS.out (below_one (Below.refl _ _)))).mono (fun _ _ h => ⟨h.1, h.2.symm⟩))
          still_call ((HIX.out _ (C_below' HCS.out (below_one (Below.refl _ _)))).mono (fun _ _ h => ⟨h.1, h.2.symm⟩))
          have hbli : ((bestTo (cN f b 4) 6 : Nat) : Int) < 6 := by omega
          have hl3 : b < ((blurV f).take b ++ zs.drop b).length := by simp [blurV_length, HZ.out]; omega
          have hc3 := H2.out.cell hl3
          have hf3 := H2.out.frozen b
          have HL := Lib.hid hl3
          clear hl3
          generalize bestTo (cN f b 4) 6 = best at *
          repeat still_step
          refine wpStill_nil ?_
          go_simp
          go_wp2
          go_roundw
          case rel =>
            refine ⟨b + 1, by omega, by go_num, H0.out.far (by simp <;> omega) _, H1.out.far (by simp <;> omega) _, ?_, set_below (below_one HB.out) (by simp <;> omega) _⟩
            rw [← take_step (by rw [blurV_length]; exact hlt) (by rw [blurV_length, HZ.out]), ← hba.out]
            exact H2.out.set b _
          case measure => first|(simp [intOf]; done)|(simp [intOf]; omega)
    · have h3 := H2.out
      rw [List.take_of_length_le (by rw [blurV_length]; omega), List.drop_of_length_le (by rw [HZ.out]; omega), List.append_nil] at h3
      have H3' := Lib.hid h3
      clear H2 h3
      go_wp2_with (first | (refine load_agg rfl 71 (.tmp 3) rfl ⟨w.heap.size + 1 + 1, 0, none⟩ rfl (nums .u8 (blurV f)) _ H3'.out.range Try.underlying71 rfl (by rw [nums_length, blurV_length]; exact ainfo_six) ?_) | (refine wpList_store_mid rfl 71 (.tmp 2) (.tmp 51) rfl (w.heap.size + 1) 0 (nums .u8 (blurV f)).toArray rfl rfl (by simpa [nums, blurV_length, HZ.out] using H1.out.there) (by simp only [List.size_toArray, nums_length, blurV_length]; exact ainfo_six) (all_oneCell_toArray (nums_one _ _)) ?_))
      have hw := H1.out.over (ys := blurV f) (by rw [blurV_length, HZ.out])
      exact bodyPost_ret (results_cell_row rfl _ _ (w.heap.size + 1) 71 (nums .u8 (blurV f)).toArray (0, 0) _ rfl hw Try.underlying71 rfl (by simp only [List.size_toArray, nums_length, blurV_length]; exact ainfo_six)) rfl ⟨rfl, setCells_below HB.out (by omega) _ _⟩
end Go.Proofs.Ytjadhhnajphibaa
