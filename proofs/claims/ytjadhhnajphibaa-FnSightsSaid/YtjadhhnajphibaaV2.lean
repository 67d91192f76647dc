/- What is seen of a flag: the reference's. -/
import Derived.Test.YtjadhhnajphibaaV1
set_option linter.unusedVariables false
set_option linter.unusedSimpArgs false
namespace Go.Proofs.Ytjadhhnajphibaa
open Go.RowKit Go.Proofs.YtjadhhnajphibaaW.PrintWords

/-- the cell of a block's k-th part. -/
def cidx (b k : Nat) : Nat := (b % 3 * 2 + k % 2) + 6 * (b / 3 * 2 + k / 2)
/-- how many of a block's first k parts have a colour. -/
def cN (f : List Int) (b k : Nat) (c : Nat) : Nat := cnt (fun i => rn f (cidx b i) == (c : Int)) k
def bestTo (cs : Nat → Nat) : Nat → Nat
  | 0 => 0
  | n + 1 => if cs (bestTo cs n) < cs n then n else bestTo cs n
def blurAt (f : List Int) (b : Nat) : Nat := bestTo (cN f b 4) 6
def blurV (f : List Int) : List Int := (List.range 6).map fun b => (blurAt f b : Int)
theorem blurV_length (f : List Int) : (blurV f).length = 6 := by simp [blurV]
theorem cidx_lt {b k : Nat} (hb : b < 6) (hk : k < 4) : cidx b k < 24 := by unfold cidx; omega
theorem bestTo_le (cs : Nat → Nat) (n : Nat) : bestTo cs n ≤ n := by
  induction n with
  | zero => exact Nat.le_refl _
  | succ n ih => unfold bestTo; split <;> omega

theorem bestTo_lt (cs : Nat → Nat) {n : Nat} (h : 1 ≤ n) : bestTo cs n < n := by
  cases n with
  | zero => omega
  | succ n => unfold bestTo; have := bestTo_le cs n; split <;> omega
theorem ainfo_six : (Try.prog.info? 71).map (·.size) = some 6 := by kernel_rfl
theorem addr_block (a : Addr) (n : Nat) : (a.add n).block = a.block := by unfold Addr.add; split <;> rfl
theorem wrap_nat (n : Nat) (h : n ≤ 4000000000000000000) : IntKind.i64.wrap ((n : Int) + 1) = ((n + 1 : Nat) : Int) := by rw [IntKind.wrap_i64]; omega
theorem cN_step (f : List Int) (b k c d : Nat) (h : rn f (cidx b k) = (c : Int)) : cN f b (k + 1) d = if d = c then cN f b k d + 1 else cN f b k d := by
  simp only [cN, cnt, h]
  by_cases e : d = c
  · simp [e]
  · have : ((c : Int) == (d : Int)) = false := by simp; omega
    simp [this, e]

theorem l01Index_ok (x y : Int) (w : World) (hx : 0 ≤ x) (hx' : x ≤ 1000) (hy : 0 ≤ y) (hy' : y ≤ 1000) : Calls Try.prog 130 #[.int .i64 x, .int .i64 y] w fun e w' => e = .returned (.int .i64 (x + 6 * y)) ∧ w' = w := by
  go_enter Try.func130, Try.ntmps130
  go_wp2
  go_ret
  exact ⟨rfl, rfl⟩

theorem idx_num : ∀ b : Nat, b < 6 → ∀ k : Nat, k < 4 → IntKind.i64.wrap (IntKind.i64.wrap ((b : Int).tmod 3 * 2) + (k : Int).tmod 2) = ((b % 3 * 2 + k % 2 : Nat) : Int) ∧
    IntKind.i64.wrap (IntKind.i64.wrap (IntKind.i64.wrap ((b : Int) / 3) * 2) + IntKind.i64.wrap ((k : Int) / 2)) = ((b / 3 * 2 + k / 2 : Nat) : Int) := by decide +kernel
theorem idx_call (b k : Nat) (hb : b < 6) (hk : k < 4) (w : World) : Calls Try.prog 130 #[.int .i64 (IntKind.i64.wrap (IntKind.i64.wrap ((b : Int).tmod 3 * 2) + (k : Int).tmod 2)), .int .i64 (IntKind.i64.wrap (IntKind.i64.wrap (IntKind.i64.wrap ((b : Int) / 3) * 2) + IntKind.i64.wrap ((k : Int) / 2)))] w
    fun e w' => e = .returned (.int .i64 (cidx b k : Nat)) ∧ w' = w := by
  obtain ⟨h1, h2⟩ := idx_num b hb k hk
  rw [h1, h2]
  refine (l01Index_ok _ _ w (by omega) (by omega) (by omega) (by omega)).mono ?_
  rintro e w' ⟨rfl, rfl⟩
  exact ⟨ret_int (by simp only [cidx]; push_cast; rfl), rfl⟩

set_option maxRecDepth 100000 in
set_option maxHeartbeats 4000000 in
theorem l01Blur_ok (ad : Addr) (f : List Int) (hf : f.length = 24) (h5 : okF f = true) (hp : ∀ i, 0 ≤ rn f i) (w : World) (hb : ad.block < w.heap.size) (h0 : ∀ j v, (nums .u8 f)[j]? = some v → w.cell? (ad.add j) = some v) :
    Calls Try.prog 112 #[.pointer (some ad)] w fun e w' => e = .returned (av (blurV f)) ∧ Below w.heap.size w w' := by
  have H0 := Lib.hid h0
  have HF := Lib.hid hf
  have H5 := Lib.hid h5
  have HP := Lib.hid hp
  clear h0 hf h5 hp
  go_enter Try.func112, Try.ntmps112
  go_wp2
  rw [nums_zero6]
  have hz : (List.replicate 6 (0 : Int)).length = 6 := by simp
  generalize List.replicate 6 (0 : Int) = zs at *
  have H1 := Lib.hid ((NB.new (kd := .u8) w 71 zs).alloc (.cells (nums .u8 zs).toArray 71))
  have h2 := NB.new (kd := .u8) (w.alloc (.cells (nums .u8 zs).toArray 71)) 71 zs
  rw [size_box] at h2
  have H2 := Lib.hid h2
  have HB := Lib.hid (show Below w.heap.size w ((w.alloc (.cells (nums .u8 zs).toArray 71)).alloc (.cells (nums .u8 zs).toArray 71)) from below_alloc (below_box _ _) _)
  clear h2
  generalize (w.alloc (.cells (nums .u8 zs).toArray 71)).alloc (.cells (nums .u8 zs).toArray 71) = W0 at *
  have HZ := Lib.hid hz
  clear hz
  go_loopw [4, 5, 6, 7, 8] (fun i _ _ _ _ wr => ∃ b : Nat, b ≤ 6 ∧ i = .int .i64 b ∧ Hid (NB .u8 wr w.heap.size 71 zs) ∧ Hid (NB .u8 wr (w.heap.size + 1) 71 ((blurV f).take b ++ zs.drop b)) ∧ Hid (Below w.heap.size w wr)) (fun i _ _ _ _ _ => 6 - (intOf i).toNat)
  case atStart => exact ⟨0, by omega, rfl, H1, by simpa using H2, HB⟩
  case round =>
    clear H1 H2 HB
    obtain ⟨b, hb6, rfl, H1, H2, HB⟩ := hrel
    by_cases hlt : b < 6
    · have hlti : (b : Int) < 6 := by omega
      go_wp2
      have hg := HB.out.size
      have HC := Lib.hid (show NF .i64 (wr.alloc (.cells #[.int .i64 0, .int .i64 0, .int .i64 0, .int .i64 0, .int .i64 0, .int .i64 0] 153)) wr.heap.size 153 6 (fun c => (cN f b 0 c : Nat)) from ⟨_, heap_alloc_new wr _, fun i hi => by
        have : i = 0 ∨ i = 1 ∨ i = 2 ∨ i = 3 ∨ i = 4 ∨ i = 5 := by omega
        rcases this with rfl | rfl | rfl | rfl | rfl | rfl <;> rfl⟩)
      have H1a := Lib.hid (H1.out.alloc (.cells #[.int .i64 0, .int .i64 0, .int .i64 0, .int .i64 0, .int .i64 0, .int .i64 0] 153))
      have H2a := Lib.hid (H2.out.alloc (.cells #[.int .i64 0, .int .i64 0, .int .i64 0, .int .i64 0, .int .i64 0, .int .i64 0] 153))
      have HBa := Lib.hid (below_alloc HB.out (.cells #[.int .i64 0, .int .i64 0, .int .i64 0, .int .i64 0, .int .i64 0, .int .i64 0] 153))
      have hl2 := H2.out.lt
      generalize wr.alloc (.cells #[.int .i64 0, .int .i64 0, .int .i64 0, .int .i64 0, .int .i64 0, .int .i64 0] 153) = W1 at *
      generalize wr.heap.size = g at *
      clear H1 H2 HB
      go_loopw [6] (fun i wr => ∃ k : Nat, k ≤ 4 ∧ i = .int .i64 k ∧ Hid (NF .i64 wr g 153 6 (fun c => (cN f b k c : Nat))) ∧ Hid (NB .u8 wr w.heap.size 71 zs) ∧ Hid (NB .u8 wr (w.heap.size + 1) 71 ((blurV f).take b ++ zs.drop b)) ∧ Hid (Below w.heap.size w wr)) (fun i _ => 4 - (intOf i).toNat)
      case atStart => exact ⟨0, by omega, rfl, HC, H1a, H2a, HBa⟩
      case round =>
        clear HC H1a H2a HBa
        obtain ⟨k, hk4, rfl, HC, H1, H2, HB⟩ := hrel
        by_cases hlt2 : k < 4
        · have hltk : (k : Int) < 4 := by omega
          have hci := cidx_lt hlt hlt2
          obtain ⟨c, hc⟩ : ∃ c : Nat, rn f (cidx b k) = (c : Int) := ⟨(rn f (cidx b k)).toNat, by have := HP.out (cidx b k); omega⟩
          have hc6 : c < 6 := by
            have := allB_iff.1 H5.out (cidx b k) (by rw [HF.out]; exact hci)
            simp at this
            omega
          have hx0 := (HB.out.cell (p := ad.add (cidx b k)) (by rw [addr_block]; exact hb)).trans (cells_nums H0.out (k := cidx b k) (by rw [HF.out]; exact hci))
          rw [hc] at hx0
          have hx1 := HC.out.cell hc6
          have hf1 := HC.out.frozen c
          go_wp2
          go_still_tail 21, (by kernel_rfl)
          still_call (idx_call b k hlt hlt2 _)
          have hcil : ((cidx b k : Nat) : Int) < 24 := by omega
          have hcl : (c : Int) < 6 := by omega
          have hcnt : cN f b k c ≤ k := cnt_le _ _
          have hst := fun d => cN_step f b k c d hc
          have HST := Lib.hid hst
          clear hst
          generalize cidx b k = ci at *
          repeat still_step
          refine wpStill_nil ?_
          go_simp
          have HC2 := Lib.hid ((NF.set HC.out hc6 (((cN f b k c : Nat) : Int) + 1)).ext (f' := fun d => (cN f b (k + 1) d : Nat)) (fun i hi => by
            rw [HST.out i]
            by_cases e : i = c
            · subst e; simp only [if_true]; push_cast; rfl
            · simp [e]))
          go_wp2
          go_roundw
          case rel => exact ⟨k + 1, by omega, by go_num, HC2, H1.out.far (by simp; omega) _, H2.out.far (by simp; omega) _, set_below (below_one HB.out) (by simp; omega) _⟩
          case measure => first|(simp [intOf]; done)|(simp [intOf]; omega)
        · have e4 : k = 4 := by omega
          rw [e4] at HC
          clear e4
          go_wp2
          go_loopw [7, 8] (fun v i wr => ∃ n q : Nat, 1 ≤ n ∧ n ≤ 6 ∧ i = .int .i64 n ∧ v = .int .i64 (bestTo (cN f b 4) n) ∧ Hid (NF .i64 wr g 153 6 (fun c => (cN f b 4 c : Nat))) ∧ Hid (NB .u8 wr w.heap.size 71 zs) ∧ Hid (NB .u8 wr (w.heap.size + 1) 71 ((blurV f).take b ++ zs.drop b)) ∧ Hid (Below w.heap.size w wr)) (fun _ i _ => 6 - (intOf i).toNat)
          case atStart => exact ⟨1, 0, Nat.le_refl _, by omega, rfl, by simp [bestTo], HC, H1, H2, HB⟩
          case round =>
            clear HC H1 H2 HB
            obtain ⟨n, q, hn1, hn6, rfl, rfl, HC, H1, H2, HB⟩ := hrel
            by_cases hlt3 : n < 6
            · have hltn : (n : Int) < 6 := by omega
              have hbl := bestTo_lt (cN f b 4) hn1
              have hx0 := HC.out.cell hlt3
              have hx1 := HC.out.cell (show bestTo (cN f b 4) n < 6 by omega)
              have hbs : Hid (bestTo (cN f b 4) (n + 1) = if cN f b 4 (bestTo (cN f b 4) n) < cN f b 4 n then n else bestTo (cN f b 4) n) := rfl
              have hble : (bestTo (cN f b 4) n : Int) < 6 := by omega
              generalize bestTo (cN f b 4) n = bn at *
              by_cases hcmp : cN f b 4 bn < cN f b 4 n
              · have HS := Lib.hid (hbs.out.trans (if_pos hcmp))
                have hcmpi : ((cN f b 4 bn : Nat) : Int) < ((cN f b 4 n : Nat) : Int) := by omega
                go_wp2
                go_quiet (fail)
                go_wp2
                go_roundw
                case rel => exact ⟨n + 1, q, by omega, by omega, by go_num, by rw [HS.out], HC, H1, H2, below_dN HB.out _⟩
                case measure => first|(simp [intOf]; done)|(simp [intOf]; omega)
              · have HS := Lib.hid (hbs.out.trans (if_neg hcmp))
                have hcmpi : ¬ ((cN f b 4 bn : Nat) : Int) < ((cN f b 4 n : Nat) : Int) := by omega
                go_wp2
                go_quiet (fail)
                go_wp2
                go_roundw
                case rel => exact ⟨n + 1, q, by omega, by omega, by go_num, by rw [HS.out], HC, H1, H2, below_dN HB.out _⟩
                case measure => first|(simp [intOf]; done)|(simp [intOf]; omega)
            · have e6 : n = 6 := by omega
              have hbl := bestTo_lt (cN f b 4) hn1
              have hba : Hid (((bestTo (cN f b 4) 6 : Nat) : Int) = rn (blurV f) b) := by
                unfold Hid
                simp [rn, blurV, List.getD_eq_getElem?_getD, hlt, blurAt]
              have hwr : ((bestTo (cN f b 4) n : Nat) : Int) = rn (blurV f) b := by rw [← hba.out, e6]
              have hl3 : b < ((blurV f).take b ++ zs.drop b).length := by simp [blurV_length, HZ.out]; omega
              have hc3 := H2.out.cell hl3
              have hf3 := H2.out.frozen b
              have HWR := Lib.hid hwr
              clear hwr hl3 e6
              go_wp2
              go_roundw
              case rel =>
                refine ⟨b + 1, by omega, by go_num, H1.out.far (by simp) _, ?_, set_below HB.out (by simp <;> omega) _⟩
                rw [← take_step (by rw [blurV_length]; exact hlt) (by rw [blurV_length, HZ.out]), HWR.out]
                exact H2.out.set b _
              case measure => first|(simp [intOf]; done)|(simp [intOf]; omega)
    · have h3 := H2.out
      rw [List.take_of_length_le (by rw [blurV_length]; omega), List.drop_of_length_le (by rw [HZ.out]; omega), List.append_nil] at h3
      have H3' := Lib.hid h3
      clear H2 h3
      go_wp2_with (first | (refine load_agg rfl 71 (.tmp 3) rfl ⟨w.heap.size + 1, 0, none⟩ rfl (nums .u8 (blurV f)) _ H3'.out.range Try.underlying71 rfl (by rw [nums_length, blurV_length]; exact ainfo_six) ?_) | (refine wpList_store_mid rfl 71 (.tmp 2) (.tmp 56) rfl w.heap.size 0 (nums .u8 (blurV f)).toArray rfl rfl (by simpa [nums, blurV_length, HZ.out] using H1.out.there) (by simp only [List.size_toArray, nums_length, blurV_length]; exact ainfo_six) (all_oneCell_toArray (nums_one _ _)) ?_))
      have hw := H1.out.over (ys := blurV f) (by rw [blurV_length, HZ.out])
      exact bodyPost_ret (results_cell_row rfl _ _ w.heap.size 71 (nums .u8 (blurV f)).toArray (0, 0) _ rfl hw Try.underlying71 rfl (by simp only [List.size_toArray, nums_length, blurV_length]; exact ainfo_six)) rfl ⟨rfl, setCells_below HB.out (by omega) _ _⟩
end Go.Proofs.Ytjadhhnajphibaa
