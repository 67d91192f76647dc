/- Contracts of functions and plain lemmas that the row stands on: Copies of rows of arrays. slices.Concat. The smallest functions: ranges, codes, sizes, powers. The word with a rank: two functions that fill a row of their own. No conditions beyond those that each theorem names. -/
import Derived.Test.YtjadhhnajphibaaGC1
set_option linter.unusedVariables false
set_option linter.unusedSimpArgs false
namespace Go.Proofs.Ytjadhhnajphibaa
open Go.RowKit Go.Proofs.YtjadhhnajphibaaW.PrintWords

theorem uinfo_flag : (Try.prog.info? 78).map (fun i => (i.zero, i.size, i.bytes)) = some (some (av (List.replicate 24 0)), 24, 24) := by kernel_rfl
theorem uinfo_sight : (Try.prog.info? 72).map (fun i => (i.zero, i.size, i.bytes)) = some (some (av (List.replicate 6 0)), 6, 6) := by kernel_rfl
theorem ainfo_flag' : (Try.prog.info? 77).map (·.size) = some 24 := by kernel_rfl
theorem ainfo_sight' : (Try.prog.info? 71).map (·.size) = some 6 := by kernel_rfl
theorem rn_rep (k i : Nat) : rn (List.replicate k 0) i = 0 := by
  by_cases h : i < k
  · simp [rn, List.getD_eq_getElem?_getD, List.getElem?_replicate, h]
  · simp [rn, List.getD_eq_getElem?_getD, List.getElem?_replicate, h]
/-- what has been copied behind k rounds. -/
def flatTo (fs : List (List Int)) (n k : Nat) : List Int := flat (fs.take k) ++ List.replicate ((fs.length - k) * n) 0
theorem flatTo_zero (fs : List (List Int)) (n : Nat) : flatTo fs n 0 = List.replicate (fs.length * n) 0 := by simp [flatTo, flat]
theorem flatTo_all (fs : List (List Int)) (n : Nat) : flatTo fs n fs.length = flat fs := by simp [flatTo]
theorem flatTo_length {fs : List (List Int)} {n k : Nat} (h : ∀ f ∈ fs, f.length = n) (hk : k ≤ fs.length) : (flatTo fs n k).length = fs.length * n := by
  unfold flatTo
  rw [List.length_append, flat_length (n := n) (fun f hf => h f (List.mem_of_mem_take hf)), List.length_replicate, List.length_take, Nat.min_eq_left hk, ← Nat.add_mul]
  congr 1
  omega
theorem flatTo_step {fs : List (List Int)} {n k : Nat} (h : ∀ f ∈ fs, f.length = n) (hk : k < fs.length) :
    (flatTo fs n k).take (k * n) ++ rl fs k ++ (flatTo fs n k).drop (k * n + n) = flatTo fs n (k + 1) := by
  have hl : (flat (fs.take k)).length = k * n := by rw [flat_length (n := n) (fun f hf => h f (List.mem_of_mem_take hf)), List.length_take, Nat.min_eq_left (by omega)]
  have h1 : fs.take (k + 1) = fs.take k ++ [rl fs k] := by
    rw [List.take_succ_eq_append_getElem hk]
    simp [rl, List.getD_eq_getElem?_getD, hk]
  unfold flatTo
  rw [h1, flat_snoc, List.take_left' hl, List.drop_append, List.drop_of_length_le (by omega), List.nil_append, List.drop_replicate, hl]
  congr 2
  have : fs.length - k = (fs.length - (k + 1)) + 1 := by omega
  rw [this, Nat.add_mul, Nat.one_mul]
  omega

set_option maxRecDepth 100000 in
set_option maxHeartbeats 2000000 in
theorem toFlagS_ok (A : Option Addr) (c : Nat) (fs : List (List Int)) (w : World) (hn : fs.length ≤ 1048576) (h0 : (Karr 24).C w A fs.length fs) :
    Calls Try.prog 81 #[.slice A fs.length c] w fun e w' => ∃ g, e = .returned (.slice (some ⟨g, 0, none⟩) fs.length fs.length) ∧ w.heap.size ≤ g ∧ g < w'.heap.size ∧ NB .u8 w' g 78 (flat fs) ∧ (∀ f ∈ fs, f.length = 24) ∧ Below w.heap.size w w' := by
  have hlens := lens_of (C_lens h0).2
  have HL := Lib.hid hlens
  have HC := Lib.hid h0
  have hmk := make_arr (P := Try.prog) 44 78 (List.replicate 24 0) 24 Try.underlying44 uinfo_flag (by simp) (rn_rep _) fs.length (by omega) (by omega)
  have hm : fs.length ≤ 9223372036854775807 := by omega
  clear hlens h0
  go_enter Try.func81, Try.ntmps81
  go_wp2
  clear hmk
  have H1 := Lib.hid (NB.new (kd := .u8) w 78 (List.replicate (fs.length * 24) 0))
  have HB := Lib.hid (below_box w (.cells (nums .u8 (List.replicate (fs.length * 24) 0)).toArray 78))
  generalize w.alloc (.cells (nums .u8 (List.replicate (fs.length * 24) 0)).toArray 78) = W0 at *
  rw [← flatTo_zero] at H1
  go_loopw [4] (fun i wr => ∃ k : Nat, k ≤ fs.length ∧ i = .int .i64 k ∧ Hid (NB .u8 wr w.heap.size 78 (flatTo fs 24 k)) ∧ Hid (Below w.heap.size w wr)) (fun i _ => fs.length - (intOf i).toNat)
  case atStart => exact ⟨0, by omega, rfl, H1, HB⟩
  case round =>
    clear H1 HB
    obtain ⟨k, hk, rfl, H1, HB⟩ := hrel
    by_cases hlt : k < fs.length
    · obtain ⟨ad, rfl, hlk, hcell⟩ := at_arr (C_below' HC.out HB.out) hlt
      have HCELL := Lib.hid hcell
      have HLK := Lib.hid hlk
      have hlti : (k : Int) < (fs.length : Int) := by omega
      clear hcell hlk
      go_wp2_with (first | (refine load_agg rfl 77 (.tmp 18) rfl (ad.add (k * 24)) rfl (nums .u8 (rl fs k)) _ HCELL.out Try.underlying77 rfl (by rw [nums_length, HLK.out]; exact ainfo_flag') ?_) | (go_at_call 113; refine (toFlag_ok (rl fs k) HLK.out _).mono ?_; rintro e w1 ⟨rfl, hb1⟩; have H2 := Lib.hid (H1.out.below hb1); have HB2 := Lib.hid (HB.out.trans (hb1.mono HB.out.size)); clear hb1) | (unfold av; refine wpList_store_mid rfl 78 (.tmp 21) (.tmp 20) rfl w.heap.size (k * 24) (nums .u8 (rl fs k)).toArray rfl rfl (NB.there_mid H2.out (by rw [flatTo_length HL.out hk]; simp only [List.size_toArray, nums_length, HLK.out]; omega)) (by simp only [List.size_toArray, nums_length, HLK.out]; exact ainfo_flag) (all_oneCell_toArray (nums_one _ _)) ?_))
      go_roundw
      case rel =>
        refine ⟨k + 1, by omega, by go_num, ?_, setCells_below HB2.out (Nat.le_refl _) _ _⟩
        rw [← flatTo_step HL.out hlt]
        have h3 := NB.mid H2.out (o := k * 24) (ys := rl fs k) (by rw [flatTo_length HL.out hk, HLK.out]; omega)
        rw [HLK.out] at h3
        exact h3
      case measure => first|(simp [intOf]; done)|(simp [intOf]; omega)
    · have ek : k = fs.length := by omega
      subst ek
      have h1 := H1.out
      rw [flatTo_all] at h1
      have H1' := Lib.hid h1
      clear h1 H1
      go_wp2
      go_ret
      exact ⟨_, rfl, Nat.le_refl _, H1'.out.lt, H1'.out, HL.out, HB.out⟩

set_option maxRecDepth 100000 in
set_option maxHeartbeats 2000000 in
theorem toSightS_ok (A : Option Addr) (c : Nat) (fs : List (List Int)) (w : World) (hn : fs.length ≤ 1048576) (h0 : (Karr 6).C w A fs.length fs) :
    Calls Try.prog 34 #[.slice A fs.length c] w fun e w' => ∃ g, e = .returned (.slice (some ⟨g, 0, none⟩) fs.length fs.length) ∧ w.heap.size ≤ g ∧ g < w'.heap.size ∧ NB .u8 w' g 72 (flat fs) ∧ (∀ f ∈ fs, f.length = 6) ∧ Below w.heap.size w w' := by
  have hlens := lens_of (C_lens h0).2
  have HL := Lib.hid hlens
  have HC := Lib.hid h0
  have hmk := make_arr (P := Try.prog) 50 72 (List.replicate 6 0) 6 Try.underlying50 uinfo_sight (by simp) (rn_rep _) fs.length (by omega) (by omega)
  have hm : fs.length ≤ 9223372036854775807 := by omega
  clear hlens h0
  go_enter Try.func34, Try.ntmps34
  go_wp2
  clear hmk
  have H1 := Lib.hid (NB.new (kd := .u8) w 72 (List.replicate (fs.length * 6) 0))
  have HB := Lib.hid (below_box w (.cells (nums .u8 (List.replicate (fs.length * 6) 0)).toArray 72))
  generalize w.alloc (.cells (nums .u8 (List.replicate (fs.length * 6) 0)).toArray 72) = W0 at *
  rw [← flatTo_zero] at H1
  go_loopw [4] (fun i wr => ∃ k : Nat, k ≤ fs.length ∧ i = .int .i64 k ∧ Hid (NB .u8 wr w.heap.size 72 (flatTo fs 6 k)) ∧ Hid (Below w.heap.size w wr)) (fun i _ => fs.length - (intOf i).toNat)
  case atStart => exact ⟨0, by omega, rfl, H1, HB⟩
  case round =>
    clear H1 HB
    obtain ⟨k, hk, rfl, H1, HB⟩ := hrel
    by_cases hlt : k < fs.length
    · obtain ⟨ad, rfl, hlk, hcell⟩ := at_arr (C_below' HC.out HB.out) hlt
      have HCELL := Lib.hid hcell
      have HLK := Lib.hid hlk
      have hlti : (k : Int) < (fs.length : Int) := by omega
      clear hcell hlk
      go_wp2_with (first | (refine load_agg rfl 71 (.tmp 18) rfl (ad.add (k * 6)) rfl (nums .u8 (rl fs k)) _ HCELL.out Try.underlying71 rfl (by rw [nums_length, HLK.out]; exact ainfo_sight') ?_) | (go_at_call 92; refine (toSight_ok (rl fs k) HLK.out _).mono ?_; rintro e w1 ⟨rfl, hb1⟩; have H2 := Lib.hid (H1.out.below hb1); have HB2 := Lib.hid (HB.out.trans (hb1.mono HB.out.size)); clear hb1) | (unfold av; refine wpList_store_mid rfl 72 (.tmp 21) (.tmp 20) rfl w.heap.size (k * 6) (nums .u8 (rl fs k)).toArray rfl rfl (NB.there_mid H2.out (by rw [flatTo_length HL.out hk]; simp only [List.size_toArray, nums_length, HLK.out]; omega)) (by simp only [List.size_toArray, nums_length, HLK.out]; exact ainfo_sight) (all_oneCell_toArray (nums_one _ _)) ?_))
      go_roundw
      case rel =>
        refine ⟨k + 1, by omega, by go_num, ?_, setCells_below HB2.out (Nat.le_refl _) _ _⟩
        rw [← flatTo_step HL.out hlt]
        have h3 := NB.mid H2.out (o := k * 6) (ys := rl fs k) (by rw [flatTo_length HL.out hk, HLK.out]; omega)
        rw [HLK.out] at h3
        exact h3
      case measure => first|(simp [intOf]; done)|(simp [intOf]; omega)
    · have ek : k = fs.length := by omega
      subst ek
      have h1 := H1.out
      rw [flatTo_all] at h1
      have H1' := Lib.hid h1
      clear h1 H1
      go_wp2
      go_ret
      exact ⟨_, rfl, Nat.le_refl _, H1'.out.lt, H1'.out, HL.out, HB.out⟩

end Go.Proofs.Ytjadhhnajphibaa
namespace Go.Proofs.Ytjadhhnajphibaa
open Go.RowKit Go.Proofs.YtjadhhnajphibaaW.PrintWords

theorem uinfo_word : (Try.prog.info? 32).map (fun i => (i.zero, i.size, i.bytes)) = some (some (.slice none 0 0), 1, 24) := by kernel_rfl
theorem zero_cells (z : Value) (m : Nat) : (Builtin.zeroCells #[z] m).toList = List.replicate m z := by
  apply List.ext_getElem
  · simp [Builtin.zeroCells]
  · intro i h1 h2
    simp [Builtin.zeroCells, Nat.mod_one]
theorem zero_one {z : Value} (h1 : z.oneCell' = true) (m : Nat) : ∀ u ∈ (Builtin.zeroCells #[z] m).toList, u.oneCell' = true := by
  intro u hu
  rw [zero_cells] at hu
  rw [(List.mem_replicate.1 hu).2]
  exact h1

set_option maxHeartbeats 1000000 in
theorem GrowW_ok (n : Nat) (hn : n ≤ 1000000000000) (w : World) : Calls Try.prog 128 #[.slice none 0 0, .int .i64 n] w fun e w' => ∃ v, e = .returned v ∧ w'.ownsRow w.heap.size 32 1 v 0 [] ∧ Below w.heap.size w w' := by
  by_cases h0 : 0 < n
  · go_enter Try.func128, Try.ntmps128
    go_wp2_with (at_builtin; refine own_zeros _ rfl (.tmp 20) (.tmp 21) 25 3 rfl w.heap.size 32 (.slice none 0 0) 1 24 Try.underlying25 Try.underlying3 uinfo_word rfl (by omega) (by omega) (.slice none 0 0) 0 [] rfl (own_nil w _ _ _) .i64 n rfl (zero_one rfl n) (by omega) (Nat.le_refl _) ?_; intro v1 w1 hown hg hat; obtain ⟨A1, c1, rfl, hc1, hcell⟩ := own_cells hown; have HO := Lib.hid (own_cut0 hown); have HG := Lib.hid hg; clear hown hg hat hcell)
    go_ret
    exact ⟨_, rfl, HO.out, (Below.refl _ _).grown HG.out (Nat.le_refl _) (by simp [Value.ownBlock])⟩
  · obtain rfl : n = 0 := by omega
    go_enter Try.func128, Try.ntmps128
    go_wp2
    go_ret
    exact ⟨_, rfl, own_nil w _ _ _, Below.refl _ _⟩

def sumTo (f : Nat → Nat) : Nat → Nat
  | 0 => 0
  | n + 1 => sumTo f n + f n
theorem sumTo_le {f : Nat → Nat} {k n : Nat} (h : k ≤ n) : sumTo f k ≤ sumTo f n := by
  induction n with
  | zero => have : k = 0 := by omega
            subst this; exact Nat.le_refl _
  | succ n ih =>
    by_cases e : k = n + 1
    · subst e; exact Nat.le_refl _
    · exact Nat.le_trans (ih (by omega)) (Nat.le_add_right _ _)
/-- the cells of the first k rows, one behind the other. -/
def catTo (cs : Nat → List Value) : Nat → List Value
  | 0 => []
  | n + 1 => catTo cs n ++ cs n
theorem catTo_length {cs : Nat → List Value} {nk : Nat → Nat} {size : Nat} : ∀ {n : Nat}, (∀ k, k < n → (cs k).length = nk k * size) → (catTo cs n).length = sumTo nk n * size
  | 0, _ => by simp [catTo, sumTo]
  | n + 1, h => by
    rw [catTo, sumTo, List.length_append, catTo_length (fun k hk => h k (by omega)), h n (by omega), Nat.add_mul]

set_option maxHeartbeats 2000000 in
theorem ConcatW_ok (A : Option Addr) (n c : Nat) (ak : Nat → Option Addr) (nk ck : Nat → Nat) (cs : Nat → List Value) (w : World) (hr : Raw w A n (fun k => .slice (ak k) (nk k) (ck k)))
    (hc : ∀ k, k < n → (cs k).length = nk k * 1 ∧ Cells w (ak k) (cs k) ∧ ∀ u ∈ cs k, u.oneCell' = true) (hs : sumTo nk n ≤ 1000000000000) :
    Calls Try.prog 106 #[.slice A n c] w fun e w' => ∃ v, e = .returned v ∧ w'.ownsRow w.heap.size 32 1 v (sumTo nk n) (catTo cs n) ∧ Below w.heap.size w w' := by
  have hm := hr.1
  have HR := Lib.hid hr
  have HC := Lib.hid hc
  clear hr hc
  go_enter Try.func106, Try.ntmps106
  go_wp2
  go_loop [3, 11] (fun x i => ∃ k : Nat, k ≤ n ∧ i = .int .i64 k ∧ x = .int .i64 (sumTo nk k)) (fun _ i => n - (intOf i).toNat)
  case atStart => exact ⟨0, Nat.zero_le _, rfl, rfl⟩
  case round =>
    obtain ⟨k, hk, rfl, rfl⟩ := hrel
    by_cases hlt : k < n
    · have hlti : (k : Int) < (n : Int) := by omega
      have hle := sumTo_le (f := nk) (show k + 1 ≤ n by omega)
      have hsum : sumTo nk (k + 1) = sumTo nk k + nk k := rfl
      have hle1 : sumTo nk k + nk k ≤ 1000000000000 := by omega
      have HS := Lib.hid hsum
      clear hsum hle
      obtain ⟨ad, rfl, hcell⟩ := HR.out.2 k hlt
      go_wp2
      go_round
      case rel => exact ⟨k + 1, by omega, by go_num, by rw [HS.out]; go_num⟩
      case measure => first|(simp [intOf]; done)|(simp [intOf]; omega)
    · obtain rfl : k = n := by omega
      go_wp2_with (go_at_call 128; refine (GrowW_ok _ hs _).mono ?_; rintro e w1 ⟨v1, rfl, hown, hb⟩; have HO := Lib.hid hown; have HB := Lib.hid hb; clear hown hb)
      go_loopw [6, 27] (fun v i wr => ∃ j : Nat, j ≤ k ∧ i = .int .i64 j ∧ Hid (wr.ownsRow w.heap.size 32 1 v (sumTo nk j) (catTo cs j)) ∧ Hid (Below w.heap.size w wr)) (fun _ i _ => k - (intOf i).toNat)
      case atStart => exact ⟨0, Nat.zero_le _, rfl, HO, HB⟩
      case round =>
        clear HO HB
        obtain ⟨j, hj, rfl, HO, HB⟩ := hrel
        by_cases hlt : j < k
        · have hlti : (j : Int) < (k : Int) := by omega
          have hle := sumTo_le (f := nk) (show j + 1 ≤ k by omega)
          have hsum : sumTo nk (j + 1) = sumTo nk j + nk j := rfl
          have hle1 : sumTo nk j + nk j ≤ 1000000000000 := by omega
          clear hsum hle
          obtain ⟨ad, rfl, hcell⟩ := (HR.out.below HB.out).2 j hlt
          obtain ⟨hl, hcc, h1⟩ := HC.out j hlt
          have HL := Lib.hid hl
          have HCC := Lib.hid (hcc.below HB.out)
          have H1 := Lib.hid h1
          clear hl hcc h1
          go_wp2_with (at_builtin; refine own_append _ rfl (.tmp 31) (.tmp 32) 25 rfl w.heap.size 32 (.slice none 0 0) 1 24 Try.underlying25 uinfo_word rfl (by omega) (by omega) _ (sumTo nk j) (catTo cs j) rfl HO.out (ak j) (nk j) (ck j) (cs j) rfl HL.out HCC.out H1.out (by omega) HB.out.size ?_; intro v1 w1 hown hg hat; have hb := HB.out.grown hg HB.out.size (own_base HO.out))
          go_roundw
          case rel => exact ⟨j + 1, by omega, by go_num, hown, hb⟩
          case measure => first|(simp [intOf]; done)|(simp [intOf]; omega)
        · obtain rfl : j = k := by omega
          go_wp2
          go_ret
          exact ⟨_, rfl, HO.out, HB.out⟩

end Go.Proofs.Ytjadhhnajphibaa
namespace Go.Proofs.Ytjadhhnajphibaa
open Go.RowKit Go.Proofs.YtjadhhnajphibaaW.PrintWords

theorem within_ok (a lo hi : Int) (w : World) : Calls Try.prog 54 #[.int .i64 a, .int .i64 lo, .int .i64 hi] w fun e w' => e = .returned (.bool (inB a lo hi)) ∧ w = w' := by
  by_cases h1 : lo ≤ a
  · by_cases h2 : a ≤ hi
    · have h := Lib.hid (inB_yes h1 h2)
      go_enter Try.func54, Try.ntmps54
      go_wp2
      go_ret
      exact ⟨ret_bool h.out.symm, rfl⟩
    · have h := Lib.hid (inB_no (n := a) (low := lo) (high := hi) (by omega))
      go_enter Try.func54, Try.ntmps54
      go_wp2
      go_ret
      exact ⟨ret_bool h.out.symm, rfl⟩
  · have h := Lib.hid (inB_no (n := a) (low := lo) (high := hi) (by omega))
    go_enter Try.func54, Try.ntmps54
    go_wp2
    go_ret
    exact ⟨ret_bool h.out.symm, rfl⟩

theorem l00In_ok (a lo hi : Int) (w : World) : Calls Try.prog 62 #[.int .i64 a, .int .i64 lo, .int .i64 hi] w fun e w' => e = .returned (.bool (inB a lo hi)) ∧ w = w' := by
  by_cases h1 : lo ≤ a
  · by_cases h2 : a ≤ hi
    · have h := Lib.hid (inB_yes h1 h2)
      go_enter Try.func62, Try.ntmps62
      go_wp2
      go_ret
      exact ⟨ret_bool h.out.symm, rfl⟩
    · have h := Lib.hid (inB_no (n := a) (low := lo) (high := hi) (by omega))
      go_enter Try.func62, Try.ntmps62
      go_wp2
      go_ret
      exact ⟨ret_bool h.out.symm, rfl⟩
  · have h := Lib.hid (inB_no (n := a) (low := lo) (high := hi) (by omega))
    go_enter Try.func62, Try.ntmps62
    go_wp2
    go_ret
    exact ⟨ret_bool h.out.symm, rfl⟩

theorem unless_ok (b : Bool) (c : Int) (w : World) : Calls Try.prog 53 #[.bool b, .int .i64 c] w fun e w' => e = .returned (.int .i64 (unlessV b c)) ∧ w = w' := by
  rcases b with _ | _
  all_goals
    go_enter Try.func53, Try.ntmps53
    go_wp2
    go_ret
    exact ⟨rfl, rfl⟩

/-- the code of letters, a length and a distance. -/
def apartV (q n d : Int) : Int := unlessV (inB q 2 37 && inB n 1 8 && inB d 1 n) 2
theorem apartCode_ok (q n d : Int) (w : World) : Calls Try.prog 52 #[.int .i64 q, .int .i64 n, .int .i64 d] w fun e w' => e = .returned (.int .i64 (apartV q n d)) ∧ w = w' := by
  rcases h1 : inB q 2 37 with _ | _
  · have h := Lib.hid (show apartV q n d = unlessV false 2 by simp [apartV, h1])
    go_enter Try.func52, Try.ntmps52
    go_wp2_with (first | (go_at_call 54; refine (within_ok _ _ _ _).mono ?_; rintro e w' ⟨rfl, rfl⟩) | (go_at_call 53; refine (unless_ok _ _ _).mono ?_; rintro e w' ⟨rfl, rfl⟩))
    go_ret
    exact ⟨ret_int h.out.symm, rfl⟩
  · rcases h2 : inB n 1 8 with _ | _
    · have h := Lib.hid (show apartV q n d = unlessV false 2 by simp [apartV, h1, h2])
      go_enter Try.func52, Try.ntmps52
      go_wp2_with (first | (go_at_call 54; refine (within_ok _ _ _ _).mono ?_; rintro e w' ⟨rfl, rfl⟩) | (go_at_call 53; refine (unless_ok _ _ _).mono ?_; rintro e w' ⟨rfl, rfl⟩))
      go_ret
      exact ⟨ret_int h.out.symm, rfl⟩
    · have h := Lib.hid (show apartV q n d = unlessV (inB d 1 n) 2 by simp [apartV, h1, h2])
      go_enter Try.func52, Try.ntmps52
      go_wp2_with (first | (go_at_call 54; refine (within_ok _ _ _ _).mono ?_; rintro e w' ⟨rfl, rfl⟩) | (go_at_call 53; refine (unless_ok _ _ _).mono ?_; rintro e w' ⟨rfl, rfl⟩))
      go_ret
      exact ⟨ret_int h.out.symm, rfl⟩

/-- powers. -/
def pw (q k : Nat) : Nat := q ^ k
theorem pw_succ (q k : Nat) : pw q (k + 1) = pw q k * q := Nat.pow_succ ..
theorem pw_bd {q k : Nat} (hq : q ≤ 37) (hk : k ≤ 8) : pw q k ≤ 3512479453921 := by
  have h1 : q ^ k ≤ 37 ^ k := Nat.pow_le_pow_left hq k
  have h2 : 37 ^ k ≤ 37 ^ 8 := Nat.pow_le_pow_right (by omega) hk
  exact Nat.le_trans h1 h2
theorem pw_step {q k : Nat} (hq : q ≤ 37) (hk : k + 1 ≤ 8) : (0 : Int) ≤ (pw q k : Int) * q ∧ (pw q k : Int) * q ≤ 3512479453921 := by
  have h := pw_bd hq hk
  rw [pw_succ] at h
  have h3 : ((pw q k * q : Nat) : Int) = (pw q k : Int) * q := by push_cast; rfl
  omega

set_option maxHeartbeats 1000000 in
theorem power_ok (a n : Int) (ha : 0 ≤ a) (ha' : a ≤ 37) (hn : 0 ≤ n) (hn' : n ≤ 8) (w : World) : Calls Try.prog 55 #[.int .i64 a, .int .i64 n] w fun e w' => e = .returned (.int .i64 (pw a.toNat n.toNat)) ∧ w = w' := by
  obtain ⟨q, rfl⟩ := Int.eq_ofNat_of_zero_le ha
  obtain ⟨m, rfl⟩ := Int.eq_ofNat_of_zero_le hn
  rw [Int.toNat_natCast, Int.toNat_natCast]
  go_enter Try.func55, Try.ntmps55
  go_wp2
  go_loop [5, 7] (fun x i => ∃ k : Nat, k ≤ m ∧ i = .int .i64 k ∧ x = .int .i64 (pw q k)) (fun _ i => m - (intOf i).toNat)
  case atStart => exact ⟨0, Nat.zero_le _, rfl, rfl⟩
  case round =>
    obtain ⟨k, hk, rfl, rfl⟩ := hrel
    by_cases hlt : k < m
    · have hp := pw_step (q := q) (k := k) (by omega) (by omega)
      obtain ⟨hp1, hp2⟩ := hp
      have HS := Lib.hid (pw_succ q k)
      go_wp2
      go_round
      case rel => exact ⟨k + 1, by omega, by go_num, by rw [HS.out]; go_num⟩
      case measure => simp [intOf]; omega
    · go_wp2
      go_ret
      obtain rfl : k = m := by omega
      exact ⟨rfl, rfl⟩

set_option maxHeartbeats 1000000 in
theorem l05Power_ok (a n : Int) (ha : 0 ≤ a) (ha' : a ≤ 37) (hn : 0 ≤ n) (hn' : n ≤ 8) (w : World) : Calls Try.prog 63 #[.int .i64 a, .int .i64 n] w fun e w' => e = .returned (.int .i64 (pw a.toNat n.toNat)) ∧ w = w' := by
  obtain ⟨q, rfl⟩ := Int.eq_ofNat_of_zero_le ha
  obtain ⟨m, rfl⟩ := Int.eq_ofNat_of_zero_le hn
  rw [Int.toNat_natCast, Int.toNat_natCast]
  go_enter Try.func63, Try.ntmps63
  go_wp2
  go_loop [1, 5] (fun i x => ∃ k d : Nat, k + d = m ∧ i = .int .i64 d ∧ x = .int .i64 (pw q k)) (fun i _ => (intOf i).toNat)
  case atStart => exact ⟨0, m, by omega, rfl, rfl⟩
  case round =>
    obtain ⟨k, d, hk, rfl, rfl⟩ := hrel
    have HK := Lib.hid hk
    have hk1 : k + d ≤ m := by omega
    clear hk
    by_cases hlt : 0 < d
    · have hp := pw_step (q := q) (k := k) (by omega) (by omega)
      obtain ⟨hp1, hp2⟩ := hp
      have HS := Lib.hid (pw_succ q k)
      go_wp2
      go_round
      case rel => exact ⟨k + 1, d - 1, by have := HK.out; omega, by go_num, by rw [HS.out]; go_num⟩
      case measure => simp [intOf]; omega
    · go_wp2
      go_ret
      obtain rfl : k = m := by have := HK.out; omega
      exact ⟨rfl, rfl⟩
end Go.Proofs.Ytjadhhnajphibaa
namespace Go.Proofs.Ytjadhhnajphibaa
open Go.RowKit Go.Proofs.YtjadhhnajphibaaW.PrintWords

theorem uinfo_u8 : (Try.prog.info? 5).map (fun i => (i.zero, i.size, i.bytes)) = some (some (.int .u8 0), 1, 1) := by kernel_rfl

/-- the word of m letters with a rank. -/
def wd (q m r : Nat) : List Int := (List.range m).map fun i => ((r / q ^ (m - 1 - i) % q : Nat) : Int)
theorem wd_length (q m r : Nat) : (wd q m r).length = m := by simp [wd]
/-- what stands behind the rounds down to k. -/
def wdTo (q m r k : Nat) : List Int := List.replicate k 0 ++ (wd q m r).drop k
theorem wdTo_length {q m r k : Nat} (h : k ≤ m) : (wdTo q m r k).length = m := by simp [wdTo, wd_length]; omega
theorem wdTo_all (q m r : Nat) : wdTo q m r m = List.replicate m 0 := by simp [wdTo, wd_length]
theorem wdTo_none (q m r : Nat) : wdTo q m r 0 = wd q m r := by simp [wdTo]
theorem wdTo_step {q m r k : Nat} (h : k + 1 ≤ m) : (wdTo q m r (k + 1)).set k ((r / q ^ (m - (k + 1)) % q : Nat) : Int) = wdTo q m r k := by
  apply List.ext_getElem
  · simp [wdTo, wd_length]; omega
  · intro i h1 h2
    rw [List.getElem_set]
    by_cases hi : k = i
    · subst hi
      simp [wdTo, List.getElem_append, wd, Nat.sub_sub, Nat.add_comm]
    · rw [if_neg hi]
      simp only [wdTo, List.getElem_append, List.length_replicate, List.getElem_replicate, List.getElem_drop]
      by_cases hik : i < k
      · simp [hik, Nat.lt_succ_of_lt hik]
      · have : ¬ i < k + 1 := by omega
        simp only [hik, this, dif_neg, not_false_iff]
        congr 1
        omega
theorem div_step (r q d : Nat) : r / q ^ d / q = r / q ^ (d + 1) := by rw [Nat.div_div_eq_div_mul, Nat.pow_succ]

set_option maxHeartbeats 1000000 in
theorem wordAt_ok (q m r : Nat) (hq : 2 ≤ q) (hq' : q ≤ 37) (hm' : m ≤ 8) (hr : r ≤ 3512479453921) (w : World) : Calls Try.prog 56 #[.int .i64 q, .int .i64 m, .int .i64 r] w fun e w' =>
    ∃ v, e = .returned v ∧ w'.ownsRow w.heap.size 5 1 v m (nums .u8 (wd q m r)) ∧ Below w.heap.size w w' := by
  have hmk := print_make (P := Try.prog) 32 5 .u8 1 Try.underlying32 uinfo_u8 (by omega) m (by omega)
  have hown := Lib.hid (own_made w w.heap.size 5 .u8 m (Nat.le_refl _) (by omega))
  have hb0 := Lib.hid (below_alloc (Below.refl w.heap.size w) (.cells (madeCells #[.int .u8 0] m) 5))
  generalize hW : w.alloc (.cells (madeCells #[.int .u8 0] m) 5) = W0 at *
  go_enter Try.func56, Try.ntmps56
  go_wp2
  clear hmk hW
  go_loopw [2, 8] (fun x i wr => ∃ k d : Nat, k + d = m ∧ i = .int .i64 ((k : Int) - 1) ∧ x = .int .i64 ((r / q ^ d : Nat) : Int) ∧
      Hid (wr.ownsRow w.heap.size 5 1 (.slice (some ⟨w.heap.size, 0, none⟩) m m) m (nums .u8 (wdTo q m r k))) ∧ Hid (Below w.heap.size w wr)) (fun _ i _ => (intOf i + 1).toNat)
  case atStart => exact ⟨m, 0, by omega, rfl, by simp, by rw [wdTo_all]; exact hown, hb0⟩
  case round =>
    obtain ⟨k, d, hk, rfl, rfl, ho, hb⟩ := hrel
    have HK := Lib.hid hk
    have hk1 : k ≤ m := by omega
    clear hk
    by_cases hlt : 0 < k
    · obtain ⟨j, rfl⟩ : ∃ j, k = j + 1 := ⟨k - 1, by omega⟩
      have hd : r / q ^ d ≤ 3512479453921 := Nat.le_trans (Nat.div_le_self _ _) hr
      have HS := Lib.hid (div_step r q d)
      generalize hx : r / q ^ d = x at *
      have HX := Lib.hid hx
      clear hx
      have hq0 : (x % q : Nat) < q := Nat.mod_lt _ (by omega)
      have ho1 := own_at ho.out (j : Int) (by omega) (by omega)
      rw [Int.toNat_natCast] at ho1
      obtain ⟨hc, hf⟩ := ho1
      have hdq : (0 : Int) ≤ (x : Int) / (q : Int) := Int.ediv_nonneg (by omega) (by omega)
      have hdq1 : (x : Int) / (q : Int) ≤ 3512479453921 := Int.le_trans (Int.ediv_le_self _ (by omega)) (by omega)
      go_wp2
      go_roundw
      case rel =>
        obtain ⟨h1, h2⟩ := own_store ho.out (j : Int) ((x : Int) % (q : Int))
        rw [Int.toNat_natCast] at h1 h2
        have he : (wdTo q m r (j + 1)).set j ((x : Int) % (q : Int)) = wdTo q m r j := by
          have hmd : m - (j + 1) = d := by have := HK.out; omega
          have h3 := wdTo_step (q := q) (m := m) (r := r) (k := j) hk1
          rw [hmd, HX.out] at h3
          rw [← h3]; simp
        rw [he] at h1
        exact ⟨j, d + 1, by have := HK.out; omega, rfl, by rw [← HS.out]; simp, h1, hb.out.grown h2 (Nat.le_of_lt (own_lt ho.out _ rfl)) (by simp)⟩
      case measure => first|(simp [intOf]; done)|(simp [intOf]; omega)
    · obtain rfl : k = 0 := by omega
      rw [wdTo_none] at ho
      go_wp2
      go_ret
      exact ⟨_, rfl, ho.out, hb.out⟩

set_option maxHeartbeats 1000000 in
theorem l05At_ok (q m r : Nat) (hq : 2 ≤ q) (hq' : q ≤ 37) (hm' : m ≤ 8) (hr : r ≤ 3512479453921) (w : World) : Calls Try.prog 64 #[.int .i64 q, .int .i64 m, .int .i64 r] w fun e w' =>
    ∃ v, e = .returned v ∧ w'.ownsRow w.heap.size 5 1 v m (nums .u8 (wd q m r)) ∧ Below w.heap.size w w' := by
  have hmk := print_make (P := Try.prog) 32 5 .u8 1 Try.underlying32 uinfo_u8 (by omega) m (by omega)
  have hown := Lib.hid (own_made w w.heap.size 5 .u8 m (Nat.le_refl _) (by omega))
  have hb0 := Lib.hid (below_alloc (Below.refl w.heap.size w) (.cells (madeCells #[.int .u8 0] m) 5))
  generalize hW : w.alloc (.cells (madeCells #[.int .u8 0] m) 5) = W0 at *
  go_enter Try.func64, Try.ntmps64
  go_wp2
  clear hmk hW
  go_loopw [2, 8] (fun x i wr => ∃ k d : Nat, k + d = m ∧ i = .int .i64 ((k : Int) - 1) ∧ x = .int .i64 ((r / q ^ d : Nat) : Int) ∧
      Hid (wr.ownsRow w.heap.size 5 1 (.slice (some ⟨w.heap.size, 0, none⟩) m m) m (nums .u8 (wdTo q m r k))) ∧ Hid (Below w.heap.size w wr)) (fun _ i _ => (intOf i + 1).toNat)
  case atStart => exact ⟨m, 0, by omega, rfl, by simp, by rw [wdTo_all]; exact hown, hb0⟩
  case round =>
    obtain ⟨k, d, hk, rfl, rfl, ho, hb⟩ := hrel
    have HK := Lib.hid hk
    have hk1 : k ≤ m := by omega
    clear hk
    by_cases hlt : 0 < k
    · obtain ⟨j, rfl⟩ : ∃ j, k = j + 1 := ⟨k - 1, by omega⟩
      have hd : r / q ^ d ≤ 3512479453921 := Nat.le_trans (Nat.div_le_self _ _) hr
      have HS := Lib.hid (div_step r q d)
      generalize hx : r / q ^ d = x at *
      have HX := Lib.hid hx
      clear hx
      have hq0 : (x % q : Nat) < q := Nat.mod_lt _ (by omega)
      have ho1 := own_at ho.out (j : Int) (by omega) (by omega)
      rw [Int.toNat_natCast] at ho1
      obtain ⟨hc, hf⟩ := ho1
      have hdq : (0 : Int) ≤ (x : Int) / (q : Int) := Int.ediv_nonneg (by omega) (by omega)
      have hdq1 : (x : Int) / (q : Int) ≤ 3512479453921 := Int.le_trans (Int.ediv_le_self _ (by omega)) (by omega)
      go_wp2
      go_roundw
      case rel =>
        obtain ⟨h1, h2⟩ := own_store ho.out (j : Int) ((x : Int) % (q : Int))
        rw [Int.toNat_natCast] at h1 h2
        have he : (wdTo q m r (j + 1)).set j ((x : Int) % (q : Int)) = wdTo q m r j := by
          have hmd : m - (j + 1) = d := by have := HK.out; omega
          have h3 := wdTo_step (q := q) (m := m) (r := r) (k := j) hk1
          rw [hmd, HX.out] at h3
          rw [← h3]; simp
        rw [he] at h1
        exact ⟨j, d + 1, by have := HK.out; omega, rfl, by rw [← HS.out]; simp, h1, hb.out.grown h2 (Nat.le_of_lt (own_lt ho.out _ rfl)) (by simp)⟩
      case measure => first|(simp [intOf]; done)|(simp [intOf]; omega)
    · obtain rfl : k = 0 := by omega
      rw [wdTo_none] at ho
      go_wp2
      go_ret
      exact ⟨_, rfl, ho.out, hb.out⟩

end Go.Proofs.Ytjadhhnajphibaa
