/- Plain: words that have been taken are far apart, no more than the bound, and no other word could be added. -/
import Derived.Test.YtjadhhnajphibaaW14
import Derived.Test.YtjadhhnajphibaaW10
import Derived.Test.YtjadhhnajphibaaW13
set_option linter.unusedVariables false
set_option linter.unusedSimpArgs false
namespace Go.Proofs.Ytjadhhnajphibaa

theorem cnt_congr {p q : Nat → Bool} : ∀ {n : Nat}, (∀ i, i < n → p i = q i) → cnt p n = cnt q n
  | 0, _ => rfl
  | n + 1, h => by rw [cnt, cnt, cnt_congr (fun i hi => h i (by omega)), h n (by omega)]
theorem cnt_tri {p q r : Nat → Bool} : ∀ {n : Nat}, (∀ i, i < n → r i = true → p i = true ∨ q i = true) → cnt r n ≤ cnt p n + cnt q n
  | 0, _ => Nat.zero_le _
  | n + 1, h => by
    have ih := cnt_tri (p := p) (q := q) (r := r) (n := n) (fun i hi => h i (by omega))
    rw [cnt, cnt, cnt]
    rcases hr : r n with _ | _
    · simp; omega
    · rcases h n (by omega) hr with h1 | h1
      · simp [h1]; omega
      · simp [h1]; omega
theorem cnt_zero {p : Nat → Bool} : ∀ {n : Nat}, (∀ i, i < n → p i = false) → cnt p n = 0
  | 0, _ => rfl
  | n + 1, h => by rw [cnt, cnt_zero (fun i hi => h i (by omega)), h n (by omega)]; rfl
theorem diffs_comm {xs ys : List Int} (h : xs.length = ys.length) : diffs xs ys = diffs ys xs := by
  unfold diffs diffsTo
  rw [h]
  exact cnt_congr fun i _ => bne_swap _ _
theorem diffs_tri {xs ys zs : List Int} (h : xs.length = ys.length) (h' : ys.length = zs.length) : diffs xs zs ≤ diffs xs ys + diffs ys zs := by
  unfold diffs diffsTo
  rw [← h]
  refine cnt_tri fun i _ hr => ?_
  by_cases e : rn xs i = rn ys i
  · right
    rw [bne_iff_ne] at hr ⊢
    rw [← e]; exact hr
  · left
    rw [bne_iff_ne]; exact e
theorem diffs_self (xs : List Int) : diffs xs xs = 0 := cnt_zero fun i _ => by simp
theorem diffs_le (xs ys : List Int) : diffs xs ys ≤ xs.length := cnt_le _ _

/-! ### words by rank -/
theorem wd_rn {q m r i : Nat} (h : i < m) : rn (wd q m r) i = ((r / q ^ (m - 1 - i) % q : Nat) : Int) := by simp [rn, wd, List.getD_eq_getElem?_getD, h]
theorem wd_lets {q m r : Nat} (hq : 1 ≤ q) : Lets (wd q m r) q := by
  intro i hi
  rw [wd_length] at hi
  rw [wd_rn hi]
  have : r / q ^ (m - 1 - i) % q < q := Nat.mod_lt _ (by omega)
  omega
theorem ext_rn {xs ys : List Int} (hl : xs.length = ys.length) (h : ∀ i, i < xs.length → rn xs i = rn ys i) : xs = ys := by
  apply List.ext_getElem hl
  intro i h1 h2
  have := h i h1
  simpa [rn, List.getD_eq_getElem?_getD, h1, h2] using this
theorem wd_snoc {q m r y : Nat} (hy : y < q) : wd q (m + 1) (r * q + y) = wd q m r ++ [(y : Int)] := by
  refine ext_rn (by simp [wd_length]) fun i hi => ?_
  rw [wd_length] at hi
  rw [wd_rn hi]
  by_cases e : i < m
  · rw [rn_snoc_lt (by rw [wd_length]; exact e), wd_rn e]
    have h1 : m + 1 - 1 - i = (m - 1 - i) + 1 := by omega
    rw [h1, Nat.pow_succ, Nat.mul_comm (q ^ _) q, ← Nat.div_div_eq_div_mul]
    have h2 : (r * q + y) / q = r := by
      rw [Nat.mul_comm, Nat.mul_add_div (by omega), Nat.div_eq_of_lt hy, Nat.add_zero]
    rw [h2]
  · have e1 : i = m := by omega
    subst e1
    have h2 := rn_snoc_eq (wd q i r) (y : Int)
    rw [wd_length] at h2
    rw [h2]
    have h1 : i + 1 - 1 - i = 0 := by omega
    rw [h1, Nat.pow_zero, Nat.div_one, Nat.mul_comm, Nat.mul_add_mod, Nat.mod_eq_of_lt hy]
theorem wd_surj {q : Nat} : ∀ (m : Nat) (ys : List Int), ys.length = m → Lets ys q → ∃ r, r < q ^ m ∧ ys = wd q m r
  | 0, ys, hl, _ => ⟨0, by simp, by have : ys = [] := List.eq_nil_of_length_eq_zero hl; simp [this, wd]⟩
  | m + 1, ys, hl, hy => by
    obtain ⟨zs, y, rfl⟩ : ∃ zs y, ys = zs ++ [y] := ⟨ys.dropLast, ys.getLast (by intro h; simp [h] at hl), (List.dropLast_concat_getLast _).symm⟩
    have hz : zs.length = m := by simpa using hl
    have hL : Lets zs q := fun i hi => by
      have := hy i (by simp; omega)
      rwa [rn_snoc_lt hi] at this
    have hlast := hy zs.length (by simp)
    rw [rn_snoc_eq] at hlast
    obtain ⟨r, hr, rfl⟩ := wd_surj m zs hz hL
    refine ⟨r * q + y.toNat, ?_, ?_⟩
    · rw [Nat.pow_succ]
      have h1 : (r + 1) * q ≤ q ^ m * q := Nat.mul_le_mul_right q hr
      rw [Nat.add_mul] at h1
      omega
    · rw [wd_snoc (by omega), Int.toNat_of_nonneg hlast.1]

/-! ### the words that are taken -/
theorem grTo_count (q m d r : Nat) : (grTo q m d r).length ≤ r := by
  induction r with
  | zero => simp [grTo]
  | succ r ih =>
    unfold grTo
    split
    · simp; omega
    · omega
theorem grTo_pre {q m d r : Nat} : ∀ k, (grTo q m d r).length ≤ (grTo q m d (r + k)).length ∧ ∀ i, i < (grTo q m d r).length → rl (grTo q m d (r + k)) i = rl (grTo q m d r) i
  | 0 => ⟨Nat.le_refl _, fun _ _ => rfl⟩
  | k + 1 => by
    have ih := grTo_pre (q := q) (m := m) (d := d) (r := r) k
    rw [show r + (k + 1) = (r + k) + 1 from rfl]
    by_cases hc : (grTo q m d (r + k)).length < 60 ∧ fitB (grTo q m d (r + k)) (wd q m (r + k)) d = true
    · rw [grTo_yes hc.1 hc.2]
      refine ⟨by simp; omega, fun i hi => ?_⟩
      rw [rl_append_left (by omega)]
      exact ih.2 i hi
    · rw [grTo_no hc]
      exact ih
theorem grTo_pos {q m d r : Nat} (hr : 1 ≤ r) : 1 ≤ (grTo q m d r).length := by
  have h1 : (grTo q m d 1).length = 1 := by
    rw [show (1 : Nat) = 0 + 1 from rfl, grTo_yes (by simp [grTo]) (by simp [grTo, fitB, allB])]
    simp [grTo]
  have := (grTo_pre (q := q) (m := m) (d := d) (r := 1) (r - 1)).1
  rw [show 1 + (r - 1) = r by omega] at this
  omega
theorem grTo_lets {q m d r : Nat} (hq : 1 ≤ q) {k : Nat} (h : k < (grTo q m d r).length) : Lets (rl (grTo q m d r) k) q := by
  induction r with
  | zero => simp [grTo] at h
  | succ r ih =>
    by_cases hc : (grTo q m d r).length < 60 ∧ fitB (grTo q m d r) (wd q m r) d = true
    · rw [grTo_yes hc.1 hc.2] at h ⊢
      by_cases hk : k < (grTo q m d r).length
      · rw [rl_append_left hk]; exact ih hk
      · rw [rl_append_right (by omega)]
        have : k - (grTo q m d r).length = 0 := by simp at h; omega
        rw [this]
        exact wd_lets hq
    · rw [grTo_no hc] at h ⊢
      exact ih h
theorem grTo_apart {q m d r : Nat} {i k : Nat} (hik : i < k) (h : k < (grTo q m d r).length) : d ≤ diffs (rl (grTo q m d r) i) (rl (grTo q m d r) k) := by
  induction r with
  | zero => simp [grTo] at h
  | succ r ih =>
    by_cases hc : (grTo q m d r).length < 60 ∧ fitB (grTo q m d r) (wd q m r) d = true
    · rw [grTo_yes hc.1 hc.2] at h ⊢
      by_cases hk : k < (grTo q m d r).length
      · rw [rl_append_left hk, rl_append_left (show i < (grTo q m d r).length by omega)]; exact ih hk
      · have e1 : k = (grTo q m d r).length := by simp at h; omega
        rw [rl_append_left (show i < (grTo q m d r).length by omega), rl_append_right (show (grTo q m d r).length ≤ k by omega)]
        have e2 : k - (grTo q m d r).length = 0 := by omega
        rw [e2]
        exact of_decide_eq_true (allB_iff.1 hc.2 i (by omega))
    · rw [grTo_no hc] at h ⊢
      exact ih h
/-- no other word could be added. -/
theorem grTo_max {q m d N r : Nat} (hd : 1 ≤ d) (hr : r < N) (hl : (grTo q m d N).length < 60) : ∃ i, i < (grTo q m d N).length ∧ diffs (rl (grTo q m d N) i) (wd q m r) < d := by
  have h0 := grTo_pre (q := q) (m := m) (d := d) (r := r) (N - r)
  rw [show r + (N - r) = N by omega] at h0
  have h1 := grTo_pre (q := q) (m := m) (d := d) (r := r + 1) (N - (r + 1))
  rw [show r + 1 + (N - (r + 1)) = N by omega] at h1
  by_cases hf : fitB (grTo q m d r) (wd q m r) d = true
  · have hy := grTo_yes (by omega) hf
    rw [hy] at h1
    refine ⟨(grTo q m d r).length, by have := h1.1; simp at this; omega, ?_⟩
    rw [h1.2 _ (by simp), rl_append_right (Nat.le_refl _)]
    simp [rl, diffs_self]
    omega
  · have hf' : fitB (grTo q m d r) (wd q m r) d = false := by simpa using hf
    have : ¬ ∀ i, i < (grTo q m d r).length → decide (d ≤ diffs (rl (grTo q m d r) i) (wd q m r)) = true := fun hc => hf (allB_iff.2 hc)
    obtain ⟨i, hi⟩ := Classical.not_forall.1 this
    obtain ⟨hi1, hi2⟩ := Classical.not_imp.1 hi
    refine ⟨i, by omega, ?_⟩
    rw [h0.2 i hi1]
    simpa using hi2
theorem a1 : (grTo 2 3 3 (pw 2 3)).length ≤ sphV 2 3 3 := by decide +kernel
theorem a2 : (grTo 3 3 3 (pw 3 3)).length ≤ sphV 3 3 3 := by decide +kernel
theorem a3 : (grTo 4 3 3 (pw 4 3)).length ≤ sphV 4 3 3 := by decide +kernel
theorem a4 : (grTo 2 4 3 (pw 2 4)).length ≤ sphV 2 4 3 := by decide +kernel
theorem a5 : (grTo 3 4 3 (pw 3 4)).length ≤ sphV 3 4 3 := by decide +kernel
theorem a6 : (grTo 4 4 3 (pw 4 4)).length ≤ sphV 4 4 3 := by decide +kernel
theorem a7 : (grTo 2 4 4 (pw 2 4)).length ≤ sphV 2 4 4 := by decide +kernel
theorem a8 : (grTo 3 4 4 (pw 3 4)).length ≤ sphV 3 4 4 := by decide +kernel
theorem a9 : (grTo 4 4 4 (pw 4 4)).length ≤ sphV 4 4 4 := by decide +kernel
theorem gr_bound {q m d : Nat} (hq : 2 ≤ q) (hq' : q ≤ 4) (hd : 1 ≤ d) (hd' : d ≤ m) (hm : m ≤ 4) : (grTo q m d (pw q m)).length ≤ sphV q m d := by
  by_cases h : d ≤ 2
  · have : sphV q m d = pw q m := by simp [sphV, nearV, h]
    rw [this]
    exact grTo_count ..
  · have h1 : q = 2 ∨ q = 3 ∨ q = 4 := by omega
    have h2 : (m = 3 ∧ d = 3) ∨ (m = 4 ∧ d = 3) ∨ (m = 4 ∧ d = 4) := by omega
    rcases h1 with rfl | rfl | rfl <;> rcases h2 with ⟨rfl, rfl⟩ | ⟨rfl, rfl⟩ | ⟨rfl, rfl⟩
    · exact a1
    · exact a4
    · exact a7
    · exact a2
    · exact a5
    · exact a8
    · exact a3
    · exact a6
    · exact a9
end Go.Proofs.Ytjadhhnajphibaa
