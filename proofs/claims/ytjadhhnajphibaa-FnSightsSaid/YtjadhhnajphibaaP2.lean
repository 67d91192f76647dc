/- Plain: what the law of words that are taken asks. -/
import Derived.Test.YtjadhhnajphibaaP1
set_option linter.unusedVariables false
set_option linter.unusedSimpArgs false
namespace Go.Proofs.Ytjadhhnajphibaa

theorem wordB_of {xs : List Int} {q : Int} (h1 : 1 ≤ xs.length) (h8 : xs.length ≤ 8) (h : Lets xs q) (hq : q ≤ 37) : wordB xs 37 = true := by
  unfold wordB
  rw [inB_yes (by omega) (by omega), Bool.true_and]
  exact allB_iff.2 fun i hi => decide_eq_true (by have := h i hi; omega)
theorem gr_words {q m d r : Nat} (hq : 1 ≤ q) (hq' : q ≤ 37) (hm : 1 ≤ m) (hm' : m ≤ 8) : wordsB (grTo q m d r) 37 = true := by
  refine allB_iff.2 fun i hi => ?_
  rw [Bool.and_eq_true, decide_eq_true_iff]
  refine ⟨wordB_of (by rw [grTo_len hi]; omega) (by rw [grTo_len hi]; omega) (grTo_lets hq hi) (by omega), ?_⟩
  rw [grTo_len hi, grTo_len (show 0 < _ by omega)]
theorem gr_words' {q m d r : Nat} {ys : List Int} (hq : 1 ≤ q) (hq' : q ≤ 37) (hm : 1 ≤ m) (hm' : m ≤ 8) (hl : ys.length = m) (hy : Lets ys q) : wordsB (grTo q m d r ++ [ys]) 37 = true := by
  have hlen : ∀ i, i < (grTo q m d r ++ [ys]).length → (rl (grTo q m d r ++ [ys]) i).length = m ∧ Lets (rl (grTo q m d r ++ [ys]) i) q := by
    intro i hi
    by_cases h : i < (grTo q m d r).length
    · rw [rl_append_left h]
      exact ⟨grTo_len h, grTo_lets hq h⟩
    · rw [rl_append_right (by omega)]
      have : i - (grTo q m d r).length = 0 := by simp at hi; omega
      rw [this]
      exact ⟨hl, hy⟩
  refine allB_iff.2 fun i hi => ?_
  rw [Bool.and_eq_true, decide_eq_true_iff]
  obtain ⟨h1, h2⟩ := hlen i hi
  exact ⟨wordB_of (by omega) (by omega) h2 (by omega), by rw [h1, (hlen 0 (by simp)).1]⟩
theorem gr_bytes {q m d r : Nat} (hq : 1 ≤ q) (hq' : q ≤ 37) : WBytes (grTo q m d r) := by
  intro i
  by_cases h : i < (grTo q m d r).length
  · exact (grTo_lets hq h).bytes (by omega)
  · intro j
    simp [rl, List.getD_eq_getElem?_getD, List.getElem?_eq_none (show (grTo q m d r).length ≤ i by omega), rn]

/-! ### the nearest pair -/
theorem nIn_low {D : Nat → Nat → Int} {d : Int} {i : Nat} {s : Near} (hs : s.l = -1 ∨ d ≤ s.l) : ∀ {n : Nat}, (∀ k, i < k → k < n → d ≤ D i k) → (nIn D i s n).l = -1 ∨ d ≤ (nIn D i s n).l
  | 0, _ => hs
  | n + 1, h => by
    have ih := nIn_low (D := D) (i := i) hs (n := n) (fun k h1 h2 => h k h1 (by omega))
    by_cases hi : i < n
    · rw [nIn_step _ _ _ _ hi]
      unfold nStep
      split
      · exact .inr (h n hi (by omega))
      · exact ih
    · rw [nIn, if_neg hi]; exact ih
theorem nOut_low {D : Nat → Nat → Int} {d : Int} {n : Nat} (h : ∀ i k, i < k → k < n → d ≤ D i k) : ∀ i, (nOut D n i).l = -1 ∨ d ≤ (nOut D n i).l
  | 0 => .inl rfl
  | i + 1 => nIn_low (nOut_low h i) fun k h1 h2 => h i k h1 h2
theorem nIn_nonneg {D : Nat → Nat → Int} {i : Nat} {s : Near} (hD : ∀ k, 0 ≤ D i k) (hs : 0 ≤ s.l) : ∀ n, 0 ≤ (nIn D i s n).l
  | 0 => hs
  | n + 1 => by
    have ih := nIn_nonneg hD hs n
    unfold nIn
    split
    · unfold nStep
      split
      · exact hD n
      · exact ih
    · exact ih
theorem nIn_some {D : Nat → Nat → Int} {i : Nat} {s : Near} (hD : ∀ k, 0 ≤ D i k) : ∀ {n : Nat}, i + 1 < n → 0 ≤ (nIn D i s n).l
  | 0, h => absurd h (by omega)
  | n + 1, h => by
    rw [nIn_step _ _ _ _ (by omega)]
    unfold nStep
    split
    · exact hD n
    · rename_i hc
      omega
theorem nOut_some {D : Nat → Nat → Int} {n : Nat} (hD : ∀ i k, 0 ≤ D i k) (hn : 1 < n) : ∀ i, 1 ≤ i → 0 ≤ (nOut D n i).l
  | 0, h => absurd h (by omega)
  | 1, _ => nIn_some (hD 0) (by omega)
  | i + 2, _ => nIn_nonneg (hD (i + 1)) (nOut_some hD hn (i + 1) (by omega)) n
theorem nOut_none {D : Nat → Nat → Int} {n : Nat} (hn : n < 2) : (nOut D n n).l = -1 := by
  have h : n = 0 ∨ n = 1 := by omega
  rcases h with rfl | rfl
  · rfl
  · simp [nOut, nIn]
theorem least_few {xss : List (List Int)} (h : xss.length < 2) : leastV xss = (0, 6) := by
  rw [leastV, nOut_none h]
  simp
theorem least_many {xss : List (List Int)} {d : Nat} (h : 2 ≤ xss.length) (hd : ∀ i k, i < k → k < xss.length → d ≤ diffs (rl xss i) (rl xss k)) : ∃ l : Int, leastV xss = (l, 0) ∧ d ≤ l := by
  have hD : ∀ i k, 0 ≤ pairD xss i k := fun i k => by unfold pairD; omega
  have h0 := nOut_some hD (n := xss.length) (by omega) xss.length (by omega)
  refine ⟨(nOut (pairD xss) xss.length xss.length).l, by rw [leastV, if_pos h0], ?_⟩
  rcases nOut_low (D := pairD xss) (d := d) (n := xss.length) (fun i k h1 h2 => by unfold pairD; have := hd i k h1 h2; omega) xss.length with h | h
  · omega
  · exact h

/-! ### at most one is near -/
theorem cnt_one {p : Nat → Bool} : ∀ {n : Nat}, (∀ i k, i < k → k < n → p i = true → p k = true → False) → cnt p n ≤ 1 ∧ (∀ i, i < n → p i = true → cnt p n = 1 ∧ lastTo p n = i)
  | 0, _ => ⟨Nat.zero_le _, fun i hi => absurd hi (by omega)⟩
  | n + 1, h => by
    obtain ⟨h1, h2⟩ := cnt_one (p := p) (n := n) (fun i k a b => h i k a (by omega))
    rcases hp : p n with _ | _
    · rw [cnt_no hp, lastTo_no hp]
      refine ⟨h1, fun i hi hpi => ?_⟩
      by_cases e : i = n
      · subst e; rw [hp] at hpi; cases hpi
      · exact h2 i (by omega) hpi
    · have h0 : cnt p n = 0 := cnt_zero fun i hi => by
        rcases hpi : p i with _ | _
        · rfl
        · exact (h i n hi (by omega) hpi hp).elim
      rw [cnt_yes hp, lastTo_yes hp, h0]
      refine ⟨Nat.le_refl _, fun i hi hpi => ?_⟩
      by_cases e : i = n
      · subst e; exact ⟨rfl, rfl⟩
      · exact (h i n (by omega) (by omega) hpi hp).elim
theorem cnt_last {p : Nat → Bool} : ∀ {n : Nat}, cnt p n ≠ 0 → ∃ i, i < n ∧ p i = true ∧ lastTo p n = i
  | 0, h => absurd rfl h
  | n + 1, h => by
    rcases hp : p n with _ | _
    · rw [cnt_no hp] at h
      obtain ⟨i, hi, h1, h2⟩ := cnt_last h
      exact ⟨i, by omega, h1, by rw [lastTo_no hp]; exact h2⟩
    · exact ⟨n, by omega, hp, lastTo_yes hp⟩
/-- what is decoded: never two words; the one that is near. -/
theorem dec_ok {q m d r : Nat} {ys : List Int} (hd : 1 ≤ d) (hl : ys.length = m) :
    let p := nearP (grTo q m d r) ys (((d : Int) - 1) / 2)
    (decP p (grTo q m d r).length).2 ≠ 8 ∧ ∀ i : Nat, i < (grTo q m d r).length →
      (p i = true → (decP p (grTo q m d r).length) = ((i : Int), 0)) ∧ (p i = false → (decP p (grTo q m d r).length).2 = 0 → (decP p (grTo q m d r).length).1 ≠ (i : Int)) := by
  intro p
  have hone := cnt_one (p := p) (n := (grTo q m d r).length) (fun i k hik hk h1 h2 => by
    have e1 := of_decide_eq_true h1
    have e2 := of_decide_eq_true h2
    have l1 := grTo_len (q := q) (m := m) (d := d) (r := r) (k := i) (by omega)
    have l2 := grTo_len (q := q) (m := m) (d := d) (r := r) hk
    have h3 := diffs_tri (xs := rl (grTo q m d r) i) (ys := ys) (zs := rl (grTo q m d r) k) (by omega) (by omega)
    rw [diffs_comm (xs := ys) (by omega)] at h3
    have h4 := grTo_apart (q := q) (m := m) (d := d) (r := r) hik hk
    omega)
  constructor
  · by_cases h0 : cnt p (grTo q m d r).length = 0
    · rw [decP_0 h0]; decide
    · rw [decP_1 (by omega)]; intro h; exact absurd h (by simp)
  · intro i hi
    refine ⟨fun h => ?_, fun h hc he => ?_⟩
    · obtain ⟨h1, h2⟩ := hone.2 i hi h
      rw [decP_1 h1, h2]
    · by_cases h0 : cnt p (grTo q m d r).length = 0
      · rw [decP_0 h0] at hc; exact absurd hc (by decide)
      · rw [decP_1 (by omega)] at he
        obtain ⟨j, hj, h1, h2⟩ := cnt_last h0
        rw [h2] at he
        have : j = i := by have he' : (j : Int) = (i : Int) := he; omega
        subst this
        rw [h1] at h; cases h

/-- the least one of so many numbers, and a first one. -/
def minTo (m : Int) (f : Nat → Int) : Nat → Int
  | 0 => m
  | n + 1 => if minTo m f n ≤ f n then minTo m f n else f n
theorem minTo_le {m : Int} {f : Nat → Int} {n i : Nat} (h : i < n) : minTo m f n ≤ f i := by
  induction n with
  | zero => omega
  | succ n ih =>
    unfold minTo
    by_cases e : i = n
    · subst e
      split
      · assumption
      · omega
    · have := ih (by omega)
      split <;> omega
theorem minTo_range {m : Int} {f : Nat → Int} {n : Nat} (hf : ∀ i, 0 ≤ f i) (hm : 0 ≤ m) : 0 ≤ minTo m f n ∧ minTo m f n ≤ m := by
  induction n with
  | zero => exact ⟨hm, Int.le_refl _⟩
  | succ n ih =>
    unfold minTo
    have := hf n
    split <;> omega
theorem near_end {q m d : Nat} {ys : List Int} (hq : 1 ≤ q) (hd : 1 ≤ d) (hl : ys.length = m) (hy : Lets ys q) (hlen : (grTo q m d (pw q m)).length < 60) :
    minTo m (fun i => (diffs (rl (grTo q m d (pw q m)) i) ys : Nat)) (grTo q m d (pw q m)).length < d := by
  obtain ⟨r, hr, rfl⟩ := wd_surj m ys hl hy
  obtain ⟨i, hi, h⟩ := grTo_max (q := q) (m := m) (d := d) (N := pw q m) hd hr hlen
  have := minTo_le (m := m) (f := fun i => ((diffs (rl (grTo q m d (pw q m)) i) (wd q m r) : Nat) : Int)) hi
  have h2 : minTo m (fun i => (diffs (rl (grTo q m d (pw q m)) i) (wd q m r) : Nat)) (grTo q m d (pw q m)).length ≤ (diffs (rl (grTo q m d (pw q m)) i) (wd q m r) : Nat) := this
  omega
end Go.Proofs.Ytjadhhnajphibaa
