/- Contracts of functions and plain lemmas that the row stands on: Plain: what the law of words that are taken asks. The nearest words: the reference's. The nearest words: the program's. No conditions beyond those that each theorem names. -/
import Derived.Test.YtjadhhnajphibaaGC10
import Derived.Test.YtjadhhnajphibaaGC9
import Derived.Test.YtjadhhnajphibaaGC6
import Derived.Deep.RegionLaw
set_option linter.unusedVariables false
set_option linter.unusedSimpArgs false
namespace Go.Proofs.Ytjadhhnajphibaa

theorem wordB_of {xs : List Int} {q : Int} (h1 : 1 ≤ xs.length) (h8 : xs.length ≤ 8) (h : Lets xs q) (hq : q ≤ 37) : wordB xs 37 = true := by
  unfold wordB
  rw [inB_yes (by omega) (by omega), Bool.true_and]
  exact allB_iff.2 fun i hi => decide_eq_true (by have := h i hi; omega)
theorem gr_words {q m d r : Nat} (hq : 1 ≤ q) (hq' : q ≤ 37) (hm : 1 ≤ m) (hm' : m ≤ 8) : wordsB (grTo q m d r) 37 = true := by
  refine allB_iff.2 fun i hi => ?_
  rw [Bool.and_eq_true, decide_eq_true_iff]
  refine ⟨wordB_of (by rw [grTo_len hi]; omega) (by rw [grTo_len hi]; omega) (grTo_lets hq hi) (by omega), ?_⟩
  rw [grTo_len hi, grTo_len (show 0 < _ by omega)]
theorem gr_words' {q m d r : Nat} {ys : List Int} (hq : 1 ≤ q) (hq' : q ≤ 37) (hm : 1 ≤ m) (hm' : m ≤ 8) (hl : ys.length = m) (hy : Lets ys q) : wordsB (grTo q m d r ++ [ys]) 37 = true := by
  have hlen : ∀ i, i < (grTo q m d r ++ [ys]).length → (rl (grTo q m d r ++ [ys]) i).length = m ∧ Lets (rl (grTo q m d r ++ [ys]) i) q := by
    intro i hi
    by_cases h : i < (grTo q m d r).length
    · rw [rl_append_left h]
      exact ⟨grTo_len h, grTo_lets hq h⟩
    · rw [rl_append_right (by omega)]
      have : i - (grTo q m d r).length = 0 := by simp at hi; omega
      rw [this]
      exact ⟨hl, hy⟩
  refine allB_iff.2 fun i hi => ?_
  rw [Bool.and_eq_true, decide_eq_true_iff]
  obtain ⟨h1, h2⟩ := hlen i hi
  exact ⟨wordB_of (by omega) (by omega) h2 (by omega), by rw [h1, (hlen 0 (by simp)).1]⟩
theorem gr_bytes {q m d r : Nat} (hq : 1 ≤ q) (hq' : q ≤ 37) : WBytes (grTo q m d r) := by
  intro i
  by_cases h : i < (grTo q m d r).length
  · exact (grTo_lets hq h).bytes (by omega)
  · intro j
    simp [rl, List.getD_eq_getElem?_getD, List.getElem?_eq_none (show (grTo q m d r).length ≤ i by omega), rn]

/-! ### the nearest pair -/
theorem nIn_low {D : Nat → Nat → Int} {d : Int} {i : Nat} {s : Near} (hs : s.l = -1 ∨ d ≤ s.l) : ∀ {n : Nat}, (∀ k, i < k → k < n → d ≤ D i k) → (nIn D i s n).l = -1 ∨ d ≤ (nIn D i s n).l
  | 0, _ => hs
  | n + 1, h => by
    have ih := nIn_low (D := D) (i := i) hs (n := n) (fun k h1 h2 => h k h1 (by omega))
    by_cases hi : i < n
    · rw [nIn_step _ _ _ _ hi]
      unfold nStep
      split
      · exact .inr (h n hi (by omega))
      · exact ih
    · rw [nIn, if_neg hi]; exact ih
theorem nOut_low {D : Nat → Nat → Int} {d : Int} {n : Nat} (h : ∀ i k, i < k → k < n → d ≤ D i k) : ∀ i, (nOut D n i).l = -1 ∨ d ≤ (nOut D n i).l
  | 0 => .inl rfl
  | i + 1 => nIn_low (nOut_low h i) fun k h1 h2 => h i k h1 h2
theorem nIn_nonneg {D : Nat → Nat → Int} {i : Nat} {s : Near} (hD : ∀ k, 0 ≤ D i k) (hs : 0 ≤ s.l) : ∀ n, 0 ≤ (nIn D i s n).l
  | 0 => hs
  | n + 1 => by
    have ih := nIn_nonneg hD hs n
    unfold nIn
    split
    · unfold nStep
      split
      · exact hD n
      · exact ih
    · exact ih
theorem nIn_some {D : Nat → Nat → Int} {i : Nat} {s : Near} (hD : ∀ k, 0 ≤ D i k) : ∀ {n : Nat}, i + 1 < n → 0 ≤ (nIn D i s n).l
  | 0, h => absurd h (by omega)
  | n + 1, h => by
    rw [nIn_step _ _ _ _ (by omega)]
    unfold nStep
    split
    · exact hD n
    · rename_i hc
      omega
theorem nOut_some {D : Nat → Nat → Int} {n : Nat} (hD : ∀ i k, 0 ≤ D i k) (hn : 1 < n) : ∀ i, 1 ≤ i → 0 ≤ (nOut D n i).l
  | 0, h => absurd h (by omega)
  | 1, _ => nIn_some (hD 0) (by omega)
  | i + 2, _ => nIn_nonneg (hD (i + 1)) (nOut_some hD hn (i + 1) (by omega)) n
theorem nOut_none {D : Nat → Nat → Int} {n : Nat} (hn : n < 2) : (nOut D n n).l = -1 := by
  have h : n = 0 ∨ n = 1 := by omega
  rcases h with rfl | rfl
  · rfl
  · simp [nOut, nIn]
theorem least_few {xss : List (List Int)} (h : xss.length < 2) : leastV xss = (0, 6) := by
  rw [leastV, nOut_none h]
  simp
theorem least_many {xss : List (List Int)} {d : Nat} (h : 2 ≤ xss.length) (hd : ∀ i k, i < k → k < xss.length → d ≤ diffs (rl xss i) (rl xss k)) : ∃ l : Int, leastV xss = (l, 0) ∧ d ≤ l := by
  have hD : ∀ i k, 0 ≤ pairD xss i k := fun i k => by unfold pairD; omega
  have h0 := nOut_some hD (n := xss.length) (by omega) xss.length (by omega)
  refine ⟨(nOut (pairD xss) xss.length xss.length).l, by rw [leastV, if_pos h0], ?_⟩
  rcases nOut_low (D := pairD xss) (d := d) (n := xss.length) (fun i k h1 h2 => by unfold pairD; have := hd i k h1 h2; omega) xss.length with h | h
  · omega
  · exact h

/-! ### at most one is near -/
theorem cnt_one {p : Nat → Bool} : ∀ {n : Nat}, (∀ i k, i < k → k < n → p i = true → p k = true → False) → cnt p n ≤ 1 ∧ (∀ i, i < n → p i = true → cnt p n = 1 ∧ lastTo p n = i)
  | 0, _ => ⟨Nat.zero_le _, fun i hi => absurd hi (by omega)⟩
  | n + 1, h => by
    obtain ⟨h1, h2⟩ := cnt_one (p := p) (n := n) (fun i k a b => h i k a (by omega))
    rcases hp : p n with _ | _
    · rw [cnt_no hp, lastTo_no hp]
      refine ⟨h1, fun i hi hpi => ?_⟩
      by_cases e : i = n
      · subst e; rw [hp] at hpi; cases hpi
      · exact h2 i (by omega) hpi
    · have h0 : cnt p n = 0 := cnt_zero fun i hi => by
        rcases hpi : p i with _ | _
        · rfl
        · exact (h i n hi (by omega) hpi hp).elim
      rw [cnt_yes hp, lastTo_yes hp, h0]
      refine ⟨Nat.le_refl _, fun i hi hpi => ?_⟩
      by_cases e : i = n
      · subst e; exact ⟨rfl, rfl⟩
      · exact (h i n (by omega) (by omega) hpi hp).elim
theorem cnt_last {p : Nat → Bool} : ∀ {n : Nat}, cnt p n ≠ 0 → ∃ i, i < n ∧ p i = true ∧ lastTo p n = i
  | 0, h => absurd rfl h
  | n + 1, h => by
    rcases hp : p n with _ | _
    · rw [cnt_no hp] at h
      obtain ⟨i, hi, h1, h2⟩ := cnt_last h
      exact ⟨i, by omega, h1, by rw [lastTo_no hp]; exact h2⟩
    · exact ⟨n, by omega, hp, lastTo_yes hp⟩
/-- what is decoded: never two words; the one that is near. -/
theorem dec_ok {q m d r : Nat} {ys : List Int} (hd : 1 ≤ d) (hl : ys.length = m) :
    let p := nearP (grTo q m d r) ys (((d : Int) - 1) / 2)
    (decP p (grTo q m d r).length).2 ≠ 8 ∧ ∀ i : Nat, i < (grTo q m d r).length →
      (p i = true → (decP p (grTo q m d r).length) = ((i : Int), 0)) ∧ (p i = false → (decP p (grTo q m d r).length).2 = 0 → (decP p (grTo q m d r).length).1 ≠ (i : Int)) := by
  intro p
  have hone := cnt_one (p := p) (n := (grTo q m d r).length) (fun i k hik hk h1 h2 => by
    have e1 := of_decide_eq_true h1
    have e2 := of_decide_eq_true h2
    have l1 := grTo_len (q := q) (m := m) (d := d) (r := r) (k := i) (by omega)
    have l2 := grTo_len (q := q) (m := m) (d := d) (r := r) hk
    have h3 := diffs_tri (xs := rl (grTo q m d r) i) (ys := ys) (zs := rl (grTo q m d r) k) (by omega) (by omega)
    rw [diffs_comm (xs := ys) (by omega)] at h3
    have h4 := grTo_apart (q := q) (m := m) (d := d) (r := r) hik hk
    omega)
  constructor
  · by_cases h0 : cnt p (grTo q m d r).length = 0
    · rw [decP_0 h0]; decide
    · rw [decP_1 (by omega)]; intro h; exact absurd h (by simp)
  · intro i hi
    refine ⟨fun h => ?_, fun h hc he => ?_⟩
    · obtain ⟨h1, h2⟩ := hone.2 i hi h
      rw [decP_1 h1, h2]
    · by_cases h0 : cnt p (grTo q m d r).length = 0
      · rw [decP_0 h0] at hc; exact absurd hc (by decide)
      · rw [decP_1 (by omega)] at he
        obtain ⟨j, hj, h1, h2⟩ := cnt_last h0
        rw [h2] at he
        have : j = i := by have he' : (j : Int) = (i : Int) := he; omega
        subst this
        rw [h1] at h; cases h

/-- the least one of so many numbers, and a first one. -/
def minTo (m : Int) (f : Nat → Int) : Nat → Int
  | 0 => m
  | n + 1 => if minTo m f n ≤ f n then minTo m f n else f n
theorem minTo_le {m : Int} {f : Nat → Int} {n i : Nat} (h : i < n) : minTo m f n ≤ f i := by
  induction n with
  | zero => omega
  | succ n ih =>
    unfold minTo
    by_cases e : i = n
    · subst e
      split
      · assumption
      · omega
    · have := ih (by omega)
      split <;> omega
theorem minTo_range {m : Int} {f : Nat → Int} {n : Nat} (hf : ∀ i, 0 ≤ f i) (hm : 0 ≤ m) : 0 ≤ minTo m f n ∧ minTo m f n ≤ m := by
  induction n with
  | zero => exact ⟨hm, Int.le_refl _⟩
  | succ n ih =>
    unfold minTo
    have := hf n
    split <;> omega
theorem near_end {q m d : Nat} {ys : List Int} (hq : 1 ≤ q) (hd : 1 ≤ d) (hl : ys.length = m) (hy : Lets ys q) (hlen : (grTo q m d (pw q m)).length < 60) :
    minTo m (fun i => (diffs (rl (grTo q m d (pw q m)) i) ys : Nat)) (grTo q m d (pw q m)).length < d := by
  obtain ⟨r, hr, rfl⟩ := wd_surj m ys hl hy
  obtain ⟨i, hi, h⟩ := grTo_max (q := q) (m := m) (d := d) (N := pw q m) hd hr hlen
  have := minTo_le (m := m) (f := fun i => ((diffs (rl (grTo q m d (pw q m)) i) (wd q m r) : Nat) : Int)) hi
  have h2 : minTo m (fun i => (diffs (rl (grTo q m d (pw q m)) i) (wd q m r) : Nat)) (grTo q m d (pw q m)).length ≤ (diffs (rl (grTo q m d (pw q m)) i) (wd q m r) : Nat) := this
  omega
end Go.Proofs.Ytjadhhnajphibaa
namespace Go.Proofs.Ytjadhhnajphibaa
open Go.RowKit Go.Proofs.YtjadhhnajphibaaW.PrintWords

theorem arrs_of_cells {w : World} {A : Option Addr} {n : Nat} {ss : List (List Int)} (hc : Cells w A (nums .u8 (flat ss))) (hn : ∀ f ∈ ss, f.length = n) (h0 : 0 < n) (hm : ss.length ≤ 9223372036854775807) : (Karr n).C w A ss.length ss := by
  refine ⟨rfl, hm, fun hpos => ?_⟩
  have hfl := flat_length hn
  have hlen : 0 < (nums .u8 (flat ss)).length := by rw [nums_length, hfl]; exact Nat.mul_pos hpos h0
  obtain ⟨ad, rfl, _⟩ := hc 0 _ (List.getElem?_eq_getElem hlen)
  refine ⟨_, rfl, fun j p hj => ?_⟩
  have hjl := (List.getElem?_eq_some_iff.1 hj).1
  have hp : rl ss j = p := by simp [rl, List.getD_eq_getElem?_getD, hj]
  have hpl : p.length = n := by rw [← hp]; have := hn (rl ss j) (by simp [rl, List.getD_eq_getElem?_getD, hjl]); exact this
  have hsz : (Karr n).sz = n := by simp [Kd.arr, Kd.int, Kd.scalar]
  refine ⟨nums .u8 p, by rw [nums_length, hpl, hsz], ⟨hpl, Kd.reps_scalar p⟩, fun i u hi => ?_⟩
  rw [hsz]
  have hil : i < p.length := by
    have := (List.getElem?_eq_some_iff.1 hi).1
    rwa [nums_length] at this
  have hget : (nums .u8 (flat ss))[j * n + i]? = some u := by
    have hseg := flat_seg hn hjl
    rw [hp] at hseg
    rw [← hseg] at hi
    simp only [nums, List.getElem?_map, List.getElem?_take, List.getElem?_drop] at hi ⊢
    rw [if_pos (by omega)] at hi
    exact hi
  obtain ⟨ad', e, h⟩ := hc _ _ hget
  cases e
  exact h
theorem see_read {w : World} {base : Nat} {e : TypeId} {v : Value} {fs : List (List Int)} {x : List Int} (hm : x.length ≤ 1048576) (h : w.ownsRow base e 6 v x.length (nums .u8 (flat (see fs x)))) :
    ∃ A c, v = .slice A (see fs x).length c ∧ (Karr 6).C w A (see fs x).length (see fs x) := by
  obtain ⟨A, c, hv, hc, hcells⟩ := own_cells h
  exact ⟨A, c, by rw [see_length]; exact hv, arrs_of_cells hcells (see_each fs x) (by omega) (by rw [see_length]; omega)⟩

/-- what is known of a code that is valid. -/
structure Good (fs ws : List (List Int)) : Prop where
  flags : GoodF fs
  words : ∀ i, i < ws.length → GoodW fs (rl ws i)
  many : ws.length ≤ 60
  len : ∀ i, i < ws.length → (rl ws i).length = (rl ws 0).length ∧ (rl ws i).length ≤ 8
theorem okC_good {fs ws : List (List Int)} (h : okC fs ws = true) (hf : ∀ k i, 0 ≤ rn (rl fs k) i) (hw : WBytes ws) : Good fs ws := by
  simp only [okC, Bool.and_eq_true, decide_eq_true_iff] at h
  obtain ⟨⟨⟨⟨h1, h2⟩, h3⟩, h4⟩, h5⟩ := h
  unfold wordsB at h5
  rw [allB_iff] at h5
  refine ⟨⟨fun k hk => allB_iff.1 h2 k hk, hf⟩, fun i hi j hj => ?_, h4, fun i hi => ?_⟩
  · have h6 := h5 i hi
    rw [Bool.and_eq_true] at h6
    unfold wordB at h6
    rw [Bool.and_eq_true, allB_iff] at h6
    have h7 := h6.1.2 j hj
    rw [decide_eq_true_iff, lim_lt] at h7
    exact ⟨(hw i j).1, h7.1⟩
  · have h6 := h5 i hi
    rw [Bool.and_eq_true] at h6
    unfold wordB at h6
    rw [Bool.and_eq_true, inB_iff] at h6
    have h8 := h6.2
    rw [decide_eq_true_iff] at h8
    exact ⟨h8, by omega⟩
def distD (fs ws : List (List Int)) (i k : Nat) : Int := (farS (see fs (rl ws i)) (see fs (rl ws k)) : Nat)
theorem farS_le {a b : List (List Int)} (h : ∀ s ∈ a, s.length = 6) : farS a b ≤ 6 * a.length := by
  refine farTo_le (fun i => ?_) _
  rcases Nat.lt_or_ge i a.length with hi | hi
  · exact Nat.le_of_eq (h _ (by simp [rl, List.getD_eq_getElem?_getD, hi]))
  · simp [rl, List.getD_eq_getElem?_getD, List.getElem?_eq_none hi]
def nwV (fs ws : List (List Int)) : Int × Int × Int × Int :=
  if okC fs ws then (if ws.length < 2 then (0, 0, 0, 6) else ((nOut (distD fs ws) ws.length ws.length).a, (nOut (distD fs ws) ws.length ws.length).b, (nOut (distD fs ws) ws.length ws.length).l, 0)) else (0, 0, 0, 1)
def tup4 (r : Int × Int × Int × Int) : Ending := .returned (.tuple #[.int .i64 r.1, .int .i64 r.2.1, .int .i64 r.2.2.1, .int .i64 r.2.2.2])

set_option maxRecDepth 100000 in
set_option maxHeartbeats 8000000 in
theorem NearestWordsS_ok (A : Option Addr) (c : Nat) (fs : List (List Int)) (A1 : Option Addr) (c1 : Nat) (ws : List (List Int)) (w : World) (hf : ∀ k i, 0 ≤ rn (rl fs k) i) (hx : WBytes ws)
    (h0 : (Karr 24).C w A fs.length fs) (h1 : (Kd.slice 5 (Kd.int .u8)).C w A1 ws.length ws) :
    Calls Try.prog 22 #[.agg #[.slice A fs.length c, .slice A1 ws.length c1]] w fun e w' => e = tup4 (nwV fs ws) ∧ Below w.heap.size w w' := by
  have hm1 : ws.length ≤ 9223372036854775807 := h1.2.1
  have hcc := heap_alloc_new w (.cells #[.slice A fs.length c, .slice A1 ws.length c1] 46)
  have hb0 := below_box w (.cells #[.slice A fs.length c, .slice A1 ws.length c1] 46)
  have HC0 := Lib.hid (l05Ok_ok w.heap.size A c fs A1 c1 ws _ hx hcc (C_below' h0 hb0) (C_below' h1 hb0))
  have HCC := Lib.hid hcc
  have HB0 := Lib.hid hb0
  have H0 := Lib.hid (C_below' h0 hb0)
  have H1 := Lib.hid (C_below' h1 hb0)
  have HV : Hid (nwV fs ws = if okC fs ws then (if ws.length < 2 then (0, 0, 0, 6) else ((nOut (distD fs ws) ws.length ws.length).a, (nOut (distD fs ws) ws.length ws.length).b, (nOut (distD fs ws) ws.length ws.length).l, 0)) else (0, 0, 0, 1)) := rfl
  have hgood := fun h => okC_good (fs := fs) (ws := ws) h hf hx
  clear hcc hb0 h0 h1 hf hx
  rcases hok : okC fs ws with _ | _
  · have HS := Lib.hid (show nwV fs ws = (0, 0, 0, 1) by rw [HV.out, hok]; rfl)
    rw [hok] at HC0
    clear HV hok hgood
    go_enter Try.func22, Try.ntmps22
    go_wp2_with (go_at_call 78; refine HC0.out.mono ?_; rintro e w' ⟨rfl, q, rfl⟩)
    refine bodyPost_ret (results_tmp4 rfl _ _ _) rfl ?_
    rw [HS.out]
    exact ⟨rfl, below_dN HB0.out _⟩
  · have HG := Lib.hid (hgood hok)
    rw [hok] at HC0 HV
    clear hok hgood
    by_cases h2 : ws.length < 2
    · have HS := Lib.hid (show nwV fs ws = (0, 0, 0, 6) by rw [HV.out, if_pos rfl, if_pos h2])
      have h2i : (ws.length : Int) < 2 := by omega
      clear HV
      go_enter Try.func22, Try.ntmps22
      go_wp2_with (go_at_call 78; refine HC0.out.mono ?_; rintro e w' ⟨rfl, q, rfl⟩)
      refine bodyPost_ret (results_tmp4 rfl _ _ _) rfl ?_
      rw [HS.out]
      exact ⟨rfl, below_dN HB0.out _⟩
    · have HS := Lib.hid (show nwV fs ws = ((nOut (distD fs ws) ws.length ws.length).a, (nOut (distD fs ws) ws.length ws.length).b, (nOut (distD fs ws) ws.length ws.length).l, 0) by rw [HV.out, if_pos rfl, if_neg h2])
      have h2i : ¬ (ws.length : Int) < 2 := by omega
      clear HV
      go_enter Try.func22, Try.ntmps22
      go_wp2_with (go_at_call 78; refine HC0.out.mono ?_; rintro e w' ⟨rfl, q, rfl⟩)
      have HB1 := Lib.hid (below_dN (Below.refl (w.alloc (.cells #[.slice A fs.length c, .slice A1 ws.length c1] 46)).heap.size (w.alloc (.cells #[.slice A fs.length c, .slice A1 ws.length c1] 46))) q)
      have hsz0 := size_box w (.cells #[.slice A fs.length c, .slice A1 ws.length c1] 46)
      generalize (w.alloc (.cells #[.slice A fs.length c, .slice A1 ws.length c1] 46)) = W0 at *
      generalize W0.drewN q = W1 at *
      clear HC0
      have hgc : w.heap.size < W0.heap.size := by omega
      have HSI := Lib.hid (fun (i : Nat) (W : World) (hi : i < ws.length) (h : Below W0.heap.size W0 W) => l05Sights_ok w.heap.size A c fs A1 c1 ws i W hi (by have := HG.out.many; omega) (by have := (HG.out.len i hi).2; omega) HG.out.flags (HG.out.words i hi) ((h.block _ hgc).trans HCC.out) (C_below' H0.out h) (C_below' H1.out h))
      have hlen60 : ws.length ≤ 60 := HG.out.many
      go_loopw [7, 8, 9, 10, 11, 12, 13] (fun va vb vl i _ _ _ wr => ∃ (k : Nat) (s : Near), k ≤ ws.length ∧ i = .int .i64 k ∧ va = .int .i64 s.a ∧ vb = .int .i64 s.b ∧ vl = .int .i64 s.l ∧ Hid (s = nOut (distD fs ws) ws.length k) ∧ Hid (Below W0.heap.size W0 wr)) (fun _ _ _ i _ _ _ _ => ws.length - (intOf i).toNat)
      case atStart => exact ⟨0, ⟨0, 0, -1⟩, Nat.zero_le _, rfl, rfl, rfl, rfl, rfl, HB1⟩
      case round =>
        clear HB1
        obtain ⟨i, ⟨a, b, l⟩, hi, rfl, rfl, rfl, rfl, HS1, HB⟩ := hrel
        by_cases hlt : i < ws.length
        · have hlti : (i : Int) < (ws.length : Int) := by omega
          go_wp2_with fail
          refine (HSI.out i _ hlt HB.out).mono ?_
          rintro e w1 ⟨v, rfl, hown, hb1⟩
          obtain ⟨A5, c5, rfl, hr5⟩ := see_read (by have := (HG.out.len i hlt).2; omega) hown
          have HR5 := Lib.hid hr5
          have HB1 := Lib.hid (HB.out.trans (hb1.mono HB.out.size))
          have hl5 : (see fs (rl ws i)).length ≤ 8 := by rw [see_length]; exact (HG.out.len i hlt).2
          clear hown hb1 hr5
          go_wp2
          go_loopw [7, 8, 9, 12, 13] (fun va vb vl k _ wr => ∃ (j : Nat) (s : Near), i < j ∧ j ≤ ws.length ∧ k = .int .i64 j ∧ va = .int .i64 s.a ∧ vb = .int .i64 s.b ∧ vl = .int .i64 s.l ∧ Hid (s = nIn (distD fs ws) i (nOut (distD fs ws) ws.length i) j) ∧ Hid (Below w1.heap.size w1 wr)) (fun _ _ _ k _ _ => ws.length - (intOf k).toNat)
          case atStart => exact ⟨i + 1, ⟨a, b, l⟩, by omega, by omega, by go_num, rfl, rfl, rfl, by rw [nIn_start _ _ _ _ (Nat.le_refl _)]; exact HS1, Below.refl _ _⟩
          case round =>
            obtain ⟨j, ⟨a, b, l⟩, hij, hj, rfl, rfl, rfl, rfl, HSJ, HBI⟩ := hrel
            by_cases hjn : j < ws.length
            · have hjni : (j : Int) < (ws.length : Int) := by omega
              go_wp2_with fail
              refine (HSI.out j _ hjn (HB1.out.trans (HBI.out.mono HB1.out.size))).mono ?_
              rintro e w2 ⟨v, rfl, hown, hb2⟩
              obtain ⟨A6, c6, rfl, hr6⟩ := see_read (by have := (HG.out.len j hjn).2; omega) hown
              have hb12 := HBI.out.trans (hb2.mono HBI.out.size)
              have HC6 := Lib.hid (l05Far_ok A5 c5 (see fs (rl ws i)) A6 c6 (see fs (rl ws j)) w2 (C_below' HR5.out hb12) hr6 (by rw [see_length, see_length, (HG.out.len i hlt).1, (HG.out.len j hjn).1]; omega) (by omega))
              have HB2 := Lib.hid hb12
              have hfar := farS_le (b := see fs (rl ws j)) (see_each fs (rl ws i))
              have hd : distD fs ws i j = (farS (see fs (rl ws i)) (see fs (rl ws j)) : Nat) := rfl
              have HD := Lib.hid hd
              clear hown hb2 hb12 hr6 hd
              generalize farS (see fs (rl ws i)) (see fs (rl ws j)) = d at *
              by_cases hl0 : l < 0
              · have hst := Lib.hid (nStep_yes (D := distD fs ws) (i := i) (k := j) (s := ⟨a, b, l⟩) (.inl hl0))
                go_wp2_with (go_at_call 80; refine HC6.out.mono ?_; rintro e w' ⟨rfl, q6, rfl⟩)
                go_roundw
                case rel =>
                  refine ⟨j + 1, ⟨i, j, d⟩, by omega, by omega, by go_num, rfl, rfl, rfl, ?_, below_dN HB2.out _⟩
                  show _ = _
                  rw [nIn_step _ _ _ _ hij, ← HSJ.out, hst.out, HD.out]
                case measure => first|(simp [intOf]; done)|(simp [intOf]; omega)
              · by_cases hdl : (d : Int) < l
                · have hst := Lib.hid (nStep_yes (D := distD fs ws) (i := i) (k := j) (s := ⟨a, b, l⟩) (.inr (by rw [HD.out]; exact hdl)))
                  go_wp2_with (go_at_call 80; refine HC6.out.mono ?_; rintro e w' ⟨rfl, q6, rfl⟩)
                  go_roundw
                  case rel =>
                    refine ⟨j + 1, ⟨i, j, d⟩, by omega, by omega, by go_num, rfl, rfl, rfl, ?_, below_dN HB2.out _⟩
                    show _ = _
                    rw [nIn_step _ _ _ _ hij, ← HSJ.out, hst.out, HD.out]
                  case measure => first|(simp [intOf]; done)|(simp [intOf]; omega)
                · have hst := Lib.hid (nStep_no (D := distD fs ws) (i := i) (k := j) (s := ⟨a, b, l⟩) (by rw [HD.out]; simp only; omega))
                  go_wp2_with (go_at_call 80; refine HC6.out.mono ?_; rintro e w' ⟨rfl, q6, rfl⟩)
                  go_roundw
                  case rel =>
                    refine ⟨j + 1, ⟨a, b, l⟩, by omega, by omega, by go_num, rfl, rfl, rfl, ?_, below_dN HB2.out _⟩
                    show _ = _
                    rw [nIn_step _ _ _ _ hij, ← HSJ.out, hst.out]
                  case measure => first|(simp [intOf]; done)|(simp [intOf]; omega)
            · obtain rfl : j = ws.length := by omega
              go_wp2
              go_roundw
              case rel => exact ⟨i + 1, ⟨a, b, l⟩, by omega, by go_num, rfl, rfl, rfl, HSJ, HB1.out.trans (HBI.out.mono HB1.out.size)⟩
              case measure => first|(simp [intOf]; done)|(simp [intOf]; omega)
        · obtain rfl : i = ws.length := by omega
          go_wp2
          refine bodyPost_ret (results_tmp4 rfl _ _ _) rfl ?_
          rw [HS.out, ← HS1.out]
          exact ⟨rfl, HB0.out.trans (HB.out.mono (by omega))⟩
end Go.Proofs.Ytjadhhnajphibaa
namespace Go.Proofs.Ytjadhhnajphibaa
open Go.RowKit Go.Proofs.YtjadhhnajphibaaW.PrintWords

set_option maxHeartbeats 4000000 in
theorem near1_ok (g6 b1 b2 n : Nat) (v : Value) (el : Nat → Value) (fs ws : List (List Int)) (i k : Nat) (w : World) (hg : Good fs ws) (hn : n = ws.length) (hi : i < n) (hk : k < n) (hv : w.cell? ⟨g6, 0, none⟩ = some v)
    (hrow : w.ownsRow b1 50 1 v n ((List.range n).map el)) (hel : ∀ j, j < n → w.ownsRow b2 72 6 (el j) (rl ws j).length (nums .u8 (flat (see fs (rl ws j))))) :
    Calls Try.prog 84 #[.int .i64 i, .int .i64 k, .pointer (some ⟨g6, 0, none⟩)] w fun e w' => e = .returned (.int .i64 (distD fs ws i k)) ∧ Below w.heap.size w w' := by
  have hlen := hg.many
  obtain ⟨A, c, rfl, hc, hcells⟩ := own_cells hrow
  obtain ⟨A5, c5, he5, hr5⟩ := see_read (by have := (hg.len i (by omega)).2; omega) (hel i hi)
  obtain ⟨A6, c6, he6, hr6⟩ := see_read (by have := (hg.len k (by omega)).2; omega) (hel k hk)
  obtain ⟨ad, rfl, hx5⟩ := hcells i (el i) (by simp [hi])
  obtain ⟨ad', e, hx6⟩ := hcells k (el k) (by simp [hk])
  cases e
  rw [he5] at hx5
  rw [he6] at hx6
  have hii : (i : Int) < (n : Int) := by omega
  have hki : (k : Int) < (n : Int) := by omega
  have hl56 : (see fs (rl ws i)).length ≤ (see fs (rl ws k)).length := by rw [see_length, see_length, (hg.len i (by omega)).1, (hg.len k (by omega)).1]; omega
  have hl8 : (see fs (rl ws i)).length ≤ 1000000000000 := by rw [see_length]; have := (hg.len i (by omega)).2; omega
  have HC := Lib.hid (fun q => sightsApart_ok A5 c5 (see fs (rl ws i)) A6 c6 (see fs (rl ws k)) (w.drewN q) hr5 hr6 hl56 hl8)
  have HD : Hid (distD fs ws i k = (farS (see fs (rl ws i)) (see fs (rl ws k)) : Nat)) := rfl
  clear hrow hel hcells he5 he6 hr5 hr6 hg hl56 hl8 hn
  go_enter Try.func84, Try.ntmps84
  go_wp2
  go_quiet ((go_at_call 85; first | exact quiet_add (HC.out _) | exact quiet_any (HC.out _)))
  go_wp2
  go_ret
  exact ⟨ret_int HD.out.symm, below_dN (Below.refl _ _) _⟩

theorem cells_new (w : World) (t : Nat) (v : Value) : Cells (w.alloc (.cells #[v] t)) (some ⟨w.heap.size, 0, none⟩) [v] := fun j u hu => by
  refine ⟨_, rfl, ?_⟩
  rw [add_plain, blk_cell (heap_alloc_new w _) j]
  simpa using hu
theorem range_snoc (el : Nat → Value) (k : Nat) (x : Value) : (List.range (k + 1)).map (fun j => if j = k then x else el j) = (List.range k).map el ++ [x] := by
  rw [List.range_succ, List.map_append]
  congr 1
  · refine List.map_congr_left fun j hj => ?_
    have := List.mem_range.1 hj
    rw [if_neg (by omega)]
  · simp
theorem size_setCell (w : World) (p : Addr) (v : Value) : (w.setCell p v).heap.size = w.heap.size := by simp [World.setCell]
theorem uinfo_sights : (Try.prog.info? 50).map (fun i => (i.zero, i.size, i.bytes)) = some (some (.slice none 0 0), 1, 24) := by kernel_rfl
theorem ainfo_code : (Try.prog.info? 46).map (·.size) = some 2 := by kernel_rfl
theorem nw_pos {fs ws : List (List Int)} : (0 ≤ (nOut (distD fs ws) ws.length ws.length).l) ↔ ¬ ws.length < 2 := by
  constructor
  · intro h h2
    rw [nOut_none h2] at h
    omega
  · intro h
    exact nOut_some (fun i k => by unfold distD; omega) (by omega) _ (by omega)

set_option maxRecDepth 100000 in
set_option maxHeartbeats 8000000 in
theorem NearestWords_ok (A : Option Addr) (c : Nat) (fs : List (List Int)) (A1 : Option Addr) (c1 : Nat) (ws : List (List Int)) (w : World) (hf : ∀ k i, 0 ≤ rn (rl fs k) i) (hx : WBytes ws)
    (h0 : (Karr 24).C w A fs.length fs) (h1 : (Kd.slice 5 (Kd.int .u8)).C w A1 ws.length ws) :
    Calls Try.prog 24 #[.agg #[.slice A fs.length c, .slice A1 ws.length c1]] w fun e w' => e = tup4 (nwV fs ws) ∧ Below w.heap.size w w' := by
  have hm1 : ws.length ≤ 9223372036854775807 := h1.2.1
  have hcc := heap_alloc_new w (.cells #[.slice A fs.length c, .slice A1 ws.length c1] 46)
  have hb0 := below_box w (.cells #[.slice A fs.length c, .slice A1 ws.length c1] 46)
  have hsz0 := size_box w (.cells #[.slice A fs.length c, .slice A1 ws.length c1] 46)
  have HC0 := Lib.hid (ValidCode_ok A c fs A1 c1 ws _ hx (C_below' h0 hb0) (C_below' h1 hb0))
  have HCC := Lib.hid hcc
  have HB0 := Lib.hid hb0
  have H0 := Lib.hid (C_below' h0 hb0)
  have H1 := Lib.hid (C_below' h1 hb0)
  have HV : Hid (nwV fs ws = if okC fs ws then (if ws.length < 2 then (0, 0, 0, 6) else ((nOut (distD fs ws) ws.length ws.length).a, (nOut (distD fs ws) ws.length ws.length).b, (nOut (distD fs ws) ws.length ws.length).l, 0)) else (0, 0, 0, 1)) := rfl
  have hgood := fun h => okC_good (fs := fs) (ws := ws) h hf hx
  clear hcc hb0 h0 h1 hf hx
  rcases hok : okC fs ws with _ | _
  · have HS := Lib.hid (show nwV fs ws = (0, 0, 0, 1) by rw [HV.out, hok]; rfl)
    rw [hok] at HC0
    clear HV hok hgood
    go_enter Try.func24, Try.ntmps24
    go_wp2_with (first | (refine load_agg rfl 46 (.tmp 1) rfl ⟨w.heap.size, 0, none⟩ rfl [.slice A fs.length c, .slice A1 ws.length c1] _ (fun j v hv => by rw [add_plain, blk_cell HCC.out j]; simpa using hv) Try.underlying46 rfl ainfo_code ?_) | (go_at_call 42; refine HC0.out.mono ?_; rintro e w' ⟨rfl, hb'⟩))
    refine bodyPost_ret (results_tmp4 rfl _ _ _) rfl ?_
    rw [HS.out]
    exact ⟨rfl, HB0.out.trans (hb'.mono (by omega))⟩
  · have HG := Lib.hid (hgood hok)
    rw [hok] at HC0 HV
    clear hok hgood
    go_enter Try.func24, Try.ntmps24
    go_wp2_with (first | (refine load_agg rfl 46 (.tmp 1) rfl ⟨w.heap.size, 0, none⟩ rfl [.slice A fs.length c, .slice A1 ws.length c1] _ (fun j v hv => by rw [add_plain, blk_cell HCC.out j]; simpa using hv) Try.underlying46 rfl ainfo_code ?_) | (go_at_call 42; refine HC0.out.mono ?_; rintro e w1 ⟨rfl, hb1⟩; have hx1 := (blk_cell ((hb1.block w.heap.size (by omega)).trans HCC.out) 1).trans (show _ = some (.slice A1 ws.length c1) from rfl); have hlt1 : w.heap.size < w1.heap.size := (by have := hb1.size; omega); have hne0 : w.heap.size ≠ w1.heap.size := (by omega); have hne1 : w.heap.size ≠ w1.heap.size + 1 := (by omega); have hne2 := Ne.symm hne0; have hne3 := Ne.symm hne1))
    have HBV := Lib.hid hb1
    have hg6 := heap_alloc_new (w1.alloc (.cells #[] 50)) (.cells #[.slice (some ⟨w1.heap.size, 0, none⟩) 0 0] 111)
    rw [size_box] at hg6
    have HG6 := Lib.hid hg6
    have HR0 := Lib.hid (show ((w1.alloc (.cells #[] 50)).alloc (.cells #[.slice (some ⟨w1.heap.size, 0, none⟩) 0 0] 111)).ownsRow w1.heap.size 50 1 (.slice (some ⟨w1.heap.size, 0, none⟩) 0 0) 0 ((List.range 0).map (fun _ => Value.slice none 0 0)) from ⟨rfl, .inr ⟨_, 0, #[], rfl, Nat.le_refl _, blk_alloc (heap_alloc_new w1 _) _, Nat.le_refl _, Nat.zero_le _, rfl, rfl⟩⟩)
    have HB2 := Lib.hid (below_alloc (below_box w1 (.cells #[] 50)) (.cells #[.slice (some ⟨w1.heap.size, 0, none⟩) 0 0] 111))
    have hs2 : w1.heap.size + 2 ≤ ((w1.alloc (.cells #[] 50)).alloc (.cells #[.slice (some ⟨w1.heap.size, 0, none⟩) 0 0] 111)).heap.size := by rw [size_box, size_box]; omega
    have HCD := Lib.hid ((hb1.block w.heap.size (by omega)).trans HCC.out)
    have H01 := Lib.hid (C_below' H0.out hb1)
    have H11 := Lib.hid (C_below' H1.out hb1)
    clear hg6 hb1 hx1 hne0 hne1 hne2 hne3 HC0
    generalize ((w1.alloc (.cells #[] 50)).alloc (.cells #[.slice (some ⟨w1.heap.size, 0, none⟩) 0 0] 111)) = W2 at *
    go_loopw [8, 20] (fun _ u wr => ∃ (k : Nat) (v : Value) (el : Nat → Value), k ≤ ws.length ∧ u = .int .i64 k ∧ w1.heap.size + 2 ≤ wr.heap.size ∧ Hid (wr.heap[w1.heap.size + 1]? = some (.cells #[v] 111 (0, 0))) ∧ Hid (wr.ownsRow w1.heap.size 50 1 v k ((List.range k).map el)) ∧ Hid (∀ j, j < k → wr.ownsRow w1.heap.size 72 6 (el j) (rl ws j).length (nums .u8 (flat (see fs (rl ws j))))) ∧ Hid (Below w1.heap.size w1 wr)) (fun _ u _ => ws.length - (intOf u).toNat)
    case atStart => exact ⟨0, _, fun _ => Value.slice none 0 0, Nat.zero_le _, rfl, hs2, HG6, HR0, fun j hj => absurd hj (by omega), HB2⟩
    case round =>
      clear HG6 HR0 HB2 hs2
      obtain ⟨k, v, el, hk, rfl, hsz, HG6, HR, HE, HB⟩ := hrel
      by_cases hlt : k < ws.length
      · have hlti : (k : Int) < (ws.length : Int) := by omega
        obtain ⟨ad1, A3, c3, rfl, hx3, hl3, hr3⟩ := at_row (C_below' H11.out HB.out) hlt
        have hdr : Below wr.heap.size wr wr.drew := ⟨rfl, rfl, rfl, Nat.le_refl _, fun _ _ => rfl⟩
        have HSI := Lib.hid (fun W (h : Below wr.heap.size wr W) => sights_ok A c fs (.slice (some ad1) ws.length c1) A3 c3 (rl ws k) W (by have := (HG.out.len k hlt).2; omega) HG.out.flags (HG.out.words k hlt) (C_below' (C_below' H01.out HB.out) h) (C_below' hr3 h))
        have hcd := (HB.out.block w.heap.size (by omega)).trans HCD.out
        have HK := Lib.hid (fun W (h : Below wr.heap.size wr W) => And.intro ((blk_cell ((h.block (w1.heap.size + 1) (by omega)).trans HG6.out) 0).trans (show _ = some v from rfl)) (And.intro ((blk_cell ((h.block w.heap.size (by omega)).trans hcd) 0).trans (show _ = some (.slice A fs.length c) from rfl)) ((blk_cell ((h.block w.heap.size (by omega)).trans hcd) 1).trans (show _ = some (.slice (some ad1) ws.length c1) from rfl))))
        have hlen60 := HG.out.many
        have HCR := Lib.hid hcd
        clear hr3 hcd
        go_wp2
        obtain ⟨y6, y7, y8⟩ := HK.out _ (Below.refl _ _)
        go_region_law
          (first | (go_simp; go_at_call 83; refine (HSI.out _ hdr).mono ?_; rintro e w2 ⟨v2, rfl, hown, hb2⟩; have hq1 := hdr.trans (hb2.mono hdr.size); obtain ⟨A7, c7, rfl, hc7, hcl7⟩ := own_cells hown; have HO1 := Lib.hid (pw_own_below HR.out hq1); have hsz2 : wr.heap.size ≤ w2.heap.size := hq1.size; obtain ⟨z6, z7, z8⟩ := HK.out _ hq1; have z9 := (HK.out _ (below_alloc hq1 (.cells #[.slice A7 (rl ws k).length c7] 50))).1; have hne9 : w1.heap.size + 1 ≠ w2.heap.size := (by omega); have hne8 : w2.heap.size ≠ w1.heap.size + 1 := (by omega); have hne7 : w2.heap.size ≠ w.heap.size := (by omega); have hne6 : w.heap.size ≠ w2.heap.size := (by omega); clear hcl7) | (refine step_own_append _ (by rfl) _ _ _ (by rfl) w1.heap.size 50 (.slice none 0 0) 1 24 Try.underlying111 uinfo_sights (by rfl) (by omega) (by omega) v k _ (by rfl) (pw_own_below HO1.out (below_box _ _)) (some ⟨w2.heap.size, 0, none⟩) 1 1 [.slice A7 (rl ws k).length c7] (by rfl) (by rfl) (cells_new w2 50 _) (by simp [Value.oneCell']) (by omega) (by simp; omega) ?_; intro v3 w3 hO3 hg3 hat3; obtain ⟨A9, c9, rfl, hc9, hcl9⟩ := own_cells hO3; clear hcl9; have hq3 := below_alloc hq1 (.cells #[.slice A7 (rl ws k).length c7] 50); have hG3 := (hg3.block (w1.heap.size + 1) (by have := hq3.size; omega) (own_ne HR.out HG6.out (by decide))).trans ((hq3.block (w1.heap.size + 1) (by omega)).trans HG6.out); have hC3 := (hg3.block w.heap.size (by have := hq3.size; omega) (fun e => by have := own_base HR.out _ e.symm; omega)).trans ((hq3.block w.heap.size (by omega)).trans HCR.out); have x6 := (blk_cell hG3 0).trans (show _ = some v from rfl); have x7 := (blk_cell hC3 0).trans (show _ = some (.slice A fs.length c) from rfl); have x8 := (blk_cell hC3 1).trans (show _ = some (.slice (some ad1) ws.length c1) from rfl); have x9 := blk_frozen hG3 0))
        all_goals
          go_wp2
          go_roundw
          case rel =>
            have hsz3 := hq3.size
            have hw23 := hg3.size
            have hne36 := own_ne hO3 hG3 (by decide)
            have hown1 := own_weaken (base' := w1.heap.size) hown (by have := hdr.size; omega)
            have hup : ∀ (u : Value) (n : Nat) (xs : List Value), w2.ownsRow w1.heap.size 72 6 u n xs → (w3.setCell ⟨w1.heap.size + 1, 0, none⟩ (.slice A9 (k + 1) c9)).ownsRow w1.heap.size 72 6 u n xs := fun u n xs h =>
              have h2 := pw_own_below h (below_box w2 (.cells #[.slice A7 (rl ws k).length c7] 50))
              have h3 := own_other h2 hg3 (own_type_ne h2 (pw_own_below HO1.out (below_box w2 (.cells #[.slice A7 (rl ws k).length c7] 50))) (by decide))
              own_setCell h3 (own_ne h3 hG3 (by decide)) _
            refine ⟨k + 1, .slice A9 (k + 1) c9, fun j => if j = k then .slice A7 (rl ws k).length c7 else el j, by omega, by go_num, ?_, blk_set hG3 0 _, ?_, ?_, ?_⟩
            · rw [size_setCell]; omega
            · have hR3 := own_setCell hO3 (p := ⟨w1.heap.size + 1, 0, none⟩) hne36 (.slice A9 (k + 1) c9)
              rw [range_snoc]
              exact hR3
            · intro j hj
              by_cases e : j = k
              · subst e
                simp only [if_true]
                exact hup _ _ _ hown1
              · simp only [if_neg e]
                exact hup _ _ _ (pw_own_below (HE.out j (by omega)) hq1)
            · exact set_below ((HB.out.trans (hq3.mono (by omega))).grown hg3 (by omega) (own_base HO1.out)) (by simp) _
          case measure => first|(simp [intOf]; done)|(simp [intOf]; omega)
      · obtain rfl : k = ws.length := by omega
        have x6 := (blk_cell HG6.out 0).trans (show _ = some v from rfl)
        obtain ⟨A8, c8, rfl, hc8, hcl8⟩ := own_cells HR.out
        have HP : Hid (PairB Try.prog 84 #[.pointer (some ⟨w1.heap.size + 1, 0, none⟩)] ws.length (distD fs ws) wr) := by
          intro i k W hik hkn hW
          exact near1_ok (w1.heap.size + 1) w1.heap.size w1.heap.size ws.length (.slice A8 ws.length c8) el fs ws i k W HG.out rfl (by omega) hkn ((hW.cell (cell_lt x6)).trans x6) (pw_own_below HR.out hW) (fun j hj => pw_own_below (HE.out j hj) hW)
        have eg : ∀ args w, (callFunc 84 args).run Try.prog w = .ok (.enter 84 args) w := enters_of Try.func84 (by kernel_rfl) rfl
        have HN := Lib.hid (nearest_ok 84 _ eg ws.length (by have := HG.out.many; omega) (distD fs ws) wr HP.out)
        have hpos := nw_pos (fs := fs) (ws := ws)
        clear HP eg hcl8 HR HE HCC H0 H1 H01 H11 HCD
        generalize nOut (distD fs ws) ws.length ws.length = s at *
        by_cases h2 : ws.length < 2
        · have HS := Lib.hid (show nwV fs ws = (0, 0, 0, 6) by rw [HV.out]; simp [h2])
          have hd : decide (0 ≤ s.l) = false := by rw [decide_eq_false_iff_not, hpos]; omega
          rw [hd] at HN
          clear HV hpos hd
          go_wp2_with (go_at_call 70; refine HN.out.mono ?_; rintro e w' ⟨rfl, hb'⟩)
          refine bodyPost_ret (results_tmp4 rfl _ _ _) rfl ?_
          rw [HS.out]
          exact ⟨rfl, HB0.out.trans ((HBV.out.trans ((HB.out.trans (hb'.mono HB.out.size)).mono HBV.out.size)).mono (by omega))⟩
        · have HS := Lib.hid (show nwV fs ws = (s.a, s.b, s.l, 0) by rw [HV.out]; simp [h2])
          have hd : decide (0 ≤ s.l) = true := by rw [decide_eq_true_iff, hpos]; exact h2
          rw [hd] at HN
          clear HV hpos hd
          go_wp2_with (go_at_call 70; refine HN.out.mono ?_; rintro e w' ⟨rfl, hb'⟩)
          refine bodyPost_ret (results_tmp4 rfl _ _ _) rfl ?_
          rw [HS.out]
          exact ⟨rfl, HB0.out.trans ((HBV.out.trans ((HB.out.trans (hb'.mono HB.out.size)).mono HBV.out.size)).mono (by omega))⟩
end Go.Proofs.Ytjadhhnajphibaa
