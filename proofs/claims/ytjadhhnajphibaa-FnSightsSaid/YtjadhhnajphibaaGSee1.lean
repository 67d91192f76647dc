/- Contracts of functions and plain lemmas that the row stands on: What is seen of a word of a code: both. Rows of one's own, and marks. Plain: the words near what has been seen; the nearest one. What has been seen is read: the reference's. The words near what has been seen: the reference's. What has been seen is read: the program's. What has been seen is read: the program's; both functions. No conditions beyond those that each theorem names. -/
import Derived.Test.YtjadhhnajphibaaV11
set_option linter.unusedVariables false
set_option linter.unusedSimpArgs false
namespace Go.Proofs.Ytjadhhnajphibaa
open Go.RowKit Go.Proofs.YtjadhhnajphibaaW.PrintWords

/-- what SightsOf answers: the sights, and the code. -/
def sotV (fs ws : List (List Int)) (i : Int) : List (List Int) × Int :=
  if okC fs ws then (if inB i 0 ((ws.length : Int) - 1) then (see fs (rl ws i.toNat), 0) else ([], 2)) else ([], 1)
theorem sot_each (fs ws : List (List Int)) (i : Int) : ∀ s ∈ (sotV fs ws i).1, s.length = 6 := by
  unfold sotV
  split
  · split
    · exact see_each _ _
    · intro s hs; simp at hs
  · intro s hs; simp at hs
theorem own_made (w : World) (e : TypeId) (base size g : Nat) (hg : w.heap.size = g) (hb : base ≤ g) : (w.alloc (.cells #[] e)).ownsRow base e size (.slice (some ⟨g, 0, none⟩) 0 0) 0 [] := by
  subst hg
  exact ⟨by simp, .inr ⟨_, 0, #[], rfl, hb, heap_alloc_new _ _, Nat.le_refl _, Nat.zero_le _, by simp, by simp⟩⟩
theorem own_nil (w : World) (e : TypeId) (base size : Nat) : w.ownsRow base e size (.slice none 0 0) 0 [] := ⟨by simp, .inl ⟨rfl, rfl⟩⟩

set_option maxRecDepth 100000 in
set_option maxHeartbeats 4000000 in
theorem SightsOfS_ok (A : Option Addr) (c : Nat) (fs : List (List Int)) (A1 : Option Addr) (c1 : Nat) (ws : List (List Int)) (i : Int) (w : World) (hf : ∀ k i, 0 ≤ rn (rl fs k) i) (hx : WBytes ws)
    (h0 : (Karr 24).C w A fs.length fs) (h1 : (Kd.slice 5 (Kd.int .u8)).C w A1 ws.length ws) :
    Calls Try.prog 26 #[.agg #[.slice A fs.length c, .slice A1 ws.length c1], .int .i64 i] w fun e w' => ∃ v, e = .returned (.tuple #[v, .int .i64 (sotV fs ws i).2]) ∧ w'.ownsRow w.heap.size 72 6 v (sotV fs ws i).1.length (nums .u8 (flat (sotV fs ws i).1)) ∧ Below w.heap.size w w' := by
  have hm1 : ws.length ≤ 9223372036854775807 := h1.2.1
  have hcc := heap_alloc_new w (.cells #[.slice A fs.length c, .slice A1 ws.length c1] 46)
  have hb0 := below_box w (.cells #[.slice A fs.length c, .slice A1 ws.length c1] 46)
  have hsz0 := size_box w (.cells #[.slice A fs.length c, .slice A1 ws.length c1] 46)
  have HC0 := Lib.hid (l05Ok_ok w.heap.size A c fs A1 c1 ws _ hx hcc (C_below' h0 hb0) (C_below' h1 hb0))
  have HCC := Lib.hid hcc
  have HB0 := Lib.hid hb0
  have H0 := Lib.hid (C_below' h0 hb0)
  have H1 := Lib.hid (C_below' h1 hb0)
  have hgood := fun h => okC_good (fs := fs) (ws := ws) h hf hx
  clear hcc hb0 h0 h1 hf hx
  rcases hok : okC fs ws with _ | _
  · have HS := Lib.hid (show sotV fs ws i = ([], 1) by unfold sotV; rw [hok]; rfl)
    rw [hok] at HC0
    clear hok hgood
    go_enter Try.func26, Try.ntmps26
    go_wp2_with (go_at_call 78; refine HC0.out.mono ?_; rintro e w' ⟨rfl, q, rfl⟩)
    go_ret2
    rw [HS.out]
    exact ⟨_, rfl, own_made _ _ _ _ _ hsz0 (by omega), below_alloc (below_dN HB0.out q) _⟩
  · have HG := Lib.hid (hgood hok)
    rcases hin : inB i 0 ((ws.length : Int) - 1) with _ | _
    · have HS := Lib.hid (show sotV fs ws i = ([], 2) by unfold sotV; rw [hok, hin]; rfl)
      rw [hok] at HC0
      have HI := Lib.hid hin
      clear hok hgood hin
      go_enter Try.func26, Try.ntmps26
      go_wp2_with (first | (go_at_call 78; refine HC0.out.mono ?_; rintro e w' ⟨rfl, q, rfl⟩) | (go_at_call 62; refine (l00In_ok _ _ _ _).mono ?_; rintro e w' ⟨rfl, rfl⟩; rw [HI.out]))
      go_ret2
      rw [HS.out]
      exact ⟨_, rfl, own_made _ _ _ _ _ hsz0 (by omega), below_alloc (below_dN HB0.out q) _⟩
    · obtain ⟨k, rfl⟩ : ∃ k : Nat, i = k := ⟨i.toNat, by have := inB_iff.1 hin; omega⟩
      have hk : k < ws.length := by have := inB_iff.1 hin; omega
      have HS := Lib.hid (show sotV fs ws k = (see fs (rl ws k), 0) by unfold sotV; rw [hok, hin]; rfl)
      rw [hok] at HC0
      have HI := Lib.hid hin
      have HSI := Lib.hid (fun (q : Nat) => l05Sights_ok w.heap.size A c fs A1 c1 ws k ((w.alloc (.cells #[.slice A fs.length c, .slice A1 ws.length c1] 46)).drewN q) hk (by have := HG.out.many; omega) (by have := (HG.out.len k hk).2; omega) HG.out.flags (HG.out.words k hk) HCC.out H0.out H1.out)
      clear hok hgood hin
      go_enter Try.func26, Try.ntmps26
      go_wp2_with (first | (go_at_call 78; refine HC0.out.mono ?_; rintro e w' ⟨rfl, q, rfl⟩) | (go_at_call 62; refine (l00In_ok _ _ _ _).mono ?_; rintro e w' ⟨rfl, rfl⟩; rw [HI.out]) | (go_at_call 79; refine (HSI.out _).mono ?_; rintro e w1 ⟨v, rfl, hown, hb1⟩; have HO := Lib.hid hown; have HB1 := Lib.hid hb1; clear hown hb1))
      go_ret2
      rw [HS.out, see_length]
      exact ⟨_, rfl, own_weaken HO.out (show w.heap.size ≤ (w.alloc (.cells #[.slice A fs.length c, .slice A1 ws.length c1] 46)).heap.size by omega), HB0.out.trans ((below_dN (Below.refl _ _) q).trans HB1.out |>.mono (show w.heap.size ≤ (w.alloc (.cells #[.slice A fs.length c, .slice A1 ws.length c1] 46)).heap.size by omega))⟩

set_option maxRecDepth 100000 in
set_option maxHeartbeats 4000000 in
theorem SightsOf_ok (A : Option Addr) (c : Nat) (fs : List (List Int)) (A1 : Option Addr) (c1 : Nat) (ws : List (List Int)) (i : Int) (w : World) (hf : ∀ k i, 0 ≤ rn (rl fs k) i) (hx : WBytes ws)
    (h0 : (Karr 24).C w A fs.length fs) (h1 : (Kd.slice 5 (Kd.int .u8)).C w A1 ws.length ws) :
    Calls Try.prog 27 #[.agg #[.slice A fs.length c, .slice A1 ws.length c1], .int .i64 i] w fun e w' => ∃ v, e = .returned (.tuple #[v, .int .i64 (sotV fs ws i).2]) ∧ w'.ownsRow w.heap.size 72 6 v (sotV fs ws i).1.length (nums .u8 (flat (sotV fs ws i).1)) ∧ Below w.heap.size w w' := by
  have hm1 : ws.length ≤ 9223372036854775807 := h1.2.1
  have hcc := heap_alloc_new w (.cells #[.slice A fs.length c, .slice A1 ws.length c1] 46)
  have hb0 := below_box w (.cells #[.slice A fs.length c, .slice A1 ws.length c1] 46)
  have hsz0 := size_box w (.cells #[.slice A fs.length c, .slice A1 ws.length c1] 46)
  have HC0 := Lib.hid (ValidCode_ok A c fs A1 c1 ws _ hx (C_below' h0 hb0) (C_below' h1 hb0))
  have HCC := Lib.hid hcc
  have HB0 := Lib.hid hb0
  have H0 := Lib.hid (C_below' h0 hb0)
  have H1 := Lib.hid (C_below' h1 hb0)
  have hgood := fun h => okC_good (fs := fs) (ws := ws) h hf hx
  clear hcc hb0 h0 h1 hf hx
  rcases hok : okC fs ws with _ | _
  · have HS := Lib.hid (show sotV fs ws i = ([], 1) by unfold sotV; rw [hok]; rfl)
    rw [hok] at HC0
    clear hok hgood
    go_enter Try.func27, Try.ntmps27
    go_wp2_with (first | (refine load_agg rfl 46 (.tmp 2) rfl ⟨w.heap.size, 0, none⟩ rfl [.slice A fs.length c, .slice A1 ws.length c1] _ (fun j v hv => by rw [add_plain, blk_cell HCC.out j]; simpa using hv) Try.underlying46 rfl ainfo_code ?_) | (go_at_call 42; refine HC0.out.mono ?_; rintro e w' ⟨rfl, hb'⟩))
    go_ret2
    rw [HS.out]
    exact ⟨_, rfl, own_nil _ _ _ _, HB0.out.trans (hb'.mono (by omega))⟩
  · have HG := Lib.hid (hgood hok)
    rcases hin : inB i 0 ((ws.length : Int) - 1) with _ | _
    · have HS := Lib.hid (show sotV fs ws i = ([], 2) by unfold sotV; rw [hok, hin]; rfl)
      rw [hok] at HC0
      have HI := Lib.hid hin
      clear hok hgood hin
      go_enter Try.func27, Try.ntmps27
      go_wp2_with (first | (refine load_agg rfl 46 (.tmp 2) rfl ⟨w.heap.size, 0, none⟩ rfl [.slice A fs.length c, .slice A1 ws.length c1] _ (fun j v hv => by rw [add_plain, blk_cell HCC.out j]; simpa using hv) Try.underlying46 rfl ainfo_code ?_) | (go_at_call 42; refine HC0.out.mono ?_; rintro e w1 ⟨rfl, hb1⟩; have x1 := (blk_cell ((hb1.block w.heap.size (by omega)).trans HCC.out) 1).trans (show _ = some (.slice A1 ws.length c1) from rfl); have HB1 := Lib.hid hb1; clear hb1) | (go_at_call 57; refine (sizeW_ok _ _ _ _ hm1).mono ?_; rintro e w' ⟨rfl, rfl⟩) | (go_at_call 54; refine (within_ok _ _ _ _).mono ?_; rintro e w' ⟨rfl, rfl⟩; rw [HI.out]))
      go_ret2
      rw [HS.out]
      exact ⟨_, rfl, own_nil _ _ _ _, HB0.out.trans (HB1.out.mono (by omega))⟩
    · obtain ⟨k, rfl⟩ : ∃ k : Nat, i = k := ⟨i.toNat, by have := inB_iff.1 hin; omega⟩
      have hk : k < ws.length := by have := inB_iff.1 hin; omega
      have hki : (k : Int) < (ws.length : Int) := by omega
      have HS := Lib.hid (show sotV fs ws k = (see fs (rl ws k), 0) by unfold sotV; rw [hok, hin]; rfl)
      rw [hok] at HC0
      have HI := Lib.hid hin
      clear hok hgood hin
      go_enter Try.func27, Try.ntmps27
      go_wp2_with (first | (refine load_agg rfl 46 (.tmp 2) rfl ⟨w.heap.size, 0, none⟩ rfl [.slice A fs.length c, .slice A1 ws.length c1] _ (fun j v hv => by rw [add_plain, blk_cell HCC.out j]; simpa using hv) Try.underlying46 rfl ainfo_code ?_) | (go_at_call 42; refine HC0.out.mono ?_; rintro e w1 ⟨rfl, hb1⟩; have x1 := (blk_cell ((hb1.block w.heap.size (by omega)).trans HCC.out) 1).trans (show _ = some (.slice A1 ws.length c1) from rfl); have HB1 := Lib.hid hb1; clear hb1) | (go_at_call 57; refine (sizeW_ok _ _ _ _ hm1).mono ?_; rintro e w' ⟨rfl, rfl⟩) | (go_at_call 54; refine (within_ok _ _ _ _).mono ?_; rintro e w' ⟨rfl, rfl⟩; rw [HI.out]))
      obtain ⟨ad1, A3, c3, rfl, hx3, hl3, hr3⟩ := at_row (C_below' H1.out HB1.out) hk
      have hb1 := HB1.out
      have hlt1 : w.heap.size < w1.heap.size := by have := hb1.size; omega
      have x0 := (blk_cell ((hb1.block w.heap.size (by omega)).trans HCC.out) 0).trans (show _ = some (.slice A fs.length c) from rfl)
      have hdr : Below w1.heap.size w1 w1.drew := ⟨rfl, rfl, rfl, Nat.le_refl _, fun _ _ => rfl⟩
      have HSI := Lib.hid (fun W (h : Below w1.heap.size w1 W) => sights_ok A c fs (.slice (some ad1) ws.length c1) A3 c3 (rl ws k) W (by have := (HG.out.len k hk).2; omega) HG.out.flags (HG.out.words k hk) (C_below' (C_below' H0.out HB1.out) h) (C_below' hr3 h))
      have HK := Lib.hid (fun W (h : Below w1.heap.size w1 W) => And.intro ((h.cell (cell_lt x0)).trans x0) (And.intro ((h.cell (cell_lt x1)).trans x1) ((h.cell (cell_lt hx3)).trans hx3)))
      clear hr3 hb1
      go_region_held3 (fun w' => w'.cell? ⟨w.heap.size, 0, none⟩ = some (.slice A fs.length c) ∧ w'.cell? ⟨w.heap.size, 1, none⟩ = some (.slice (some ad1) ws.length c1) ∧ w'.cell? (ad1.add k) = some (.slice A3 (rl ws k).length c3))
        ((first | exact HK.out _ hdr | exact HK.out _ hq1))
        ((go_at_call 83; refine (HSI.out _ hdr).mono ?_; rintro e w2 ⟨v2, rfl, hown, hb2⟩; have hq1 := hdr.trans (hb2.mono hdr.size)))
      go_wp2
      go_ret2
      rw [HS.out, see_length]
      exact ⟨_, rfl, own_weaken hown (by have := hdr.size; omega), HB0.out.trans ((HB1.out.trans (hq1.mono HB1.out.size)).mono (by omega))⟩
end Go.Proofs.Ytjadhhnajphibaa
namespace Go.Proofs.Ytjadhhnajphibaa
open Go.RowKit Go.Proofs.YtjadhhnajphibaaW.PrintWords

section
variable {w w1 : World} {base : Nat} {e : TypeId} {size n : Nat} {v : Value}
theorem own_NF {kd : IntKind} {ys : List Int} (h : w.ownsRow base e size v n (nums kd ys)) (hb : base ≤ w.heap.size) :
    ∃ A c g, v = .slice A n c ∧ n ≤ c ∧ base ≤ g ∧ (0 < n → A = some ⟨g, 0, none⟩ ∧ NF kd w g e (n * size) (rn ys)) := by
  rcases h.2 with ⟨rfl, rfl⟩ | ⟨g, cap, cur, rfl, h1, h2, h3, h4, h5, h6⟩
  · exact ⟨none, 0, _, rfl, Nat.le_refl _, hb, fun h => absurd h (by omega)⟩
  · refine ⟨_, cap, g, rfl, h3, h1, fun _ => ⟨rfl, cur, h2, fun i hi => ?_⟩⟩
    have hl := h.1
    rw [nums_length] at hl
    have hiy : i < ys.length := by omega
    have h7 := congrArg (fun l : List Value => l[i]?) h6
    simp only [nums, List.getElem?_take, if_pos hi, List.getElem?_map, List.getElem?_eq_getElem hiy, Option.map_some, Array.getElem?_toList] at h7
    rw [h7]
    simp [rn, List.getD_eq_getElem?_getD, List.getElem?_eq_getElem hiy]
theorem own_lt {xs : List Value} (h : w.ownsRow base e size v n xs) : ∀ k, v.ownBlock = some k → k < w.heap.size := by
  intro k hk
  rcases h.2 with ⟨rfl, _⟩ | ⟨g, cap, cur, rfl, h1, h2, _⟩
  · cases hk
  · injection hk with hk
    subst hk
    exact blk_lt h2
theorem own_mid {lo hi : Nat} {xs : List Value} (h : w.ownsRow base e size v n xs) (hm : Mid lo hi w w1) (hne : ∀ k, v.ownBlock = some k → k < lo ∨ hi ≤ k) : w1.ownsRow base e size v n xs := by
  refine ⟨h.1, ?_⟩
  rcases h.2 with h1 | ⟨g, cap, cur, rfl, h1, h2, h3⟩
  · exact .inl h1
  · exact .inr ⟨g, cap, cur, rfl, h1, (hm.block g (blk_lt h2) (hne g rfl)).trans h2, h3⟩
theorem own_len {xs : List Value} (h : w.ownsRow base e size v n xs) : n ≤ 9223372036854775807 := by
  rcases h.2 with ⟨_, h1⟩ | ⟨g', cap', cur, he, _, _, h1, h2, _⟩
  · omega
  · simp only [maxLen] at h2
    omega
theorem own_NF_at {kd : IntKind} {ys : List Int} {A : Option Addr} {c g : Nat} (h : w.ownsRow base e size (.slice A n c) n (nums kd ys)) (hb : base ≤ w.heap.size) (h0 : 0 < n → A = some ⟨g, 0, none⟩) : 0 < n → A = some ⟨g, 0, none⟩ ∧ NF kd w g e (n * size) (rn ys) := by
  intro hn
  obtain ⟨A', c', g', hv, -, -, h1⟩ := own_NF h hb
  injection hv with h2 h3 h4
  subst h2
  obtain ⟨h5, h6⟩ := h1 hn
  have h7 := h0 hn
  rw [h5] at h7
  injection h7 with h7
  injection h7 with h7
  subst h7
  exact ⟨h5, h6⟩
end
theorem own_arrs {N : Nat} {w : World} {base : Nat} {e : TypeId} {n c : Nat} {A : Option Addr} {ss : List (List Int)} (hN : 0 < N) (h : w.ownsRow base e N (.slice A n c) n (nums .u8 (flat ss))) (hn : ss.length = n) (hl : ∀ s ∈ ss, s.length = N) : (Karr N).C w A n ss := by
  subst hn
  have hm := own_len h
  obtain ⟨A', c', hv, hc, hcells⟩ := own_cells h
  injection hv with h1 h2 h3
  subst h1
  exact arrs_of_cells hcells hl hN hm
theorem own_ints {w : World} {base : Nat} {e : TypeId} {kd : IntKind} {n c : Nat} {A : Option Addr} {xs : List Int} (h : w.ownsRow base e 1 (.slice A n c) n (nums kd xs)) (hn : xs.length = n) : (Kd.int kd).C w A n xs := by
  subst hn
  obtain ⟨_, A', c', hv, hc, hC⟩ := own_C h
  injection hv with h1 h2 h3
  subst h1
  exact hC
theorem MC.blocks {w : World} {B gs gw : Nat} {bk : Nat → Nat} {fs ws : List (List Int)} (h : MC w B gs gw bk fs ws) : gs < w.heap.size ∧ ∀ j, j < ws.length → bk j < w.heap.size := ⟨h.set.lt, fun j hj => (h.words.each j hj hj).2.1⟩
theorem sot_len {fs ws : List (List Int)} {i : Int} (hf : ∀ k i, 0 ≤ rn (rl fs k) i) (hx : WBytes ws) : (sotV fs ws i).1.length ≤ 8 := by
  unfold sotV
  split
  · rename_i h
    split
    · rename_i hin
      have h1 := inB_iff.1 hin
      simp only [see_length]
      exact ((okC_good h hf hx).len _ (by omega)).2
    · simp
  · simp
end Go.Proofs.Ytjadhhnajphibaa
namespace Go.Proofs.Ytjadhhnajphibaa

/-- the indices below k whose distance is at most a number. -/
def candTo (D : Nat → Nat) (wrong : Int) : Nat → List Int
  | 0 => []
  | k + 1 => if (D k : Int) ≤ wrong then candTo D wrong k ++ [(k : Int)] else candTo D wrong k
theorem candTo_yes {D : Nat → Nat} {wrong : Int} {k : Nat} (h : (D k : Int) ≤ wrong) : candTo D wrong (k + 1) = candTo D wrong k ++ [(k : Int)] := by rw [candTo, if_pos h]
theorem candTo_no {D : Nat → Nat} {wrong : Int} {k : Nat} (h : ¬ (D k : Int) ≤ wrong) : candTo D wrong (k + 1) = candTo D wrong k := by rw [candTo, if_neg h]
theorem candTo_len (D : Nat → Nat) (wrong : Int) (k : Nat) : (candTo D wrong k).length ≤ k := by
  induction k with
  | zero => simp [candTo]
  | succ k ih =>
    by_cases h : (D k : Int) ≤ wrong
    · rw [candTo_yes h]; simp; omega
    · rw [candTo_no h]; omega
theorem candTo_mem {D : Nat → Nat} {wrong : Int} {n : Nat} {x : Int} : x ∈ candTo D wrong n ↔ ∃ i : Nat, x = i ∧ i < n ∧ (D i : Int) ≤ wrong := by
  induction n with
  | zero => simp [candTo]
  | succ n ih =>
    by_cases h : (D n : Int) ≤ wrong
    · rw [candTo_yes h, List.mem_append, ih, List.mem_singleton]
      constructor
      · rintro (⟨i, h1, h2, h3⟩ | rfl)
        · exact ⟨i, h1, by omega, h3⟩
        · exact ⟨n, rfl, by omega, h⟩
      · rintro ⟨i, rfl, h2, h3⟩
        by_cases e : i = n
        · subst e; exact .inr rfl
        · exact .inl ⟨i, rfl, by omega, h3⟩
    · rw [candTo_no h, ih]
      constructor
      · rintro ⟨i, h1, h2, h3⟩; exact ⟨i, h1, by omega, h3⟩
      · rintro ⟨i, rfl, h2, h3⟩
        refine ⟨i, rfl, ?_, h3⟩
        by_cases e : i = n
        · subst e; exact absurd h3 h
        · omega
/-- the first of the nearest, how far, how many. -/
structure Rs where
  b : Int
  l : Int
  c : Int
def rsStep (D : Nat → Nat) (i : Nat) (s : Rs) : Rs := if s.l < 0 ∨ (D i : Int) < s.l then ⟨i, D i, 1⟩ else if (D i : Int) = s.l then ⟨s.b, s.l, s.c + 1⟩ else s
def rsTo (D : Nat → Nat) : Nat → Rs
  | 0 => ⟨0, -1, 0⟩
  | n + 1 => rsStep D n (rsTo D n)
def rsOut (s : Rs) : Int × Int × Int := if 1 < s.c then (0, 0, 8) else (s.b, s.l, 0)
theorem rsTo_yes {D : Nat → Nat} {k : Nat} {b l c : Int} (h : (⟨b, l, c⟩ : Rs) = rsTo D k) (h1 : l < 0 ∨ (D k : Int) < l) : rsTo D (k + 1) = ⟨k, D k, 1⟩ := by
  rw [rsTo, ← h, rsStep, if_pos h1]
theorem rsTo_same {D : Nat → Nat} {k : Nat} {b l c : Int} (h : (⟨b, l, c⟩ : Rs) = rsTo D k) (h1 : ¬ (l < 0 ∨ (D k : Int) < l)) (h2 : (D k : Int) = l) : rsTo D (k + 1) = ⟨b, l, c + 1⟩ := by
  rw [rsTo, ← h, rsStep, if_neg h1, if_pos h2]
theorem rsTo_no {D : Nat → Nat} {k : Nat} {b l c : Int} (h : (⟨b, l, c⟩ : Rs) = rsTo D k) (h1 : ¬ (l < 0 ∨ (D k : Int) < l)) (h2 : ¬ (D k : Int) = l) : rsTo D (k + 1) = ⟨b, l, c⟩ := by
  rw [rsTo, ← h, rsStep, if_neg h1, if_neg h2]
theorem rs_cand (D : Nat → Nat) : ∀ n : Nat, 1 ≤ n → 0 ≤ (rsTo D n).l ∧ (∃ i, i < n ∧ (rsTo D n).l = D i) ∧ (∀ wrong, wrong < (rsTo D n).l → candTo D wrong n = []) ∧ ∃ tl, candTo D (rsTo D n).l n = (rsTo D n).b :: tl ∧ (tl.length : Int) + 1 = (rsTo D n).c
  | 0, h => absurd h (by omega)
  | n + 1, _ => by
    rcases Nat.eq_zero_or_pos n with e | hn
    · subst e
      have h1 : rsTo D (0 + 1) = ⟨(0 : Nat), D 0, 1⟩ := rsTo_yes (D := D) (k := 0) rfl (.inl (by decide))
      rw [h1]
      refine ⟨by simp, ⟨0, by omega, rfl⟩, fun wrong hw => candTo_no (by simp only at hw; omega), [], ?_, rfl⟩
      rw [candTo_yes (by simp)]
      rfl
    · obtain ⟨h1, h2, h3, tl, h4, h5⟩ := rs_cand D n hn
      rcases hs : rsTo D n with ⟨b, l, c⟩
      rw [hs] at h1 h2 h3 h4 h5
      simp only at h1 h2 h3 h4 h5
      by_cases hb : l < 0 ∨ (D n : Int) < l
      · rw [rsTo_yes hs.symm hb]
        refine ⟨by simp, ⟨n, by omega, rfl⟩, fun wrong hw => ?_, [], ?_, rfl⟩
        · simp only at hw
          rw [candTo_no (by omega)]
          exact h3 wrong (by omega)
        · simp only
          rw [candTo_yes (by omega), h3 _ (by omega)]
          rfl
      · by_cases he : (D n : Int) = l
        · rw [rsTo_same hs.symm hb he]
          refine ⟨h1, ?_, fun wrong hw => ?_, tl ++ [(n : Int)], ?_, ?_⟩
          · obtain ⟨i, h6, h7⟩ := h2; exact ⟨i, by omega, h7⟩
          · simp only at hw
            rw [candTo_no (by omega)]
            exact h3 wrong hw
          · simp only
            rw [candTo_yes (by omega), h4]
            rfl
          · simp only [List.length_append, List.length_singleton]
            push_cast
            omega
        · rw [rsTo_no hs.symm hb he]
          refine ⟨h1, ?_, fun wrong hw => ?_, tl, ?_, h5⟩
          · obtain ⟨i, h6, h7⟩ := h2; exact ⟨i, by omega, h7⟩
          · simp only at hw
            rw [candTo_no (by omega)]
            exact h3 wrong hw
          · simp only
            rw [candTo_no (by omega), h4]
theorem rs_least (D : Nat → Nat) : ∀ n i : Nat, i < n → (rsTo D n).l ≤ D i := by
  intro n i hi
  rcases (show (D i : Int) < (rsTo D n).l ∨ (rsTo D n).l ≤ D i by omega) with h | h
  · have h1 := (rs_cand D n (by omega)).2.2.1 _ h
    have h2 : (i : Int) ∈ candTo D (D i) n := candTo_mem.2 ⟨i, rfl, hi, Int.le_refl _⟩
    rw [h1] at h2
    cases h2
  · exact h
theorem rs_count (D : Nat → Nat) (n : Nat) : 0 ≤ (rsTo D n).c ∧ (rsTo D n).c ≤ n := by
  induction n with
  | zero => simp [rsTo]
  | succ n ih =>
    rcases hs : rsTo D n with ⟨b, l, c⟩
    rw [hs] at ih
    simp only at ih
    by_cases hb : l < 0 ∨ (D n : Int) < l
    · rw [rsTo_yes hs.symm hb]; simp only; omega
    · by_cases he : (D n : Int) = l
      · rw [rsTo_same hs.symm hb he]; simp only; omega
      · rw [rsTo_no hs.symm hb he]; simp only; omega
def dSee (fs ws ss : List (List Int)) (i : Nat) : Nat := farS (see fs (rl ws i)) ss
theorem dSee_le {fs ws ss : List (List Int)} (hg : Good fs ws) {i : Nat} (hi : i < ws.length) : dSee fs ws ss i ≤ 48 := by
  have h1 := farS_le (b := ss) (see_each fs (rl ws i))
  have h2 := (hg.len i hi).2
  rw [see_length] at h1
  unfold dSee
  omega
def rsV (fs ws ss : List (List Int)) : Int × Int × Int :=
  if okC fs ws then (if okS ss then (if ws.length = 0 then (0, 0, 6) else if ss.length = (rl ws 0).length then rsOut (rsTo (dSee fs ws ss) ws.length) else (0, 0, 2)) else (0, 0, 1)) else (0, 0, 1)
def candV (fs ws ss : List (List Int)) (wrong : Int) : List Int × Int :=
  if okC fs ws then (if okS ss then (if inB wrong 0 48 && (decide (ws.length = 0) || decide (ss.length = (rl ws 0).length)) then (candTo (dSee fs ws ss) wrong ws.length, 0) else ([], 2)) else ([], 1)) else ([], 1)
def tup3 (r : Int × Int × Int) : Ending := .returned (.tuple #[.int .i64 r.1, .int .i64 r.2.1, .int .i64 r.2.2])
theorem uinfo_i64 : (Try.prog.info? 2).map (fun i => (i.zero, i.size, i.bytes)) = some (some (.int .i64 0), 1, 8) := by kernel_rfl
end Go.Proofs.Ytjadhhnajphibaa
namespace Go.Proofs.Ytjadhhnajphibaa
open Go.RowKit Go.Proofs.YtjadhhnajphibaaW.PrintWords

set_option maxRecDepth 100000 in
set_option maxHeartbeats 8000000 in
theorem ReadSightsS_ok (A : Option Addr) (c : Nat) (fs : List (List Int)) (A1 : Option Addr) (c1 : Nat) (ws : List (List Int)) (A2 : Option Addr) (c2 : Nat) (ss : List (List Int)) (w : World) (hf : ∀ k i, 0 ≤ rn (rl fs k) i) (hx : WBytes ws)
    (h0 : (Karr 24).C w A fs.length fs) (h1 : (Kd.slice 5 (Kd.int .u8)).C w A1 ws.length ws) (h2 : (Karr 6).C w A2 ss.length ss) :
    Calls Try.prog 33 #[.agg #[.slice A fs.length c, .slice A1 ws.length c1], .slice A2 ss.length c2] w fun e w' => e = tup3 (rsV fs ws ss) ∧ Below w.heap.size w w' := by
  have hm1 : ws.length ≤ 9223372036854775807 := h1.2.1
  have hm2 : ss.length ≤ 9223372036854775807 := h2.2.1
  have hcc := heap_alloc_new w (.cells #[.slice A fs.length c, .slice A1 ws.length c1] 46)
  have hb0 := below_box w (.cells #[.slice A fs.length c, .slice A1 ws.length c1] 46)
  have hsz0 := size_box w (.cells #[.slice A fs.length c, .slice A1 ws.length c1] 46)
  have HC0 := Lib.hid (l05Ok_ok w.heap.size A c fs A1 c1 ws _ hx hcc (C_below' h0 hb0) (C_below' h1 hb0))
  have HCC := Lib.hid hcc
  have HB0 := Lib.hid hb0
  have H0 := Lib.hid (C_below' h0 hb0)
  have H1 := Lib.hid (C_below' h1 hb0)
  have H2 := Lib.hid (C_below' h2 hb0)
  have HSE := Lib.hid (fun (q : Nat) => l05Seen_ok A2 c2 ss ((w.alloc (.cells #[.slice A fs.length c, .slice A1 ws.length c1] 46)).drewN q) (C_below' h2 (below_dN hb0 q)))
  have HV : Hid (rsV fs ws ss = if okC fs ws then (if okS ss then (if ws.length = 0 then (0, 0, 6) else if ss.length = (rl ws 0).length then rsOut (rsTo (dSee fs ws ss) ws.length) else (0, 0, 2)) else (0, 0, 1)) else (0, 0, 1)) := rfl
  have hgood := fun h => okC_good (fs := fs) (ws := ws) h hf hx
  clear hcc hb0 h0 h1 h2 hf hx
  rcases hok : okC fs ws with _ | _
  · have HS := Lib.hid (show rsV fs ws ss = (0, 0, 1) by rw [HV.out, hok]; rfl)
    rw [hok] at HC0
    clear HV hok hgood
    go_enter Try.func33, Try.ntmps33
    go_wp2_with (go_at_call 78; refine HC0.out.mono ?_; rintro e w' ⟨rfl, q, rfl⟩)
    go_ret3
    rw [HS.out]
    exact ⟨rfl, below_dN HB0.out _⟩
  · have HG := Lib.hid (hgood hok)
    rw [hok] at HC0 HV
    clear hok hgood
    rcases hos : okS ss with _ | _
    · have HS := Lib.hid (show rsV fs ws ss = (0, 0, 1) by rw [HV.out, hos]; rfl)
      rw [hos] at HSE
      clear HV hos
      go_enter Try.func33, Try.ntmps33
      go_wp2_with (first | (go_at_call 78; refine HC0.out.mono ?_; rintro e w' ⟨rfl, q, rfl⟩) | (go_at_call 91; refine (HSE.out _).mono ?_; rintro e w' ⟨rfl, rfl⟩))
      go_ret3
      rw [HS.out]
      exact ⟨rfl, below_dN HB0.out _⟩
    · rw [hos] at HSE HV
      clear hos
      by_cases hn0 : ws.length = 0
      · have HS := Lib.hid (show rsV fs ws ss = (0, 0, 6) by rw [HV.out]; simp [hn0])
        have hnb : ((ws.length : Int) == 0) = true := by simp [hn0]
        have HN := Lib.hid hn0
        clear HV hn0
        go_enter Try.func33, Try.ntmps33
        go_wp2_with (first | (go_at_call 78; refine HC0.out.mono ?_; rintro e w' ⟨rfl, q, rfl⟩) | (go_at_call 91; refine (HSE.out _).mono ?_; rintro e w' ⟨rfl, rfl⟩))
        go_ret3
        rw [HS.out]
        exact ⟨rfl, below_dN HB0.out _⟩
      · have hnp : 0 < ws.length := by omega
        have hni : (0 : Int) < (ws.length : Int) := by omega
        have hnb : ((ws.length : Int) == 0) = false := beq_eq_false_iff_ne.2 (by omega)
        obtain ⟨ad1, A3, c3, rfl, hx3, hl3, hr3⟩ := at_row H1.out hnp
        rw [Addr.add_zero'] at hx3
        have hm3 : (rl ws 0).length ≤ 9223372036854775807 := hr3.2.1
        clear hr3
        by_cases hl : ss.length = (rl ws 0).length
        rotate_left
        · have HS := Lib.hid (show rsV fs ws ss = (0, 0, 2) by rw [HV.out]; simp [hn0, hl])
          have hlb : ((ss.length : Int) != ((rl ws 0).length : Int)) = true := by simp; omega
          clear HV hn0 hl
          go_enter Try.func33, Try.ntmps33
          go_wp2_with (first | (go_at_call 78; refine HC0.out.mono ?_; rintro e w' ⟨rfl, q, rfl⟩) | (go_at_call 91; refine (HSE.out _).mono ?_; rintro e w' ⟨rfl, rfl⟩))
          go_ret3
          rw [HS.out]
          exact ⟨rfl, below_dN HB0.out _⟩
        · have HS := Lib.hid (show rsV fs ws ss = rsOut (rsTo (dSee fs ws ss) ws.length) by rw [HV.out]; simp [hn0, hl])
          have hlb : ((ss.length : Int) != ((rl ws 0).length : Int)) = false := by simp [hl]
          have HLS := Lib.hid hl
          clear HV hn0 hl
          go_enter Try.func33, Try.ntmps33
          go_wp2_with (first | (go_at_call 78; refine HC0.out.mono ?_; rintro e w' ⟨rfl, q, rfl⟩) | (go_at_call 91; refine (HSE.out _).mono ?_; rintro e w' ⟨rfl, rfl⟩))
          have HB1 := Lib.hid (below_dN (Below.refl (w.alloc (.cells #[.slice A fs.length c, .slice (some ad1) ws.length c1] 46)).heap.size (w.alloc (.cells #[.slice A fs.length c, .slice (some ad1) ws.length c1] 46))) q)
          have hsz0 := size_box w (.cells #[.slice A fs.length c, .slice (some ad1) ws.length c1] 46)
          clear hx3 hlb hnb
          generalize (w.alloc (.cells #[.slice A fs.length c, .slice (some ad1) ws.length c1] 46)) = W0 at *
          generalize W0.drewN q = W1 at *
          clear HC0 HSE
          have hgc : w.heap.size < W0.heap.size := by omega
          have HSI := Lib.hid (fun (i : Nat) (W : World) (hi : i < ws.length) (h : Below W0.heap.size W0 W) => l05Sights_ok w.heap.size A c fs (some ad1) c1 ws i W hi (by have := HG.out.many; omega) (by have := (HG.out.len i hi).2; omega) HG.out.flags (HG.out.words i hi) ((h.block _ hgc).trans HCC.out) (C_below' H0.out h) (C_below' H1.out h))
          have HX := Lib.hid (fun (W : World) (h : Below W0.heap.size W0 W) => (blk_cell ((h.block w.heap.size hgc).trans HCC.out) 1).trans (show _ = some (.slice (some ad1) ws.length c1) from rfl))
          have hlen60 : ws.length ≤ 60 := HG.out.many
          go_loopw [7, 8, 9, 10, 11] (fun vb vl vc i _ wr => ∃ (k : Nat) (s : Rs), k ≤ ws.length ∧ i = .int .i64 k ∧ vb = .int .i64 s.b ∧ vl = .int .i64 s.l ∧ vc = .int .i64 s.c ∧ Hid (s = rsTo (dSee fs ws ss) k) ∧ Hid (Below W0.heap.size W0 wr)) (fun _ _ _ i _ _ => ws.length - (intOf i).toNat)
          case atStart => exact ⟨0, ⟨0, -1, 0⟩, Nat.zero_le _, rfl, rfl, rfl, rfl, rfl, HB1⟩
          case round =>
            clear HB1
            obtain ⟨i, ⟨b, l, n⟩, hi, rfl, rfl, rfl, rfl, HS1, HB⟩ := hrel
            have x1 := HX.out _ HB.out
            have hcn := rs_count (dSee fs ws ss) i
            rw [← HS1.out] at hcn
            simp only at hcn
            obtain ⟨hc0, hc1⟩ := hcn
            by_cases hlt : i < ws.length
            · have hlti : (i : Int) < (ws.length : Int) := by omega
              go_wp2_with fail
              refine (HSI.out i _ hlt HB.out).mono ?_
              rintro e w1 ⟨v, rfl, hown, hb1⟩
              obtain ⟨A5, c5, rfl, hr5⟩ := see_read (by have := (HG.out.len i hlt).2; omega) hown
              have HB1 := Lib.hid (HB.out.trans (hb1.mono HB.out.size))
              have HC6 := Lib.hid (l05Far_ok A5 c5 (see fs (rl ws i)) A2 c2 ss w1 hr5 (C_below' H2.out HB1.out) (by rw [see_length, (HG.out.len i hlt).1, HLS.out]; omega) (by rw [see_length]; have := (HG.out.len i hlt).2; omega))
              have hd48 := dSee_le (ss := ss) HG.out hlt
              have HY := Lib.hid (fun h => rsTo_yes HS1.out h)
              have HZ := Lib.hid (fun h h' => rsTo_same HS1.out h h')
              have HN := Lib.hid (fun h h' => rsTo_no HS1.out h h')
              rw [show farS (see fs (rl ws i)) ss = dSee fs ws ss i from rfl] at HC6
              clear hown hb1 hr5 x1
              generalize dSee fs ws ss i = d at *
              by_cases hl0 : l < 0
              · go_wp2_with (go_at_call 80; refine HC6.out.mono ?_; rintro e w' ⟨rfl, q6, rfl⟩)
                go_roundw
                case rel => exact ⟨i + 1, ⟨i, d, 1⟩, by omega, by go_num, rfl, rfl, rfl, (HY.out (.inl hl0)).symm, below_dN HB1.out _⟩
                case measure => first|(simp [intOf]; done)|(simp [intOf]; omega)
              · by_cases hdl : (d : Int) < l
                · go_wp2_with (go_at_call 80; refine HC6.out.mono ?_; rintro e w' ⟨rfl, q6, rfl⟩)
                  go_roundw
                  case rel => exact ⟨i + 1, ⟨i, d, 1⟩, by omega, by go_num, rfl, rfl, rfl, (HY.out (.inr hdl)).symm, below_dN HB1.out _⟩
                  case measure => first|(simp [intOf]; done)|(simp [intOf]; omega)
                · by_cases hde : (d : Int) = l
                  · have HQ := Lib.hid (HZ.out (by omega) hde)
                    have hdb : ((d : Int) == l) = true := by simp [hde]
                    clear hde
                    go_wp2_with (go_at_call 80; refine HC6.out.mono ?_; rintro e w' ⟨rfl, q6, rfl⟩)
                    go_roundw
                    case rel => exact ⟨i + 1, ⟨b, l, n + 1⟩, by omega, by go_num, rfl, rfl, rfl, HQ.out.symm, below_dN HB1.out _⟩
                    case measure => first|(simp [intOf]; done)|(simp [intOf]; omega)
                  · have HQ := Lib.hid (HN.out (by omega) hde)
                    have hdb : ((d : Int) == l) = false := beq_eq_false_iff_ne.2 hde
                    clear hde
                    go_wp2_with (go_at_call 80; refine HC6.out.mono ?_; rintro e w' ⟨rfl, q6, rfl⟩)
                    go_roundw
                    case rel => exact ⟨i + 1, ⟨b, l, n⟩, by omega, by go_num, rfl, rfl, rfl, HQ.out.symm, below_dN HB1.out _⟩
                    case measure => first|(simp [intOf]; done)|(simp [intOf]; omega)
            · obtain rfl : i = ws.length := by omega
              by_cases hmany : 1 < n
              · have HO := Lib.hid (show rsV fs ws ss = (0, 0, 8) by rw [HS.out, ← HS1.out, rsOut, if_pos hmany])
                go_wp2
                go_ret3
                rw [HO.out]
                exact ⟨rfl, HB0.out.trans (HB.out.mono (by omega))⟩
              · have HO := Lib.hid (show rsV fs ws ss = (b, l, 0) by rw [HS.out, ← HS1.out, rsOut, if_neg hmany])
                go_wp2
                go_ret3
                rw [HO.out]
                exact ⟨rfl, HB0.out.trans (HB.out.mono (by omega))⟩
end Go.Proofs.Ytjadhhnajphibaa
namespace Go.Proofs.Ytjadhhnajphibaa
open Go.RowKit Go.Proofs.YtjadhhnajphibaaW.PrintWords

set_option maxRecDepth 100000 in
set_option maxHeartbeats 8000000 in
theorem CandidatesForS_ok (A : Option Addr) (c : Nat) (fs : List (List Int)) (A1 : Option Addr) (c1 : Nat) (ws : List (List Int)) (A2 : Option Addr) (c2 : Nat) (ss : List (List Int)) (wrong : Int) (w : World) (hf : ∀ k i, 0 ≤ rn (rl fs k) i) (hx : WBytes ws)
    (h0 : (Karr 24).C w A fs.length fs) (h1 : (Kd.slice 5 (Kd.int .u8)).C w A1 ws.length ws) (h2 : (Karr 6).C w A2 ss.length ss) :
    Calls Try.prog 36 #[.agg #[.slice A fs.length c, .slice A1 ws.length c1], .slice A2 ss.length c2, .int .i64 wrong] w fun e w' => ∃ v, e = .returned (.tuple #[v, .int .i64 (candV fs ws ss wrong).2]) ∧ w'.ownsRow w.heap.size 2 1 v (candV fs ws ss wrong).1.length (nums .i64 (candV fs ws ss wrong).1) ∧ Below w.heap.size w w' := by
  have hm1 : ws.length ≤ 9223372036854775807 := h1.2.1
  have hm2 : ss.length ≤ 9223372036854775807 := h2.2.1
  have hcc := heap_alloc_new w (.cells #[.slice A fs.length c, .slice A1 ws.length c1] 46)
  have hb0 := below_box w (.cells #[.slice A fs.length c, .slice A1 ws.length c1] 46)
  have hsz0 := size_box w (.cells #[.slice A fs.length c, .slice A1 ws.length c1] 46)
  have HC0 := Lib.hid (l05Ok_ok w.heap.size A c fs A1 c1 ws _ hx hcc (C_below' h0 hb0) (C_below' h1 hb0))
  have HCC := Lib.hid hcc
  have HB0 := Lib.hid hb0
  have H0 := Lib.hid (C_below' h0 hb0)
  have H1 := Lib.hid (C_below' h1 hb0)
  have H2 := Lib.hid (C_below' h2 hb0)
  have HSE := Lib.hid (fun (q : Nat) => l05Seen_ok A2 c2 ss ((w.alloc (.cells #[.slice A fs.length c, .slice A1 ws.length c1] 46)).drewN q) (C_below' h2 (below_dN hb0 q)))
  have HV : Hid (candV fs ws ss wrong = if okC fs ws then (if okS ss then (if inB wrong 0 48 && (decide (ws.length = 0) || decide (ss.length = (rl ws 0).length)) then (candTo (dSee fs ws ss) wrong ws.length, 0) else ([], 2)) else ([], 1)) else ([], 1)) := rfl
  have hgood := fun h => okC_good (fs := fs) (ws := ws) h hf hx
  clear hcc hb0 h0 h1 h2 hf hx
  rcases hok : okC fs ws with _ | _
  · have HS := Lib.hid (show candV fs ws ss wrong = ([], 1) by rw [HV.out, hok]; rfl)
    rw [hok] at HC0
    clear HV hok hgood
    go_enter Try.func36, Try.ntmps36
    go_wp2_with (go_at_call 78; refine HC0.out.mono ?_; rintro e w' ⟨rfl, q, rfl⟩)
    go_ret2
    rw [HS.out]
    exact ⟨_, rfl, own_made _ _ _ _ _ hsz0 (by omega), below_alloc (below_dN HB0.out q) _⟩
  · have HG := Lib.hid (hgood hok)
    rw [hok] at HC0 HV
    clear hok hgood
    rcases hos : okS ss with _ | _
    · have HS := Lib.hid (show candV fs ws ss wrong = ([], 1) by rw [HV.out, hos]; rfl)
      rw [hos] at HSE
      clear HV hos
      go_enter Try.func36, Try.ntmps36
      go_wp2_with (first | (go_at_call 78; refine HC0.out.mono ?_; rintro e w' ⟨rfl, q, rfl⟩) | (go_at_call 91; refine (HSE.out _).mono ?_; rintro e w' ⟨rfl, rfl⟩))
      go_ret2
      rw [HS.out]
      exact ⟨_, rfl, own_made _ _ _ _ _ hsz0 (by omega), below_alloc (below_dN HB0.out q) _⟩
    · rw [hos] at HSE HV
      clear hos
      rcases hin : inB wrong 0 48 with _ | _
      · have HS := Lib.hid (show candV fs ws ss wrong = ([], 2) by rw [HV.out, hin]; rfl)
        have HI := Lib.hid hin
        clear HV hin
        go_enter Try.func36, Try.ntmps36
        go_wp2_with (first | (go_at_call 78; refine HC0.out.mono ?_; rintro e w' ⟨rfl, q, rfl⟩) | (go_at_call 91; refine (HSE.out _).mono ?_; rintro e w' ⟨rfl, rfl⟩) | (go_at_call 62; refine (l00In_ok _ _ _ _).mono ?_; rintro e w' ⟨rfl, rfl⟩; rw [HI.out]))

        go_ret2
        rw [HS.out]
        exact ⟨_, rfl, own_made _ _ _ _ _ hsz0 (by omega), below_alloc (below_dN HB0.out q) _⟩
      · rw [hin] at HV
        have HI := Lib.hid hin
        clear hin
        by_cases hn0 : ws.length = 0
        · have HS := Lib.hid (show candV fs ws ss wrong = (candTo (dSee fs ws ss) wrong ws.length, 0) by rw [HV.out]; simp [hn0])
          have hnb : ¬ (0 : Int) < (ws.length : Int) := by omega
          have HLS : Hid (0 < ws.length → ss.length = (rl ws 0).length) := fun h => absurd h (by omega)
          clear HV hn0
          go_enter Try.func36, Try.ntmps36
          go_wp2_with (first | (go_at_call 78; refine HC0.out.mono ?_; rintro e w' ⟨rfl, q, rfl⟩) | (go_at_call 91; refine (HSE.out _).mono ?_; rintro e w' ⟨rfl, rfl⟩) | (go_at_call 62; refine (l00In_ok _ _ _ _).mono ?_; rintro e w' ⟨rfl, rfl⟩; rw [HI.out]))

          clear hnb
          have HB1 := Lib.hid (below_alloc (below_dN (Below.refl (w.alloc (.cells #[.slice A fs.length c, .slice A1 ws.length c1] 46)).heap.size (w.alloc (.cells #[.slice A fs.length c, .slice A1 ws.length c1] 46))) q) (.cells #[] 2))
          have HR0 := Lib.hid (own_made ((w.alloc (.cells #[.slice A fs.length c, .slice A1 ws.length c1] 46)).drewN q) 2 (w.heap.size + 1) 1 _ hsz0 (Nat.le_refl _))
          have hsz9 := size_box w (.cells #[.slice A fs.length c, .slice A1 ws.length c1] 46)
          generalize hW1 : ((w.alloc (.cells #[.slice A fs.length c, .slice A1 ws.length c1] 46)).drewN q).alloc (.cells #[] 2) = W1 at *
          clear hW1
          generalize (w.alloc (.cells #[.slice A fs.length c, .slice A1 ws.length c1] 46)) = W0 at *
          clear HC0 HSE
          have hgc : w.heap.size < W0.heap.size := by omega
          have HX := Lib.hid (fun (W : World) (h : Below W0.heap.size W0 W) => (blk_cell ((h.block w.heap.size hgc).trans HCC.out) 1).trans (show _ = some (.slice A1 ws.length c1) from rfl))
          have hlen60 : ws.length ≤ 60 := HG.out.many
          have HSI := Lib.hid (fun (i : Nat) (W : World) (hi : i < ws.length) (h : Below W0.heap.size W0 W) => l05Sights_ok w.heap.size A c fs A1 c1 ws i W hi (by have := HG.out.many; omega) (by have := (HG.out.len i hi).2; omega) HG.out.flags (HG.out.words i hi) ((h.block _ hgc).trans HCC.out) (C_below' H0.out h) (C_below' H1.out h))
          have HDL := Lib.hid (fun (i : Nat) (hi : i < ws.length) => dSee_le (ss := ss) HG.out hi)
          have HDE : Hid (∀ i, dSee fs ws ss i = farS (see fs (rl ws i)) ss) := fun _ => rfl
          generalize dSee fs ws ss = D at *
          go_loopw [8, 9] (fun v i wr => ∃ (k : Nat), k ≤ ws.length ∧ i = .int .i64 k ∧ Hid (wr.ownsRow (w.heap.size + 1) 2 1 v (candTo D wrong k).length (nums .i64 (candTo D wrong k))) ∧ Hid (Below W0.heap.size W0 wr)) (fun _ i _ => ws.length - (intOf i).toNat)
          case atStart => exact ⟨0, Nat.zero_le _, rfl, HR0, HB1⟩
          case round =>
            clear HB1 HR0
            obtain ⟨i, hi, rfl, HO, HB⟩ := hrel
            have x1 := HX.out _ HB.out
            by_cases hlt : i < ws.length
            · exact absurd hlt (by omega)
            · obtain rfl : i = ws.length := by omega
              go_wp2
              go_ret2
              rw [HS.out]
              exact ⟨_, rfl, own_weaken HO.out (by omega), HB0.out.trans (HB.out.mono (by omega))⟩

        · have hnp : 0 < ws.length := by omega
          have hni : (0 : Int) < (ws.length : Int) := by omega
          obtain ⟨ad1, A3, c3, hA1, hx3, hl3, hr3⟩ := at_row H1.out hnp
          rw [Addr.add_zero'] at hx3
          have hm3 : (rl ws 0).length ≤ 9223372036854775807 := hr3.2.1
          clear hr3
          by_cases hl : ss.length = (rl ws 0).length
          · have HS := Lib.hid (show candV fs ws ss wrong = (candTo (dSee fs ws ss) wrong ws.length, 0) by rw [HV.out]; simp [hl])
            have hlb : ((ss.length : Int) != ((rl ws 0).length : Int)) = false := by simp [hl]
            have HLS : Hid (0 < ws.length → ss.length = (rl ws 0).length) := fun _ => hl
            subst hA1
            have hnb : (0 : Int) < (ws.length : Int) := hni
            clear HV hn0 hl hni
            go_enter Try.func36, Try.ntmps36
            go_wp2_with (first | (go_at_call 78; refine HC0.out.mono ?_; rintro e w' ⟨rfl, q, rfl⟩) | (go_at_call 91; refine (HSE.out _).mono ?_; rintro e w' ⟨rfl, rfl⟩) | (go_at_call 62; refine (l00In_ok _ _ _ _).mono ?_; rintro e w' ⟨rfl, rfl⟩; rw [HI.out]))

            clear hx3 hlb hnp
            clear hnb
            have HB1 := Lib.hid (below_alloc (below_dN (Below.refl (w.alloc (.cells #[.slice A fs.length c, .slice (some ad1) ws.length c1] 46)).heap.size (w.alloc (.cells #[.slice A fs.length c, .slice (some ad1) ws.length c1] 46))) q) (.cells #[] 2))
            have HR0 := Lib.hid (own_made ((w.alloc (.cells #[.slice A fs.length c, .slice (some ad1) ws.length c1] 46)).drewN q) 2 (w.heap.size + 1) 1 _ hsz0 (Nat.le_refl _))
            have hsz9 := size_box w (.cells #[.slice A fs.length c, .slice (some ad1) ws.length c1] 46)
            generalize hW1 : ((w.alloc (.cells #[.slice A fs.length c, .slice (some ad1) ws.length c1] 46)).drewN q).alloc (.cells #[] 2) = W1 at *
            clear hW1
            generalize (w.alloc (.cells #[.slice A fs.length c, .slice (some ad1) ws.length c1] 46)) = W0 at *
            clear HC0 HSE
            have hgc : w.heap.size < W0.heap.size := by omega
            have HX := Lib.hid (fun (W : World) (h : Below W0.heap.size W0 W) => (blk_cell ((h.block w.heap.size hgc).trans HCC.out) 1).trans (show _ = some (.slice (some ad1) ws.length c1) from rfl))
            have hlen60 : ws.length ≤ 60 := HG.out.many
            have HSI := Lib.hid (fun (i : Nat) (W : World) (hi : i < ws.length) (h : Below W0.heap.size W0 W) => l05Sights_ok w.heap.size A c fs (some ad1) c1 ws i W hi (by have := HG.out.many; omega) (by have := (HG.out.len i hi).2; omega) HG.out.flags (HG.out.words i hi) ((h.block _ hgc).trans HCC.out) (C_below' H0.out h) (C_below' H1.out h))
            have HDL := Lib.hid (fun (i : Nat) (hi : i < ws.length) => dSee_le (ss := ss) HG.out hi)
            have HDE : Hid (∀ i, dSee fs ws ss i = farS (see fs (rl ws i)) ss) := fun _ => rfl
            generalize dSee fs ws ss = D at *
            go_loopw [8, 9] (fun v i wr => ∃ (k : Nat), k ≤ ws.length ∧ i = .int .i64 k ∧ Hid (wr.ownsRow (w.heap.size + 1) 2 1 v (candTo D wrong k).length (nums .i64 (candTo D wrong k))) ∧ Hid (Below W0.heap.size W0 wr)) (fun _ i _ => ws.length - (intOf i).toNat)
            case atStart => exact ⟨0, Nat.zero_le _, rfl, HR0, HB1⟩
            case round =>
              clear HB1 HR0
              obtain ⟨i, hi, rfl, HO, HB⟩ := hrel
              have x1 := HX.out _ HB.out
              by_cases hlt : i < ws.length
              · have hlti : (i : Int) < (ws.length : Int) := by omega
                go_wp2_with fail
                refine (HSI.out i _ hlt HB.out).mono ?_
                rintro e w1 ⟨v, rfl, hown, hb1⟩
                obtain ⟨A5, c5, rfl, hr5⟩ := see_read (by have := (HG.out.len i hlt).2; omega) hown
                have HB1 := Lib.hid (HB.out.trans (hb1.mono HB.out.size))
                have HO1 := Lib.hid (pw_own_below HO.out hb1)
                have HC6 := Lib.hid (l05Far_ok A5 c5 (see fs (rl ws i)) A2 c2 ss w1 hr5 (C_below' H2.out HB1.out) (by rw [see_length, (HG.out.len i hlt).1, HLS.out (by omega)]; omega) (by rw [see_length]; have := (HG.out.len i hlt).2; omega))
                have hd48 := HDL.out i hlt
                rw [← HDE.out] at HC6
                have HCL := candTo_len D wrong i
                clear hown hb1 hr5 x1
                by_cases hdw : (D i : Int) ≤ wrong
                · have HQ := Lib.hid (candTo_yes hdw)
                  generalize D i = d at *
                  go_wp2_with (first | (go_at_call 80; refine HC6.out.mono ?_; rintro e w6 ⟨rfl, hq6⟩; have hb6 : Below w1.heap.size w1 w6 := (by obtain ⟨q, rfl⟩ := hq6; exact below_dN (Below.refl _ _) q); have HB6 := Lib.hid (HB1.out.trans (hb6.mono HB1.out.size)); have HO6 := Lib.hid (pw_own_below HO1.out hb6); clear hq6 hb6) | (at_builtin; refine print_append_num (w0 := W0) (W := w6) (w.heap.size + 1) rfl (.tmp 52) (.tmp 54) 63 2 .i64 8 rfl Try.underlying63 uinfo_i64 (by omega) _ (candTo D wrong i) i rfl rfl HO6.out (by rw [← hsz9]; exact HB6.out) (by rw [← hsz9]; exact HB6.out.size) (by omega) ?_; intro v2 w2 hO2 hb2 hg2 hat2))
                  go_roundw
                  case rel => exact ⟨i + 1, by omega, by go_num, by rw [HQ.out]; exact hO2, by rw [hsz9]; exact hb2⟩
                  case measure => first|(simp [intOf]; done)|(simp [intOf]; omega)
                · have HQ := Lib.hid (candTo_no hdw)
                  generalize D i = d at *
                  go_wp2_with (go_at_call 80; refine HC6.out.mono ?_; rintro e w6 ⟨rfl, hq6⟩; have hb6 : Below w1.heap.size w1 w6 := (by obtain ⟨q, rfl⟩ := hq6; exact below_dN (Below.refl _ _) q); have HB6 := Lib.hid (HB1.out.trans (hb6.mono HB1.out.size)); have HO6 := Lib.hid (pw_own_below HO1.out hb6); clear hq6 hb6)
                  go_roundw
                  case rel => exact ⟨i + 1, by omega, by go_num, by rw [HQ.out]; exact HO6.out, HB6.out⟩
                  case measure => first|(simp [intOf]; done)|(simp [intOf]; omega)
              · obtain rfl : i = ws.length := by omega
                go_wp2
                go_ret2
                rw [HS.out]
                exact ⟨_, rfl, own_weaken HO.out (by omega), HB0.out.trans (HB.out.mono (by omega))⟩

          · have HS := Lib.hid (show candV fs ws ss wrong = ([], 2) by rw [HV.out]; simp [hl, hn0])
            have hlb : ((ss.length : Int) != ((rl ws 0).length : Int)) = true := by simp; omega
            subst hA1
            clear HV hn0 hl
            go_enter Try.func36, Try.ntmps36
            go_wp2_with (first | (go_at_call 78; refine HC0.out.mono ?_; rintro e w' ⟨rfl, q, rfl⟩) | (go_at_call 91; refine (HSE.out _).mono ?_; rintro e w' ⟨rfl, rfl⟩) | (go_at_call 62; refine (l00In_ok _ _ _ _).mono ?_; rintro e w' ⟨rfl, rfl⟩; rw [HI.out]))

            go_ret2
            rw [HS.out]
            exact ⟨_, rfl, own_made _ _ _ _ _ hsz0 (by omega), below_alloc (below_dN HB0.out q) _⟩
end Go.Proofs.Ytjadhhnajphibaa
namespace Go.Proofs.Ytjadhhnajphibaa
open Go.RowKit Go.Proofs.YtjadhhnajphibaaW.PrintWords

set_option maxHeartbeats 4000000 in
theorem isSeen_ok (v0 : Value) (A1 : Option Addr) (c1 : Nat) (ws : List (List Int)) (A2 : Option Addr) (c2 n : Nat) (w : World) (hn : n ≤ 9223372036854775807) (h1 : (Kd.slice 5 (Kd.int .u8)).C w A1 ws.length ws) :
    Calls Try.prog 94 #[.agg #[v0, .slice A1 ws.length c1], .slice A2 n c2] w fun e w' => e = .returned (.bool (decide (ws.length = 0) || decide (n = (rl ws 0).length))) ∧ Below w.heap.size w w' := by
  have hm1 : ws.length ≤ 9223372036854775807 := h1.2.1
  by_cases hn0 : ws.length = 0
  · have HS := Lib.hid (show (decide (ws.length = 0) || decide (n = (rl ws 0).length)) = true by simp [hn0])
    have hnb : ((ws.length : Int) == 0) = true := by simp [hn0]
    clear hn0 h1
    go_enter Try.func94, Try.ntmps94
    go_wp2
    go_ret
    exact ⟨ret_bool HS.out.symm, below_box _ _⟩
  · obtain ⟨ad1, A3, c3, rfl, hx3, hl3, hr3⟩ := at_row h1 (show 0 < ws.length by omega)
    rw [Addr.add_zero'] at hx3
    have hm3 : (rl ws 0).length ≤ 9223372036854775807 := hr3.2.1
    have hni : (0 : Int) < (ws.length : Int) := by omega
    have hnb : ((ws.length : Int) == 0) = false := beq_eq_false_iff_ne.2 (by omega)
    have hx4 := pw_cell_below (below_box w (.cells #[v0, .slice (some ad1) ws.length c1] 46)) hx3
    clear hr3 h1
    by_cases hl : n = (rl ws 0).length
    · have HS := Lib.hid (show (decide (ws.length = 0) || decide (n = (rl ws 0).length)) = true by simp [hl])
      have hlb : ((n : Int) == ((rl ws 0).length : Int)) = true := by simp [hl]
      clear hn0 hl
      go_enter Try.func94, Try.ntmps94
      go_wp2
      go_ret
      exact ⟨ret_bool HS.out.symm, below_box _ _⟩
    · have HS := Lib.hid (show (decide (ws.length = 0) || decide (n = (rl ws 0).length)) = false by simp [hl, hn0])
      have hlb : ((n : Int) == ((rl ws 0).length : Int)) = false := beq_eq_false_iff_ne.2 (by omega)
      clear hn0 hl
      go_enter Try.func94, Try.ntmps94
      go_wp2
      go_ret
      exact ⟨ret_bool HS.out.symm, below_box _ _⟩

set_option maxRecDepth 100000 in
set_option maxHeartbeats 8000000 in
theorem candidates_ok (A : Option Addr) (c : Nat) (fs : List (List Int)) (A1 : Option Addr) (c1 : Nat) (ws : List (List Int)) (A2 : Option Addr) (c2 : Nat) (ss : List (List Int)) (wrong : Int) (w : World) (hg : Good fs ws) (hls : 0 < ws.length → ss.length = (rl ws 0).length)
    (h0 : (Karr 24).C w A fs.length fs) (h1 : (Kd.slice 5 (Kd.int .u8)).C w A1 ws.length ws) (h2 : (Karr 6).C w A2 ss.length ss) :
    Calls Try.prog 95 #[.agg #[.slice A fs.length c, .slice A1 ws.length c1], .slice A2 ss.length c2, .int .i64 wrong] w fun e w' => ∃ v, e = .returned v ∧ w'.ownsRow w.heap.size 2 1 v (candTo (dSee fs ws ss) wrong ws.length).length (nums .i64 (candTo (dSee fs ws ss) wrong ws.length)) ∧ Below w.heap.size w w' := by
  have hm1 : ws.length ≤ 9223372036854775807 := h1.2.1
  have hm2 : ss.length ≤ 9223372036854775807 := h2.2.1
  have hcc := heap_alloc_new w (.cells #[.slice A fs.length c, .slice A1 ws.length c1] 46)
  have hb0 := below_box w (.cells #[.slice A fs.length c, .slice A1 ws.length c1] 46)
  have hsz0 := size_box w (.cells #[.slice A fs.length c, .slice A1 ws.length c1] 46)
  have HCC := Lib.hid hcc
  have HB0 := Lib.hid hb0
  have H0 := Lib.hid (C_below' h0 hb0)
  have H1 := Lib.hid (C_below' h1 hb0)
  have H2 := Lib.hid (C_below' h2 hb0)
  have HG := Lib.hid hg
  have HLS := Lib.hid hls
  have HB1 := Lib.hid (below_box (w.alloc (.cells #[.slice A fs.length c, .slice A1 ws.length c1] 46)) (.cells #[] 2))
  have HR0 := Lib.hid (own_made (w.alloc (.cells #[.slice A fs.length c, .slice A1 ws.length c1] 46)) 2 (w.heap.size + 1) 1 _ hsz0 (Nat.le_refl _))
  clear hcc hb0 h0 h1 h2 hg hls
  have HDL := Lib.hid (fun (i : Nat) (hi : i < ws.length) => dSee_le (ss := ss) HG.out hi)
  have HDE : Hid (∀ i, dSee fs ws ss i = farS (see fs (rl ws i)) ss) := fun _ => rfl
  generalize dSee fs ws ss = D at *
  go_enter Try.func95, Try.ntmps95
  go_wp2
  generalize hW1 : (w.alloc (.cells #[.slice A fs.length c, .slice A1 ws.length c1] 46)).alloc (.cells #[] 2) = W1 at *
  clear hW1
  generalize (w.alloc (.cells #[.slice A fs.length c, .slice A1 ws.length c1] 46)) = W0 at *
  have hgc : w.heap.size < W0.heap.size := by omega
  have hlen60 : ws.length ≤ 60 := HG.out.many
  go_loopw [7, 8, 9, 14] (fun v _ _ i wr => ∃ (k : Nat), k ≤ ws.length ∧ i = .int .i64 k ∧ Hid (wr.ownsRow (w.heap.size + 1) 2 1 v (candTo D wrong k).length (nums .i64 (candTo D wrong k))) ∧ Hid (Below W0.heap.size W0 wr)) (fun _ _ _ i _ => ws.length - (intOf i).toNat)
  case atStart => exact ⟨0, Nat.zero_le _, rfl, HR0, HB1⟩
  case round =>
    clear HB1 HR0
    obtain ⟨i, hi, rfl, HO, HB⟩ := hrel
    by_cases hlt : i < ws.length
    · have hlti : (i : Int) < (ws.length : Int) := by omega
      obtain ⟨ad1, A3, c3, rfl, hx3, hl3, hr3⟩ := at_row (C_below' H1.out HB.out) hlt
      have hcd := (HB.out.block w.heap.size hgc).trans HCC.out
      have x0 := (blk_cell hcd 0).trans (show _ = some (.slice A fs.length c) from rfl)
      have x1 := (blk_cell hcd 1).trans (show _ = some (.slice (some ad1) ws.length c1) from rfl)
      have HSI := Lib.hid (sights_ok A c fs (.slice (some ad1) ws.length c1) A3 c3 (rl ws i) wr (by have := (HG.out.len i hlt).2; omega) HG.out.flags (HG.out.words i hlt) (C_below' H0.out HB.out) hr3)
      clear hr3 hcd
      go_wp2_with fail
      refine HSI.out.mono ?_
      rintro e w1 ⟨v, rfl, hown, hb1⟩
      obtain ⟨A5, c5, rfl, hr5⟩ := see_read (by have := (HG.out.len i hlt).2; omega) hown
      have HB1 := Lib.hid (HB.out.trans (hb1.mono HB.out.size))
      have HO1 := Lib.hid (pw_own_below HO.out hb1)
      have HC6 := Lib.hid (sightsApart_ok A5 c5 (see fs (rl ws i)) A2 c2 ss w1 hr5 (C_below' H2.out HB1.out) (by rw [see_length, (HG.out.len i hlt).1, HLS.out (by omega)]; omega) (by rw [see_length]; have := (HG.out.len i hlt).2; omega))
      have hd48 := HDL.out i hlt
      rw [← HDE.out] at HC6
      have HCL := candTo_len D wrong i
      clear hown hb1 hr5 x0 x1 hx3
      by_cases hdw : (D i : Int) ≤ wrong
      · have HQ := Lib.hid (candTo_yes hdw)
        generalize D i = d at *
        go_wp2_with (first | (go_at_call 85; refine HC6.out.mono ?_; rintro e w6 ⟨rfl, hq6⟩; have hb6 : Below w1.heap.size w1 w6 := (by obtain ⟨q, rfl⟩ := hq6; exact below_dN (Below.refl _ _) q); have HB6 := Lib.hid (HB1.out.trans (hb6.mono HB1.out.size)); have HO6 := Lib.hid (pw_own_below HO1.out hb6); clear hq6 hb6) | (at_builtin; refine print_append_num (w0 := W0) (W := w6) (w.heap.size + 1) rfl (.tmp 26) (.tmp 28) 63 2 .i64 8 rfl Try.underlying63 uinfo_i64 (by omega) _ (candTo D wrong i) i rfl rfl HO6.out (by rw [← hsz0]; exact HB6.out) (by rw [← hsz0]; exact HB6.out.size) (by omega) ?_; intro v2 w2 hO2 hb2 hg2 hat2))
        go_roundw
        case rel => exact ⟨i + 1, by omega, by go_num, by rw [HQ.out]; exact hO2, by rw [hsz0]; exact hb2⟩
        case measure => first|(simp [intOf]; done)|(simp [intOf]; omega)
      · have HQ := Lib.hid (candTo_no hdw)
        generalize D i = d at *
        go_wp2_with (go_at_call 85; refine HC6.out.mono ?_; rintro e w6 ⟨rfl, hq6⟩; have hb6 : Below w1.heap.size w1 w6 := (by obtain ⟨q, rfl⟩ := hq6; exact below_dN (Below.refl _ _) q); have HB6 := Lib.hid (HB1.out.trans (hb6.mono HB1.out.size)); have HO6 := Lib.hid (pw_own_below HO1.out hb6); clear hq6 hb6)
        go_roundw
        case rel => exact ⟨i + 1, by omega, by go_num, by rw [HQ.out]; exact HO6.out, HB6.out⟩
        case measure => first|(simp [intOf]; done)|(simp [intOf]; omega)
    · obtain rfl : i = ws.length := by omega
      go_wp2
      go_ret
      exact ⟨_, rfl, own_weaken (base := w.heap.size + 1) (base' := w.heap.size) HO.out (by omega), HB0.out.trans (HB.out.mono (by omega))⟩
end Go.Proofs.Ytjadhhnajphibaa
namespace Go.Proofs.Ytjadhhnajphibaa
open Go.RowKit Go.Proofs.YtjadhhnajphibaaW.PrintWords

set_option maxRecDepth 100000 in
set_option maxHeartbeats 8000000 in
theorem ReadSights_ok (A : Option Addr) (c : Nat) (fs : List (List Int)) (A1 : Option Addr) (c1 : Nat) (ws : List (List Int)) (A2 : Option Addr) (c2 : Nat) (ss : List (List Int)) (w : World) (hf : ∀ k i, 0 ≤ rn (rl fs k) i) (hx : WBytes ws)
    (h0 : (Karr 24).C w A fs.length fs) (h1 : (Kd.slice 5 (Kd.int .u8)).C w A1 ws.length ws) (h2 : (Karr 6).C w A2 ss.length ss) :
    Calls Try.prog 35 #[.agg #[.slice A fs.length c, .slice A1 ws.length c1], .slice A2 ss.length c2] w fun e w' => e = tup3 (rsV fs ws ss) ∧ Below w.heap.size w w' := by
  have hm1 : ws.length ≤ 9223372036854775807 := h1.2.1
  have hm2 : ss.length ≤ 9223372036854775807 := h2.2.1
  have hcc := heap_alloc_new w (.cells #[.slice A fs.length c, .slice A1 ws.length c1] 46)
  have hb0 := below_box w (.cells #[.slice A fs.length c, .slice A1 ws.length c1] 46)
  have hsz0 := size_box w (.cells #[.slice A fs.length c, .slice A1 ws.length c1] 46)
  have HC0 := Lib.hid (ValidCode_ok A c fs A1 c1 ws _ hx (C_below' h0 hb0) (C_below' h1 hb0))
  have HCC := Lib.hid hcc
  have HB0 := Lib.hid hb0
  have H0 := Lib.hid (C_below' h0 hb0)
  have H1 := Lib.hid (C_below' h1 hb0)
  have H2 := Lib.hid (C_below' h2 hb0)
  have HSE := Lib.hid (fun W (h : Below (w.alloc (.cells #[.slice A fs.length c, .slice A1 ws.length c1] 46)).heap.size (w.alloc (.cells #[.slice A fs.length c, .slice A1 ws.length c1] 46)) W) => areSights_ok A2 c2 ss W (C_below' (C_below' h2 hb0) h))
  have HIS := Lib.hid (fun W (h : Below (w.alloc (.cells #[.slice A fs.length c, .slice A1 ws.length c1] 46)).heap.size (w.alloc (.cells #[.slice A fs.length c, .slice A1 ws.length c1] 46)) W) => isSeen_ok (.slice A fs.length c) A1 c1 ws A2 c2 ss.length W hm2 (C_below' (C_below' h1 hb0) h))
  have HX := Lib.hid (fun (W : World) (h : Below (w.alloc (.cells #[.slice A fs.length c, .slice A1 ws.length c1] 46)).heap.size (w.alloc (.cells #[.slice A fs.length c, .slice A1 ws.length c1] 46)) W) => And.intro ((blk_cell ((h.block w.heap.size (by omega)).trans hcc) 0).trans (show _ = some (.slice A fs.length c) from rfl)) ((blk_cell ((h.block w.heap.size (by omega)).trans hcc) 1).trans (show _ = some (.slice A1 ws.length c1) from rfl)))
  have hgood := fun h => okC_good (fs := fs) (ws := ws) h hf hx

  have HV : Hid (rsV fs ws ss = if okC fs ws then (if okS ss then (if ws.length = 0 then (0, 0, 6) else if ss.length = (rl ws 0).length then rsOut (rsTo (dSee fs ws ss) ws.length) else (0, 0, 2)) else (0, 0, 1)) else (0, 0, 1)) := rfl
  clear hcc hb0 h0 h1 h2 hf hx
  rcases hok : okC fs ws with _ | _
  · have HS := Lib.hid (show rsV fs ws ss = (0, 0, 1) by rw [HV.out, hok]; rfl)
    rw [hok] at HC0
    clear HV hok hgood
    go_enter Try.func35, Try.ntmps35
    go_wp2_with (first | (refine load_agg rfl 46 (.tmp 2) rfl ⟨w.heap.size, 0, none⟩ rfl [.slice A fs.length c, .slice A1 ws.length c1] _ (fun j v hv => by rw [add_plain, blk_cell HCC.out j]; simpa using hv) Try.underlying46 rfl ainfo_code ?_) | (go_at_call 42; refine HC0.out.mono ?_; rintro e w1 ⟨rfl, hb1⟩; have HB1 := Lib.hid hb1; clear hb1))
    go_ret3
    rw [HS.out]
    exact ⟨rfl, HB0.out.trans (HB1.out.mono (by omega))⟩
  · have HG := Lib.hid (hgood hok)
    rw [hok] at HC0 HV
    clear hok hgood
    rcases hos : okS ss with _ | _
    · have HS := Lib.hid (show rsV fs ws ss = (0, 0, 1) by rw [HV.out, hos]; rfl)
      rw [hos] at HSE
      clear HV hos
      go_enter Try.func35, Try.ntmps35
      go_wp2_with (first | (refine load_agg rfl 46 (.tmp 2) rfl ⟨w.heap.size, 0, none⟩ rfl [.slice A fs.length c, .slice A1 ws.length c1] _ (fun j v hv => by rw [add_plain, blk_cell HCC.out j]; simpa using hv) Try.underlying46 rfl ainfo_code ?_) | (go_at_call 42; refine HC0.out.mono ?_; rintro e w1 ⟨rfl, hb1⟩; have HB1 := Lib.hid hb1; clear hb1) | (go_at_call 93; refine (HSE.out w1 HB1.out).mono ?_; rintro e w2 ⟨rfl, hb2⟩; have HB2 := Lib.hid (HB1.out.trans (hb2.mono HB1.out.size)); obtain ⟨y0, y1⟩ := HX.out w2 HB2.out; clear hb2))
      go_ret3
      rw [HS.out]
      exact ⟨rfl, HB0.out.trans (HB2.out.mono (by omega))⟩
    · rw [hos] at HSE HV
      clear hos
      by_cases hn0 : ws.length = 0
      · have HS := Lib.hid (show rsV fs ws ss = (0, 0, 6) by rw [HV.out]; simp [hn0])
        have hnb : ((ws.length : Int) == 0) = true := by simp [hn0]
        clear HV hn0
        go_enter Try.func35, Try.ntmps35
        go_wp2_with (first | (refine load_agg rfl 46 (.tmp 2) rfl ⟨w.heap.size, 0, none⟩ rfl [.slice A fs.length c, .slice A1 ws.length c1] _ (fun j v hv => by rw [add_plain, blk_cell HCC.out j]; simpa using hv) Try.underlying46 rfl ainfo_code ?_) | (go_at_call 42; refine HC0.out.mono ?_; rintro e w1 ⟨rfl, hb1⟩; have HB1 := Lib.hid hb1; clear hb1) | (go_at_call 93; refine (HSE.out w1 HB1.out).mono ?_; rintro e w2 ⟨rfl, hb2⟩; have HB2 := Lib.hid (HB1.out.trans (hb2.mono HB1.out.size)); obtain ⟨y0, y1⟩ := HX.out w2 HB2.out; clear hb2))
        go_ret3
        rw [HS.out]
        exact ⟨rfl, HB0.out.trans (HB2.out.mono (by omega))⟩
      · have hnp : 0 < ws.length := by omega
        have hnb : ((ws.length : Int) == 0) = false := beq_eq_false_iff_ne.2 (by omega)
        by_cases hl : ss.length = (rl ws 0).length
        rotate_left
        · have HS := Lib.hid (show rsV fs ws ss = (0, 0, 2) by rw [HV.out]; simp [hn0, hl])
          rw [show (decide (ws.length = 0) || decide (ss.length = (rl ws 0).length)) = false by simp [hn0, hl]] at HIS
          clear HV hn0 hl
          go_enter Try.func35, Try.ntmps35
          go_wp2_with (first | (refine load_agg rfl 46 (.tmp 2) rfl ⟨w.heap.size, 0, none⟩ rfl [.slice A fs.length c, .slice A1 ws.length c1] _ (fun j v hv => by rw [add_plain, blk_cell HCC.out j]; simpa using hv) Try.underlying46 rfl ainfo_code ?_) | (go_at_call 42; refine HC0.out.mono ?_; rintro e w1 ⟨rfl, hb1⟩; have HB1 := Lib.hid hb1; clear hb1) | (go_at_call 93; refine (HSE.out w1 HB1.out).mono ?_; rintro e w2 ⟨rfl, hb2⟩; have HB2 := Lib.hid (HB1.out.trans (hb2.mono HB1.out.size)); obtain ⟨y0, y1⟩ := HX.out w2 HB2.out; clear hb2) | (go_at_call 94; refine (HIS.out w2 HB2.out).mono ?_; rintro e w3 ⟨rfl, hb3⟩; have HB3 := Lib.hid (HB2.out.trans (hb3.mono HB2.out.size)); obtain ⟨y0, y1⟩ := HX.out w3 HB3.out; clear hb3))
          go_ret3
          rw [HS.out]
          exact ⟨rfl, HB0.out.trans (HB3.out.mono (by omega))⟩
        · have HS := Lib.hid (show rsV fs ws ss = rsOut (rsTo (dSee fs ws ss) ws.length) by rw [HV.out]; simp [hn0, hl])
          rw [show (decide (ws.length = 0) || decide (ss.length = (rl ws 0).length)) = true by simp [hl]] at HIS
          have HCA := Lib.hid (fun (k : Int) W (h : Below (w.alloc (.cells #[.slice A fs.length c, .slice A1 ws.length c1] 46)).heap.size (w.alloc (.cells #[.slice A fs.length c, .slice A1 ws.length c1] 46)) W) => candidates_ok A c fs A1 c1 ws A2 c2 ss k W HG.out (fun _ => hl) (C_below' H0.out h) (C_below' H1.out h) (C_below' H2.out h))
          have hrs := rs_cand (dSee fs ws ss) ws.length hnp
          have hdl : ∀ i, i < ws.length → dSee fs ws ss i ≤ 48 := fun i hi => dSee_le HG.out hi
          generalize dSee fs ws ss = D at *
          obtain ⟨hl0, ⟨i, hi, hli⟩, hlow, tl, htl, htc⟩ := hrs
          have HO : Hid (∀ b l c, rsTo D ws.length = ⟨b, l, c⟩ → rsV fs ws ss = if 1 < c then (0, 0, 8) else (b, l, 0)) := by
            intro b l c h
            rw [HS.out, h]
            rfl
          rcases hr : rsTo D ws.length with ⟨b, l, cc⟩
          rw [hr] at hl0 hli hlow htl htc
          simp only at hl0 hli hlow htl htc
          have HOO := Lib.hid (HO.out _ _ _ hr)
          have hL48 := hdl i hi
          obtain ⟨L, rfl⟩ : ∃ L : Nat, l = L := ⟨l.toNat, by omega⟩
          have hL : L ≤ 48 := by omega
          have HLOW := Lib.hid hlow
          have HTL := Lib.hid htl
          have HTC := Lib.hid htc
          clear HV hn0 hl hlow htl htc HO hr hli hdl hL48 hl0 hi HS
          go_enter Try.func35, Try.ntmps35
          go_wp2_with (first | (refine load_agg rfl 46 (.tmp 2) rfl ⟨w.heap.size, 0, none⟩ rfl [.slice A fs.length c, .slice A1 ws.length c1] _ (fun j v hv => by rw [add_plain, blk_cell HCC.out j]; simpa using hv) Try.underlying46 rfl ainfo_code ?_) | (go_at_call 42; refine HC0.out.mono ?_; rintro e w1 ⟨rfl, hb1⟩; have HB1 := Lib.hid hb1; clear hb1) | (go_at_call 93; refine (HSE.out w1 HB1.out).mono ?_; rintro e w2 ⟨rfl, hb2⟩; have HB2 := Lib.hid (HB1.out.trans (hb2.mono HB1.out.size)); obtain ⟨y0, y1⟩ := HX.out w2 HB2.out; clear hb2) | (go_at_call 94; refine (HIS.out w2 HB2.out).mono ?_; rintro e w3 ⟨rfl, hb3⟩; have HB3 := Lib.hid (HB2.out.trans (hb3.mono HB2.out.size)); obtain ⟨y0, y1⟩ := HX.out w3 HB3.out; clear hb3))
          clear HC0 HSE HIS hnb y0 y1
          generalize (w.alloc (.cells #[.slice A fs.length c, .slice A1 ws.length c1] 46)) = W0 at *
          go_loopw [7, 8] (fun v _ wr => ∃ k : Nat, k ≤ L ∧ v = .int .i64 k ∧ Hid (Below W0.heap.size W0 wr)) (fun v _ _ => L + 1 - (intOf v).toNat)
          case atStart => exact ⟨0, Nat.zero_le _, rfl, HB3⟩
          case round =>
            clear HB3
            obtain ⟨k, hk, rfl, HB⟩ := hrel
            obtain ⟨y0, y1⟩ := HX.out wr HB.out
            go_wp2_with fail
            refine (HCA.out k wr HB.out).mono ?_
            rintro e w4 ⟨v, rfl, hown, hb4⟩
            have HB4 := Lib.hid (HB.out.trans (hb4.mono HB.out.size))
            by_cases hkl : k < L
            · rw [HLOW.out k (by omega)] at hown
              obtain ⟨A4, c4, g4, rfl, -, -, -⟩ := own_NF hown hb4.size
              obtain ⟨m, hm⟩ : ∃ m, ([] : List Int).length = m := ⟨_, rfl⟩
              rw [hm]
              have hm0 : ((m : Int) == 0) = true := by rw [← hm]; rfl
              clear hown hb4 hm y0 y1
              go_wp2
              go_roundw
              case rel => exact ⟨k + 1, by omega, by go_num, HB4⟩
              case measure => first|(simp [intOf]; done)|(simp [intOf]; omega)
            · obtain rfl : k = L := by omega
              rw [HTL.out] at hown
              have hmle := own_len hown
              obtain ⟨A4, c4, g4, rfl, -, -, -⟩ := own_NF hown hb4.size
              have hC := own_ints hown rfl
              obtain ⟨ad, rfl, hx4⟩ := at_nat hC (k := 0) (by simp)
              rw [Addr.add_zero', show rn (b :: tl) 0 = b from rfl] at hx4
              obtain ⟨m, hm⟩ : ∃ m, (b :: tl).length = m := ⟨_, rfl⟩
              rw [hm] at hmle ⊢
              have hm2 : m = tl.length + 1 := by rw [← hm]; rfl
              have hm0 : ((m : Int) == 0) = false := beq_eq_false_iff_ne.2 (by omega)
              have hmi : (0 : Int) < (m : Int) := by omega
              have htc := HTC.out
              clear hown hb4 hm y0 y1 hC
              by_cases h1 : m = 1
              · have HQ := Lib.hid (show rsV fs ws ss = (b, (k : Int), 0) by rw [HOO.out, if_neg (by omega)])
                have hm1 : ((m : Int) == 1) = true := by simp [h1]
                clear h1 htc hm2
                go_wp2
                go_ret3
                rw [HQ.out]
                exact ⟨rfl, HB0.out.trans (HB4.out.mono (by omega))⟩
              · have HQ := Lib.hid (show rsV fs ws ss = (0, 0, 8) by rw [HOO.out, if_pos (by omega)])
                have hm1 : ((m : Int) == 1) = false := beq_eq_false_iff_ne.2 (by omega)
                clear h1 htc hm2
                go_wp2
                go_ret3
                rw [HQ.out]
                exact ⟨rfl, HB0.out.trans (HB4.out.mono (by omega))⟩

set_option maxRecDepth 100000 in
set_option maxHeartbeats 8000000 in
theorem CandidatesFor_ok (A : Option Addr) (c : Nat) (fs : List (List Int)) (A1 : Option Addr) (c1 : Nat) (ws : List (List Int)) (A2 : Option Addr) (c2 : Nat) (ss : List (List Int)) (wrong : Int) (w : World) (hf : ∀ k i, 0 ≤ rn (rl fs k) i) (hx : WBytes ws)
    (h0 : (Karr 24).C w A fs.length fs) (h1 : (Kd.slice 5 (Kd.int .u8)).C w A1 ws.length ws) (h2 : (Karr 6).C w A2 ss.length ss) :
    Calls Try.prog 37 #[.agg #[.slice A fs.length c, .slice A1 ws.length c1], .slice A2 ss.length c2, .int .i64 wrong] w fun e w' => ∃ v, e = .returned (.tuple #[v, .int .i64 (candV fs ws ss wrong).2]) ∧ w'.ownsRow w.heap.size 2 1 v (candV fs ws ss wrong).1.length (nums .i64 (candV fs ws ss wrong).1) ∧ Below w.heap.size w w' := by
  have hm1 : ws.length ≤ 9223372036854775807 := h1.2.1
  have hm2 : ss.length ≤ 9223372036854775807 := h2.2.1
  have hcc := heap_alloc_new w (.cells #[.slice A fs.length c, .slice A1 ws.length c1] 46)
  have hb0 := below_box w (.cells #[.slice A fs.length c, .slice A1 ws.length c1] 46)
  have hsz0 := size_box w (.cells #[.slice A fs.length c, .slice A1 ws.length c1] 46)
  have HC0 := Lib.hid (ValidCode_ok A c fs A1 c1 ws _ hx (C_below' h0 hb0) (C_below' h1 hb0))
  have HCC := Lib.hid hcc
  have HB0 := Lib.hid hb0
  have H0 := Lib.hid (C_below' h0 hb0)
  have H1 := Lib.hid (C_below' h1 hb0)
  have H2 := Lib.hid (C_below' h2 hb0)
  have HSE := Lib.hid (fun W (h : Below (w.alloc (.cells #[.slice A fs.length c, .slice A1 ws.length c1] 46)).heap.size (w.alloc (.cells #[.slice A fs.length c, .slice A1 ws.length c1] 46)) W) => areSights_ok A2 c2 ss W (C_below' (C_below' h2 hb0) h))
  have HIS := Lib.hid (fun W (h : Below (w.alloc (.cells #[.slice A fs.length c, .slice A1 ws.length c1] 46)).heap.size (w.alloc (.cells #[.slice A fs.length c, .slice A1 ws.length c1] 46)) W) => isSeen_ok (.slice A fs.length c) A1 c1 ws A2 c2 ss.length W hm2 (C_below' (C_below' h1 hb0) h))
  have HX := Lib.hid (fun (W : World) (h : Below (w.alloc (.cells #[.slice A fs.length c, .slice A1 ws.length c1] 46)).heap.size (w.alloc (.cells #[.slice A fs.length c, .slice A1 ws.length c1] 46)) W) => And.intro ((blk_cell ((h.block w.heap.size (by omega)).trans hcc) 0).trans (show _ = some (.slice A fs.length c) from rfl)) ((blk_cell ((h.block w.heap.size (by omega)).trans hcc) 1).trans (show _ = some (.slice A1 ws.length c1) from rfl)))
  have hgood := fun h => okC_good (fs := fs) (ws := ws) h hf hx

  have HV : Hid (candV fs ws ss wrong = if okC fs ws then (if okS ss then (if inB wrong 0 48 && (decide (ws.length = 0) || decide (ss.length = (rl ws 0).length)) then (candTo (dSee fs ws ss) wrong ws.length, 0) else ([], 2)) else ([], 1)) else ([], 1)) := rfl
  clear hcc hb0 h0 h1 h2 hf hx
  rcases hok : okC fs ws with _ | _
  · have HS := Lib.hid (show candV fs ws ss wrong = ([], 1) by rw [HV.out, hok]; rfl)
    rw [hok] at HC0
    clear HV hok hgood
    go_enter Try.func37, Try.ntmps37
    go_wp2_with (first | (refine load_agg rfl 46 (.tmp 3) rfl ⟨w.heap.size, 0, none⟩ rfl [.slice A fs.length c, .slice A1 ws.length c1] _ (fun j v hv => by rw [add_plain, blk_cell HCC.out j]; simpa using hv) Try.underlying46 rfl ainfo_code ?_) | (go_at_call 42; refine HC0.out.mono ?_; rintro e w1 ⟨rfl, hb1⟩; have HB1 := Lib.hid hb1; clear hb1))
    go_ret2
    rw [HS.out]
    exact ⟨_, rfl, own_nil _ _ _ _, HB0.out.trans (HB1.out.mono (by omega))⟩
  · have HG := Lib.hid (hgood hok)
    rw [hok] at HC0 HV
    clear hok hgood
    rcases hos : okS ss with _ | _
    · have HS := Lib.hid (show candV fs ws ss wrong = ([], 1) by rw [HV.out, hos]; rfl)
      rw [hos] at HSE
      clear HV hos
      go_enter Try.func37, Try.ntmps37
      go_wp2_with (first | (refine load_agg rfl 46 (.tmp 3) rfl ⟨w.heap.size, 0, none⟩ rfl [.slice A fs.length c, .slice A1 ws.length c1] _ (fun j v hv => by rw [add_plain, blk_cell HCC.out j]; simpa using hv) Try.underlying46 rfl ainfo_code ?_) | (go_at_call 42; refine HC0.out.mono ?_; rintro e w1 ⟨rfl, hb1⟩; have HB1 := Lib.hid hb1; clear hb1) | (go_at_call 93; refine (HSE.out w1 HB1.out).mono ?_; rintro e w2 ⟨rfl, hb2⟩; have HB2 := Lib.hid (HB1.out.trans (hb2.mono HB1.out.size)); obtain ⟨y0, y1⟩ := HX.out w2 HB2.out; clear hb2))
      go_ret2
      rw [HS.out]
      exact ⟨_, rfl, own_nil _ _ _ _, HB0.out.trans (HB2.out.mono (by omega))⟩
    · rw [hos] at HSE HV
      clear hos
      rcases hin : inB wrong 0 48 with _ | _
      · have HS := Lib.hid (show candV fs ws ss wrong = ([], 2) by rw [HV.out, hin]; rfl)
        have HI := Lib.hid hin
        clear HV hin
        go_enter Try.func37, Try.ntmps37
        go_wp2_with (first | (refine load_agg rfl 46 (.tmp 3) rfl ⟨w.heap.size, 0, none⟩ rfl [.slice A fs.length c, .slice A1 ws.length c1] _ (fun j v hv => by rw [add_plain, blk_cell HCC.out j]; simpa using hv) Try.underlying46 rfl ainfo_code ?_) | (go_at_call 42; refine HC0.out.mono ?_; rintro e w1 ⟨rfl, hb1⟩; have HB1 := Lib.hid hb1; clear hb1) | (go_at_call 93; refine (HSE.out w1 HB1.out).mono ?_; rintro e w2 ⟨rfl, hb2⟩; have HB2 := Lib.hid (HB1.out.trans (hb2.mono HB1.out.size)); obtain ⟨y0, y1⟩ := HX.out w2 HB2.out; clear hb2) | (go_at_call 54; refine (within_ok _ _ _ _).mono ?_; rintro e w' ⟨rfl, rfl⟩; rw [HI.out]))
        go_ret2
        rw [HS.out]
        exact ⟨_, rfl, own_nil _ _ _ _, HB0.out.trans (HB2.out.mono (by omega))⟩
      · rw [hin] at HV
        have HI := Lib.hid hin
        clear hin
        rcases hse : (decide (ws.length = 0) || decide (ss.length = (rl ws 0).length)) with _ | _
        · have HS := Lib.hid (show candV fs ws ss wrong = ([], 2) by rw [HV.out, hse]; rfl)
          rw [hse] at HIS
          clear HV hse
          go_enter Try.func37, Try.ntmps37
          go_wp2_with (first | (refine load_agg rfl 46 (.tmp 3) rfl ⟨w.heap.size, 0, none⟩ rfl [.slice A fs.length c, .slice A1 ws.length c1] _ (fun j v hv => by rw [add_plain, blk_cell HCC.out j]; simpa using hv) Try.underlying46 rfl ainfo_code ?_) | (go_at_call 42; refine HC0.out.mono ?_; rintro e w1 ⟨rfl, hb1⟩; have HB1 := Lib.hid hb1; clear hb1) | (go_at_call 93; refine (HSE.out w1 HB1.out).mono ?_; rintro e w2 ⟨rfl, hb2⟩; have HB2 := Lib.hid (HB1.out.trans (hb2.mono HB1.out.size)); obtain ⟨y0, y1⟩ := HX.out w2 HB2.out; clear hb2) | (go_at_call 54; refine (within_ok _ _ _ _).mono ?_; rintro e w' ⟨rfl, rfl⟩; rw [HI.out]) | (go_at_call 94; refine (HIS.out w2 HB2.out).mono ?_; rintro e w3 ⟨rfl, hb3⟩; have HB3 := Lib.hid (HB2.out.trans (hb3.mono HB2.out.size)); obtain ⟨y0, y1⟩ := HX.out w3 HB3.out; clear hb3))
          go_ret2
          rw [HS.out]
          exact ⟨_, rfl, own_nil _ _ _ _, HB0.out.trans (HB3.out.mono (by omega))⟩
        · have HS := Lib.hid (show candV fs ws ss wrong = (candTo (dSee fs ws ss) wrong ws.length, 0) by rw [HV.out, hse]; rfl)
          rw [hse] at HIS
          have hls : 0 < ws.length → ss.length = (rl ws 0).length := fun h => by
            rw [Bool.or_eq_true, decide_eq_true_iff, decide_eq_true_iff] at hse
            omega
          have HCA := Lib.hid (fun W (h : Below (w.alloc (.cells #[.slice A fs.length c, .slice A1 ws.length c1] 46)).heap.size (w.alloc (.cells #[.slice A fs.length c, .slice A1 ws.length c1] 46)) W) => candidates_ok A c fs A1 c1 ws A2 c2 ss wrong W HG.out hls (C_below' H0.out h) (C_below' H1.out h) (C_below' H2.out h))
          clear HV hse hls
          go_enter Try.func37, Try.ntmps37
          go_wp2_with (first | (refine load_agg rfl 46 (.tmp 3) rfl ⟨w.heap.size, 0, none⟩ rfl [.slice A fs.length c, .slice A1 ws.length c1] _ (fun j v hv => by rw [add_plain, blk_cell HCC.out j]; simpa using hv) Try.underlying46 rfl ainfo_code ?_) | (go_at_call 42; refine HC0.out.mono ?_; rintro e w1 ⟨rfl, hb1⟩; have HB1 := Lib.hid hb1; clear hb1) | (go_at_call 93; refine (HSE.out w1 HB1.out).mono ?_; rintro e w2 ⟨rfl, hb2⟩; have HB2 := Lib.hid (HB1.out.trans (hb2.mono HB1.out.size)); obtain ⟨y0, y1⟩ := HX.out w2 HB2.out; clear hb2) | (go_at_call 54; refine (within_ok _ _ _ _).mono ?_; rintro e w' ⟨rfl, rfl⟩; rw [HI.out]) | (go_at_call 94; refine (HIS.out w2 HB2.out).mono ?_; rintro e w3 ⟨rfl, hb3⟩; have HB3 := Lib.hid (HB2.out.trans (hb3.mono HB2.out.size)); obtain ⟨y0, y1⟩ := HX.out w3 HB3.out; clear hb3) | (go_at_call 95; refine (HCA.out w3 HB3.out).mono ?_; rintro e w4 ⟨v, rfl, hown, hb4⟩; have HO := Lib.hid hown; have HB4 := Lib.hid (HB3.out.trans (hb4.mono HB3.out.size)); have hs3 := HB3.out.size; clear hown hb4))
          go_ret2
          rw [HS.out]
          exact ⟨_, rfl, own_weaken HO.out (by omega), HB0.out.trans (HB4.out.mono (by omega))⟩
end Go.Proofs.Ytjadhhnajphibaa
