/- What is seen of a word of a code: both. -/
import Derived.Test.YtjadhhnajphibaaV11
set_option linter.unusedVariables false
set_option linter.unusedSimpArgs false
namespace Go.Proofs.Ytjadhhnajphibaa
open Go.RowKit Go.Proofs.YtjadhhnajphibaaW.PrintWords

/-- what SightsOf answers: the sights, and the code. -/
def sotV (fs ws : List (List Int)) (i : Int) : List (List Int) × Int :=
  if okC fs ws then (if inB i 0 ((ws.length : Int) - 1) then (see fs (rl ws i.toNat), 0) else ([], 2)) else ([], 1)
theorem sot_each (fs ws : List (List Int)) (i : Int) : ∀ s ∈ (sotV fs ws i).1, s.length = 6 := by
  unfold sotV
  split
  · split
    · exact see_each _ _
    · intro s hs; simp at hs
  · intro s hs; simp at hs
theorem own_made (w : World) (e : TypeId) (base size g : Nat) (hg : w.heap.size = g) (hb : base ≤ g) : (w.alloc (.cells #[] e)).ownsRow base e size (.slice (some ⟨g, 0, none⟩) 0 0) 0 [] := by
  subst hg
  exact ⟨by simp, .inr ⟨_, 0, #[], rfl, hb, heap_alloc_new _ _, Nat.le_refl _, Nat.zero_le _, by simp, by simp⟩⟩
theorem own_nil (w : World) (e : TypeId) (base size : Nat) : w.ownsRow base e size (.slice none 0 0) 0 [] := ⟨by simp, .inl ⟨rfl, rfl⟩⟩

set_option maxRecDepth 100000 in
set_option maxHeartbeats 4000000 in
theorem SightsOfS_ok (A : Option Addr) (c : Nat) (fs : List (List Int)) (A1 : Option Addr) (c1 : Nat) (ws : List (List Int)) (i : Int) (w : World) (hf : ∀ k i, 0 ≤ rn (rl fs k) i) (hx : WBytes ws)
    (h0 : (Karr 24).C w A fs.length fs) (h1 : (Kd.slice 5 (Kd.int .u8)).C w A1 ws.length ws) :
    Calls Try.prog 26 #[.agg #[.slice A fs.length c, .slice A1 ws.length c1], .int .i64 i] w fun e w' => ∃ v, e = .returned (.tuple #[v, .int .i64 (sotV fs ws i).2]) ∧ w'.ownsRow w.heap.size 72 6 v (sotV fs ws i).1.length (nums .u8 (flat (sotV fs ws i).1)) ∧ Below w.heap.size w w' := by
  have hm1 : ws.length ≤ 9223372036854775807 := h1.2.1
  have hcc := heap_alloc_new w (.cells #[.slice A fs.length c, .slice A1 ws.length c1] 46)
  have hb0 := below_box w (.cells #[.slice A fs.length c, .slice A1 ws.length c1] 46)
  have hsz0 := size_box w (.cells #[.slice A fs.length c, .slice A1 ws.length c1] 46)
  have HC0 := Lib.hid (l05Ok_ok w.heap.size A c fs A1 c1 ws _ hx hcc (C_below' h0 hb0) (C_below' h1 hb0))
  have HCC := Lib.hid hcc
  have HB0 := Lib.hid hb0
  have H0 := Lib.hid (C_below' h0 hb0)
  have H1 := Lib.hid (C_below' h1 hb0)
  have hgood := fun h => okC_good (fs := fs) (ws := ws) h hf hx
  clear hcc hb0 h0 h1 hf hx
  rcases hok : okC fs ws with _ | _
  · have HS := Lib.hid (show sotV fs ws i = ([], 1) by unfold sotV; rw [hok]; rfl)
    rw [hok] at HC0
    clear hok hgood
    go_enter Try.func26, Try.ntmps26
    go_wp2_with (go_at_call 78; refine HC0.out.mono ?_; rintro e w' ⟨rfl, q, rfl⟩)
    go_ret2
    rw [HS.out]
    exact ⟨_, rfl, own_made _ _ _ _ _ hsz0 (by omega), below_alloc (below_dN HB0.out q) _⟩
  · have HG := Lib.hid (hgood hok)
    rcases hin : inB i 0 ((ws.length : Int) - 1) with _ | _
    · have HS := Lib.hid (show sotV fs ws i = ([], 2) by unfold sotV; rw [hok, hin]; rfl)
      rw [hok] at HC0
      have HI := Lib.hid hin
      clear hok hgood hin
      go_enter Try.func26, Try.ntmps26
      go_wp2_with (first | (go_at_call 78; refine HC0.out.mono ?_; rintro e w' ⟨rfl, q, rfl⟩) | (go_at_call 62; refine (l00In_ok _ _ _ _).mono ?_; rintro e w' ⟨rfl, rfl⟩; rw [HI.out]))
      go_ret2
      rw [HS.out]
      exact ⟨_, rfl, own_made _ _ _ _ _ hsz0 (by omega), below_alloc (below_dN HB0.out q) _⟩
    · obtain ⟨k, rfl⟩ : ∃ k : Nat, i = k := ⟨i.toNat, by have := inB_iff.1 hin; omega⟩
      have hk : k < ws.length := by have := inB_iff.1 hin; omega
      have HS := Lib.hid (show sotV fs ws k = (see fs (rl ws k), 0) by unfold sotV; rw [hok, hin]; rfl)
      rw [hok] at HC0
      have HI := Lib.hid hin
      have HSI := Lib.hid (fun (q : Nat) => l05Sights_ok w.heap.size A c fs A1 c1 ws k ((w.alloc (.cells #[.slice A fs.length c, .slice A1 ws.length c1] 46)).drewN q) hk (by have := HG.out.many; omega) (by have := (HG.out.len k hk).2; omega) HG.out.flags (HG.out.words k hk) HCC.out H0.out H1.out)
      clear hok hgood hin
      go_enter Try.func26, Try.ntmps26
      go_wp2_with (first | (go_at_call 78; refine HC0.out.mono ?_; rintro e w' ⟨rfl, q, rfl⟩) | (go_at_call 62; refine (l00In_ok _ _ _ _).mono ?_; rintro e w' ⟨rfl, rfl⟩; rw [HI.out]) | (go_at_call 79; refine (HSI.out _).mono ?_; rintro e w1 ⟨v, rfl, hown, hb1⟩; have HO := Lib.hid hown; have HB1 := Lib.hid hb1; clear hown hb1))
      go_ret2
      rw [HS.out, see_length]
      exact ⟨_, rfl, own_weaken HO.out (show w.heap.size ≤ (w.alloc (.cells #[.slice A fs.length c, .slice A1 ws.length c1] 46)).heap.size by omega), HB0.out.trans ((below_dN (Below.refl _ _) q).trans HB1.out |>.mono (show w.heap.size ≤ (w.alloc (.cells #[.slice A fs.length c, .slice A1 ws.length c1] 46)).heap.size by omega))⟩

set_option maxRecDepth 100000 in
set_option maxHeartbeats 4000000 in
theorem SightsOf_ok (A : Option Addr) (c : Nat) (fs : List (List Int)) (A1 : Option Addr) (c1 : Nat) (ws : List (List Int)) (i : Int) (w : World) (hf : ∀ k i, 0 ≤ rn (rl fs k) i) (hx : WBytes ws)
    (h0 : (Karr 24).C w A fs.length fs) (h1 : (Kd.slice 5 (Kd.int .u8)).C w A1 ws.length ws) :
    Calls Try.prog 27 #[.agg #[.slice A fs.length c, .slice A1 ws.length c1], .int .i64 i] w fun e w' => ∃ v, e = .returned (.tuple #[v, .int .i64 (sotV fs ws i).2]) ∧ w'.ownsRow w.heap.size 72 6 v (sotV fs ws i).1.length (nums .u8 (flat (sotV fs ws i).1)) ∧ Below w.heap.size w w' := by
  have hm1 : ws.length ≤ 9223372036854775807 := h1.2.1
  have hcc := heap_alloc_new w (.cells #[.slice A fs.length c, .slice A1 ws.length c1] 46)
  have hb0 := below_box w (.cells #[.slice A fs.length c, .slice A1 ws.length c1] 46)
  have hsz0 := size_box w (.cells #[.slice A fs.length c, .slice A1 ws.length c1] 46)
  have HC0 := Lib.hid (ValidCode_ok A c fs A1 c1 ws _ hx (C_below' h0 hb0) (C_below' h1 hb0))
  have HCC := Lib.hid hcc
  have HB0 := Lib.hid hb0
  have H0 := Lib.hid (C_below' h0 hb0)
  have H1 := Lib.hid (C_below' h1 hb0)
  have hgood := fun h => okC_good (fs := fs) (ws := ws) h hf hx
  clear hcc hb0 h0 h1 hf hx
  rcases hok : okC fs ws with _ | _
  · have HS := Lib.hid (show sotV fs ws i = ([], 1) by unfold sotV; rw [hok]; rfl)
    rw [hok] at HC0
    clear hok hgood
    go_enter Try.func27, Try.ntmps27
    go_wp2_with (first | (refine load_agg rfl 46 (.tmp 2) rfl ⟨w.heap.size, 0, none⟩ rfl [.slice A fs.length c, .slice A1 ws.length c1] _ (fun j v hv => by rw [add_plain, blk_cell HCC.out j]; simpa using hv) Try.underlying46 rfl ainfo_code ?_) | (go_at_call 42; refine HC0.out.mono ?_; rintro e w' ⟨rfl, hb'⟩))
    go_ret2
    rw [HS.out]
    exact ⟨_, rfl, own_nil _ _ _ _, HB0.out.trans (hb'.mono (by omega))⟩
  · have HG := Lib.hid (hgood hok)
    rcases hin : inB i 0 ((ws.length : Int) - 1) with _ | _
    · have HS := Lib.hid (show sotV fs ws i = ([], 2) by unfold sotV; rw [hok, hin]; rfl)
      rw [hok] at HC0
      have HI := Lib.hid hin
      clear hok hgood hin
      go_enter Try.func27, Try.ntmps27
      go_wp2_with (first | (refine load_agg rfl 46 (.tmp 2) rfl ⟨w.heap.size, 0, none⟩ rfl [.slice A fs.length c, .slice A1 ws.length c1] _ (fun j v hv => by rw [add_plain, blk_cell HCC.out j]; simpa using hv) Try.underlying46 rfl ainfo_code ?_) | (go_at_call 42; refine HC0.out.mono ?_; rintro e w1 ⟨rfl, hb1⟩; have x1 := (blk_cell ((hb1.block w.heap.size (by omega)).trans HCC.out) 1).trans (show _ = some (.slice A1 ws.length c1) from rfl); have HB1 := Lib.hid hb1; clear hb1) | (go_at_call 57; refine (sizeW_ok _ _ _ _ hm1).mono ?_; rintro e w' ⟨rfl, rfl⟩) | (go_at_call 54; refine (within_ok _ _ _ _).mono ?_; rintro e w' ⟨rfl, rfl⟩; rw [HI.out]))
      go_ret2
      rw [HS.out]
      exact ⟨_, rfl, own_nil _ _ _ _, HB0.out.trans (HB1.out.mono (by omega))⟩
    · obtain ⟨k, rfl⟩ : ∃ k : Nat, i = k := ⟨i.toNat, by have := inB_iff.1 hin; omega⟩
      have hk : k < ws.length := by have := inB_iff.1 hin; omega
      have hki : (k : Int) < (ws.length : Int) := by omega
      have HS := Lib.hid (show sotV fs ws k = (see fs (rl ws k), 0) by unfold sotV; rw [hok, hin]; rfl)
      rw [hok] at HC0
      have HI := Lib.hid hin
      clear hok hgood hin
      go_enter Try.func27, Try.ntmps27
      go_wp2_with (first | (refine load_agg rfl 46 (.tmp 2) rfl ⟨w.heap.size, 0, none⟩ rfl [.slice A fs.length c, .slice A1 ws.length c1] _ (fun j v hv => by rw [add_plain, blk_cell HCC.out j]; simpa using hv) Try.underlying46 rfl ainfo_code ?_) | (go_at_call 42; refine HC0.out.mono ?_; rintro e w1 ⟨rfl, hb1⟩; have x1 := (blk_cell ((hb1.block w.heap.size (by omega)).trans HCC.out) 1).trans (show _ = some (.slice A1 ws.length c1) from rfl); have HB1 := Lib.hid hb1; clear hb1) | (go_at_call 57; refine (sizeW_ok _ _ _ _ hm1).mono ?_; rintro e w' ⟨rfl, rfl⟩) | (go_at_call 54; refine (within_ok _ _ _ _).mono ?_; rintro e w' ⟨rfl, rfl⟩; rw [HI.out]))
      obtain ⟨ad1, A3, c3, rfl, hx3, hl3, hr3⟩ := at_row (C_below' H1.out HB1.out) hk
      have hb1 := HB1.out
      have hlt1 : w.heap.size < w1.heap.size := by have := hb1.size; omega
      have x0 := (blk_cell ((hb1.block w.heap.size (by omega)).trans HCC.out) 0).trans (show _ = some (.slice A fs.length c) from rfl)
      have hdr : Below w1.heap.size w1 w1.drew := ⟨rfl, rfl, rfl, Nat.le_refl _, fun _ _ => rfl⟩
      have HSI := Lib.hid (fun W (h : Below w1.heap.size w1 W) => sights_ok A c fs (.slice (some ad1) ws.length c1) A3 c3 (rl ws k) W (by have := (HG.out.len k hk).2; omega) HG.out.flags (HG.out.words k hk) (C_below' (C_below' H0.out HB1.out) h) (C_below' hr3 h))
      have HK := Lib.hid (fun W (h : Below w1.heap.size w1 W) => And.intro ((h.cell (cell_lt x0)).trans x0) (And.intro ((h.cell (cell_lt x1)).trans x1) ((h.cell (cell_lt hx3)).trans hx3)))
      clear hr3 hb1
      go_region_held3 (fun w' => w'.cell? ⟨w.heap.size, 0, none⟩ = some (.slice A fs.length c) ∧ w'.cell? ⟨w.heap.size, 1, none⟩ = some (.slice (some ad1) ws.length c1) ∧ w'.cell? (ad1.add k) = some (.slice A3 (rl ws k).length c3))
        ((first | exact HK.out _ hdr | exact HK.out _ hq1))
        ((go_at_call 83; refine (HSI.out _ hdr).mono ?_; rintro e w2 ⟨v2, rfl, hown, hb2⟩; have hq1 := hdr.trans (hb2.mono hdr.size)))
      go_wp2
      go_ret2
      rw [HS.out, see_length]
      exact ⟨_, rfl, own_weaken hown (by have := hdr.size; omega), HB0.out.trans ((HB1.out.trans (hq1.mono HB1.out.size)).mono (by omega))⟩
end Go.Proofs.Ytjadhhnajphibaa
