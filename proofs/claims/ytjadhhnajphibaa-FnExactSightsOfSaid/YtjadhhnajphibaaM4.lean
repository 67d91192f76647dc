/- Rows of one's own, and marks. -/
import Derived.Test.YtjadhhnajphibaaV12
set_option linter.unusedVariables false
set_option linter.unusedSimpArgs false
namespace Go.Proofs.Ytjadhhnajphibaa
open Go.RowKit Go.Proofs.YtjadhhnajphibaaW.PrintWords

section
variable {w w1 : World} {base : Nat} {e : TypeId} {size n : Nat} {v : Value}
theorem own_NF {kd : IntKind} {ys : List Int} (h : w.ownsRow base e size v n (nums kd ys)) (hb : base ≤ w.heap.size) :
    ∃ A c g, v = .slice A n c ∧ n ≤ c ∧ base ≤ g ∧ (0 < n → A = some ⟨g, 0, none⟩ ∧ NF kd w g e (n * size) (rn ys)) := by
  rcases h.2 with ⟨rfl, rfl⟩ | ⟨g, cap, cur, rfl, h1, h2, h3, h4, h5, h6⟩
  · exact ⟨none, 0, _, rfl, Nat.le_refl _, hb, fun h => absurd h (by omega)⟩
  · refine ⟨_, cap, g, rfl, h3, h1, fun _ => ⟨rfl, cur, h2, fun i hi => ?_⟩⟩
    have hl := h.1
    rw [nums_length] at hl
    have hiy : i < ys.length := by omega
    have h7 := congrArg (fun l : List Value => l[i]?) h6
    simp only [nums, List.getElem?_take, if_pos hi, List.getElem?_map, List.getElem?_eq_getElem hiy, Option.map_some, Array.getElem?_toList] at h7
    rw [h7]
    simp [rn, List.getD_eq_getElem?_getD, List.getElem?_eq_getElem hiy]
theorem own_lt {xs : List Value} (h : w.ownsRow base e size v n xs) : ∀ k, v.ownBlock = some k → k < w.heap.size := by
  intro k hk
  rcases h.2 with ⟨rfl, _⟩ | ⟨g, cap, cur, rfl, h1, h2, _⟩
  · cases hk
  · injection hk with hk
    subst hk
    exact blk_lt h2
theorem own_mid {lo hi : Nat} {xs : List Value} (h : w.ownsRow base e size v n xs) (hm : Mid lo hi w w1) (hne : ∀ k, v.ownBlock = some k → k < lo ∨ hi ≤ k) : w1.ownsRow base e size v n xs := by
  refine ⟨h.1, ?_⟩
  rcases h.2 with h1 | ⟨g, cap, cur, rfl, h1, h2, h3⟩
  · exact .inl h1
  · exact .inr ⟨g, cap, cur, rfl, h1, (hm.block g (blk_lt h2) (hne g rfl)).trans h2, h3⟩
theorem own_len {xs : List Value} (h : w.ownsRow base e size v n xs) : n ≤ 9223372036854775807 := by
  rcases h.2 with ⟨_, h1⟩ | ⟨g', cap', cur, he, _, _, h1, h2, _⟩
  · omega
  · simp only [maxLen] at h2
    omega
theorem own_NF_at {kd : IntKind} {ys : List Int} {A : Option Addr} {c g : Nat} (h : w.ownsRow base e size (.slice A n c) n (nums kd ys)) (hb : base ≤ w.heap.size) (h0 : 0 < n → A = some ⟨g, 0, none⟩) : 0 < n → A = some ⟨g, 0, none⟩ ∧ NF kd w g e (n * size) (rn ys) := by
  intro hn
  obtain ⟨A', c', g', hv, -, -, h1⟩ := own_NF h hb
  injection hv with h2 h3 h4
  subst h2
  obtain ⟨h5, h6⟩ := h1 hn
  have h7 := h0 hn
  rw [h5] at h7
  injection h7 with h7
  injection h7 with h7
  subst h7
  exact ⟨h5, h6⟩
end
theorem own_arrs {N : Nat} {w : World} {base : Nat} {e : TypeId} {n c : Nat} {A : Option Addr} {ss : List (List Int)} (hN : 0 < N) (h : w.ownsRow base e N (.slice A n c) n (nums .u8 (flat ss))) (hn : ss.length = n) (hl : ∀ s ∈ ss, s.length = N) : (Karr N).C w A n ss := by
  subst hn
  have hm := own_len h
  obtain ⟨A', c', hv, hc, hcells⟩ := own_cells h
  injection hv with h1 h2 h3
  subst h1
  exact arrs_of_cells hcells hl hN hm
theorem own_ints {w : World} {base : Nat} {e : TypeId} {kd : IntKind} {n c : Nat} {A : Option Addr} {xs : List Int} (h : w.ownsRow base e 1 (.slice A n c) n (nums kd xs)) (hn : xs.length = n) : (Kd.int kd).C w A n xs := by
  subst hn
  obtain ⟨_, A', c', hv, hc, hC⟩ := own_C h
  injection hv with h1 h2 h3
  subst h1
  exact hC
theorem MC.blocks {w : World} {B gs gw : Nat} {bk : Nat → Nat} {fs ws : List (List Int)} (h : MC w B gs gw bk fs ws) : gs < w.heap.size ∧ ∀ j, j < ws.length → bk j < w.heap.size := ⟨h.set.lt, fun j hj => (h.words.each j hj hj).2.1⟩
theorem sot_len {fs ws : List (List Int)} {i : Int} (hf : ∀ k i, 0 ≤ rn (rl fs k) i) (hx : WBytes ws) : (sotV fs ws i).1.length ≤ 8 := by
  unfold sotV
  split
  · rename_i h
    split
    · rename_i hin
      have h1 := inB_iff.1 hin
      simp only [see_length]
      exact ((okC_good h hf hx).len _ (by omega)).2
    · simp
  · simp
end Go.Proofs.Ytjadhhnajphibaa
