/- Base: plain words on numbers and lists, and on rows that are read. -/
import Derived.Test.YtjadhhnajphibaaProg
import Derived.Test.YtjadhhnajphibaaWWords
import Derived.Test.YtjadhhnajphibaaWArr
import Derived.Lib.Hide
import Derived.Deep.QuietTactic
import Derived.BigQuiet
import Derived.Deep.LoopGhost
import Derived.Shelf.Abstract
set_option linter.unusedVariables false
set_option linter.unusedSimpArgs false
namespace Go.Proofs.Ytjadhhnajphibaa
open Go.RowKit Go.Proofs.YtjadhhnajphibaaW.PrintWords

/-- how many i < n satisfy p. -/
def cnt (p : Nat → Bool) : Nat → Nat
  | 0 => 0
  | n + 1 => cnt p n + if p n then 1 else 0
theorem cnt_le (p : Nat → Bool) (n : Nat) : cnt p n ≤ n := by
  induction n with
  | zero => simp [cnt]
  | succ n ih => unfold cnt; split <;> omega

/-- element k of a list of numbers, of a list of lists. -/
def rn (xs : List Int) (k : Nat) : Int := xs.getD k 0
def rl {α : Type} (xs : List (List α)) (k : Nat) : List α := xs.getD k []
theorem at_nat {w : World} {kd : IntKind} {A : Option Addr} {n : Nat} {xs : List Int} (h : (Kd.int kd).C w A n xs) {k : Nat} (hk : k < n) : ∃ ad, A = some ad ∧ w.cell? (ad.add k) = some (.int kd (rn xs k)) := by
  obtain ⟨ad, e, hx⟩ := Kd.at_int h k (by omega) (by omega)
  exact ⟨ad, e, by simpa only [rd, rn, Int.toNat_natCast] using hx⟩
theorem at_row {α : Type} {d : Kd α} {w : World} {t : Nat} {A : Option Addr} {n : Nat} {xs : List (List α)} (h : (Kd.slice t d).C w A n xs) {k : Nat} (hk : k < n) :
    ∃ ad A1 c1, A = some ad ∧ w.cell? (ad.add k) = some (.slice A1 (rl xs k).length c1) ∧ (rl xs k).length ≤ c1 ∧ d.C w A1 (rl xs k).length (rl xs k) := by
  obtain ⟨ad, c, e, _, hK, hc⟩ := Kd.C_get h ([] : List α) k (by omega) (by omega)
  obtain ⟨A1, c1, rfl, hl, hr⟩ := hK
  have hx := hc 0 _ rfl
  refine ⟨ad, A1, c1, e, ?_, ?_, ?_⟩
  · simpa only [rl, Int.toNat_natCast, Kd.slice, Nat.mul_one, Nat.add_zero] using hx
  · simpa only [rl, Int.toNat_natCast] using hl
  · simpa only [rl, Int.toNat_natCast] using hr
theorem results_tmp4 {fn : Func} {t u v x : Tmp} (h : fn.results = #[.tmp t, .tmp u, .tmp v, .tmp x]) (tmps : Array Value) (P : Program) (w : World) :
    (results fn tmps).run P w = .ok (.tuple #[tmps.getD t undef, tmps.getD u undef, tmps.getD v undef, tmps.getD x undef]) w := by simp [results, h]
theorem ret_int {k : IntKind} {a b : Int} (h : a = b) : Ending.returned (.int k a) = .returned (.int k b) := by rw [h]
theorem ret_bool {a b : Bool} (h : a = b) : Ending.returned (.bool a) = .returned (.bool b) := by rw [h]

theorem bcell {W w1 : World} (hb : Below W.heap.size W w1) : (∀ b o, b < W.heap.size → w1.cell? ⟨b, o, none⟩ = W.cell? ⟨b, o, none⟩) ∧ (∀ b o, b < W.heap.size → w1.frozen? ⟨b, o, none⟩ = W.frozen? ⟨b, o, none⟩) :=
  ⟨fun b o h => hb.cell (p := ⟨b, o, none⟩) h, fun b o h => hb.frozen (p := ⟨b, o, none⟩) h⟩

theorem quiet_any {P : Program} {f : FuncId} {args : Array Value} {w : World} {a : Nat} {v : Value}
    (h : Calls P f args (w.drewN a) fun e w' => e = .returned v ∧ ∃ m, w' = (w.drewN a).drewN m) :
    Calls P f args (w.drewN a) fun e w'' => e = .returned v ∧ ∃ m, w'' = w.drewN m :=
  h.mono fun _ _ ⟨he, m, hm⟩ => ⟨he, a + m, by rw [hm, World.drewN_drewN]⟩
theorem quiet_add {P : Program} {f : FuncId} {args : Array Value} {w : World} {a n : Nat} {v : Value}
    (h : Calls P f args (w.drewN (a + n)) fun e w' => e = .returned v ∧ ∃ m, w' = (w.drewN (a + n)).drewN m) :
    Calls P f args (w.drewN (a + n)) fun e w'' => e = .returned v ∧ ∃ m, w'' = w.drewN (a + m) :=
  h.mono fun _ _ ⟨he, m, hm⟩ => ⟨he, n + m, by rw [hm, World.drewN_drewN, Nat.add_assoc]⟩
theorem quiet_same {P : Program} {f : FuncId} {args : Array Value} {w : World} {a : Nat} {v : Value}
    (h : Calls P f args (w.drewN a) fun e w' => e = .returned v ∧ w.drewN a = w') :
    Calls P f args (w.drewN a) fun e w'' => e = .returned v ∧ ∃ m, w'' = w.drewN m :=
  h.mono fun _ _ ⟨he, hm⟩ => ⟨he, a, hm.symm⟩
theorem quiet_add_same {P : Program} {f : FuncId} {args : Array Value} {w : World} {a n : Nat} {v : Value}
    (h : Calls P f args (w.drewN (a + n)) fun e w' => e = .returned v ∧ w.drewN (a + n) = w') :
    Calls P f args (w.drewN (a + n)) fun e w'' => e = .returned v ∧ ∃ m, w'' = w.drewN (a + m) :=
  h.mono fun _ _ ⟨he, hm⟩ => ⟨he, n, hm.symm⟩
theorem below_dN {B : Nat} {w W : World} (h : Below B w W) (n : Nat) : Below B w (W.drewN n) := ⟨h.os, h.tape, h.output, h.size, h.block⟩

theorem cell_box (w : World) (v : Value) (t : TypeId) : (w.alloc (.cells #[v] t)).cell? ⟨w.heap.size, 0, none⟩ = some v := by
  rw [World.cell?_alloc_new]; rfl
theorem below_box (w : World) (o : Obj) : Below w.heap.size w (w.alloc o) := below_alloc (Below.refl _ _) o
theorem size_box (w : World) (o : Obj) : (w.alloc o).heap.size = w.heap.size + 1 := by simp

theorem C_below' {α : Type} {d : Kd α} {w w1 : World} {A : Option Addr} {n : Nat} {xs : List α} (h : d.C w A n xs) (hb : Below w.heap.size w w1) : d.C w1 A n xs := Kd.C_below h hb

/-- low ≤ n ≤ high. -/
def inB (n low high : Int) : Bool := decide (low ≤ n ∧ n ≤ high)
theorem inB_yes {n low high : Int} (h1 : low ≤ n) (h2 : n ≤ high) : inB n low high = true := decide_eq_true ⟨h1, h2⟩
theorem inB_no {n low high : Int} (h : ¬ (low ≤ n ∧ n ≤ high)) : inB n low high = false := decide_eq_false h
theorem inB_iff {n low high : Int} : inB n low high = true ↔ low ≤ n ∧ n ≤ high := decide_eq_true_iff
def unlessV (b : Bool) (c : Int) : Int := if b then 0 else c

/-- in how many of the first k places two lists differ. -/
def diffsTo (xs ys : List Int) (k : Nat) : Nat := cnt (fun i => rn xs i != rn ys i) k
theorem diffsTo_le (xs ys : List Int) (k : Nat) : diffsTo xs ys k ≤ k := cnt_le _ _
theorem diffsTo_yes {xs ys : List Int} {k : Nat} (h : (rn xs k != rn ys k) = true) : diffsTo xs ys (k + 1) = diffsTo xs ys k + 1 := by simp [diffsTo, cnt, h]
theorem diffsTo_no {xs ys : List Int} {k : Nat} (h : (rn xs k != rn ys k) = false) : diffsTo xs ys (k + 1) = diffsTo xs ys k := by simp [diffsTo, cnt, h]
def diffs (xs ys : List Int) : Nat := diffsTo xs ys xs.length

/-- some i < n satisfies p; all do; the first one that does (-1 if none does). -/
def anyB (p : Nat → Bool) (n : Nat) : Bool := (List.range n).any p
def allB (p : Nat → Bool) (n : Nat) : Bool := (List.range n).all p
theorem anyB_iff {p : Nat → Bool} {n : Nat} : anyB p n = true ↔ ∃ i, i < n ∧ p i = true := by simp [anyB]
theorem allB_iff {p : Nat → Bool} {n : Nat} : allB p n = true ↔ ∀ i, i < n → p i = true := by simp [allB]
theorem anyB_no {p : Nat → Bool} {n : Nat} (h : ∀ i, i < n → p i = false) : anyB p n = false := by
  rw [Bool.eq_false_iff]
  intro hc
  obtain ⟨i, hi, hp⟩ := anyB_iff.1 hc
  rw [h i hi] at hp
  cases hp
theorem allB_no {p : Nat → Bool} {n i : Nat} (hi : i < n) (h : p i = false) : allB p n = false := by
  rw [Bool.eq_false_iff]
  intro hc
  rw [allB_iff.1 hc i hi] at h
  cases h
theorem allB_not (p : Nat → Bool) (n : Nat) : (!anyB p n) = allB (fun i => !p i) n := by
  rcases h : anyB p n with _ | _
  · refine (allB_iff.2 fun i hi => ?_).symm
    rcases hp : p i with _ | _
    · rfl
    · rw [anyB_iff.2 ⟨i, hi, hp⟩] at h; cases h
  · obtain ⟨i, hi, hp⟩ := anyB_iff.1 h
    exact (allB_no hi (by simp [hp])).symm
theorem allB_congr {p q : Nat → Bool} {n : Nat} (h : ∀ i, i < n → p i = q i) : allB p n = allB q n := by
  rw [Bool.eq_iff_iff, allB_iff, allB_iff]
  exact ⟨fun g i hi => (h i hi) ▸ g i hi, fun g i hi => (h i hi).symm ▸ g i hi⟩
def idx (p : Nat → Bool) : Nat → Int
  | 0 => -1
  | n + 1 => if 0 ≤ idx p n then idx p n else if p n then n else -1
theorem idx_none {p : Nat → Bool} : ∀ {n : Nat}, (∀ i, i < n → p i = false) → idx p n = -1
  | 0, _ => rfl
  | n + 1, h => by
    have h1 := idx_none (p := p) (n := n) (fun i hi => h i (by omega))
    simp [idx, h1, h n (by omega)]
theorem idx_hit {p : Nat → Bool} {k : Nat} (h : ∀ i, i < k → p i = false) (hk : p k = true) : ∀ {n : Nat}, k < n → idx p n = k
  | 0, hn => absurd hn (by omega)
  | n + 1, hn => by
    by_cases e : k = n
    · subst e
      simp [idx, idx_none h, hk]
    · have h1 := idx_hit h hk (n := n) (by omega)
      simp [idx, h1]
theorem idx_any (p : Nat → Bool) (n : Nat) : decide (0 ≤ idx p n) = anyB p n := by
  rcases h : anyB p n with _ | _
  · have h1 : ∀ i, i < n → p i = false := fun i hi => by
      rcases hp : p i with _ | _
      · rfl
      · rw [anyB_iff.2 ⟨i, hi, hp⟩] at h; cases h
    simp [idx_none h1]
  · obtain ⟨i, hi, hp⟩ := anyB_iff.1 h
    have : ∀ m, m ≤ n → (0 ≤ idx p m ∨ ∀ j, j < m → p j = false) := by
      intro m
      induction m with
      | zero => exact fun _ => .inr fun j hj => absurd hj (by omega)
      | succ m ih =>
        intro hm
        rcases ih (by omega) with h1 | h1
        · left; simp [idx, h1]
        · rcases hq : p m with _ | _
          · right
            intro j hj
            by_cases e : j = m
            · rw [e]; exact hq
            · exact h1 j (by omega)
          · left; simp [idx, idx_none h1, hq]
    rcases this n (Nat.le_refl _) with h1 | h1
    · simpa using h1
    · rw [h1 i hi] at hp; cases hp

/-- the elements of a row as values. -/
def Raw (w : World) (A : Option Addr) (n : Nat) (el : Nat → Value) : Prop := n ≤ 9223372036854775807 ∧ ∀ k, k < n → ∃ ad, A = some ad ∧ w.cell? (ad.add k) = some (el k)
theorem Raw.below {w w1 : World} {A : Option Addr} {n : Nat} {el : Nat → Value} (h : Raw w A n el) (hb : Below w.heap.size w w1) : Raw w1 A n el :=
  ⟨h.1, fun k hk => by
    obtain ⟨ad, e, hc⟩ := h.2 k hk
    exact ⟨ad, e, pw_cell_below hb hc⟩⟩
theorem raw_int {w : World} {kd : IntKind} {A : Option Addr} {n : Nat} {xs : List Int} (h : (Kd.int kd).C w A n xs) : Raw w A n (fun k => .int kd (rn xs k)) := ⟨h.2.1, fun k hk => at_nat h hk⟩
theorem raw_row {α : Type} {d : Kd α} {w : World} {t : Nat} {A : Option Addr} {n : Nat} {xs : List (List α)} (h : (Kd.slice t d).C w A n xs) :
    ∃ (ac : Nat → Option Addr × Nat), Raw w A n (fun k => .slice (ac k).1 (rl xs k).length (ac k).2) ∧ ∀ k, k < n → (rl xs k).length ≤ (ac k).2 ∧ d.C w (ac k).1 (rl xs k).length (rl xs k) := by
  have h1 : ∀ k, ∃ ac : Option Addr × Nat, k < n → (∃ ad, A = some ad ∧ w.cell? (ad.add k) = some (.slice ac.1 (rl xs k).length ac.2)) ∧ (rl xs k).length ≤ ac.2 ∧ d.C w ac.1 (rl xs k).length (rl xs k) := by
    intro k
    by_cases hk : k < n
    · obtain ⟨ad, A1, c1, e, hc, hl, hr⟩ := at_row h hk
      exact ⟨(A1, c1), fun _ => ⟨⟨ad, e, hc⟩, hl, hr⟩⟩
    · exact ⟨(none, 0), fun h => absurd h hk⟩
  exact ⟨fun k => Classical.choose (h1 k), ⟨h.2.1, fun k hk => (Classical.choose_spec (h1 k) hk).1⟩, fun k hk => (Classical.choose_spec (h1 k) hk).2⟩

/-- a function value, asked of the elements el of a row of n: it may make memory, and turns none. -/
def PredB (P : Program) (g : Nat) (lb : Array Value) (n : Nat) (el : Nat → Value) (p : Nat → Bool) (w : World) : Prop :=
  ∀ (k : Nat) (W : World), k < n → Below w.heap.size w W → Calls P g (#[el k] ++ lb) W fun e w' => e = .returned (.bool (p k)) ∧ Below W.heap.size W w'
end Go.Proofs.Ytjadhhnajphibaa
