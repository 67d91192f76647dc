/- Marks in rows: what changes in the middle. -/
import Derived.Test.YtjadhhnajphibaaE3
set_option linter.unusedVariables false
set_option linter.unusedSimpArgs false
namespace Go.Proofs.Ytjadhhnajphibaa
open Go.RowKit Go.Proofs.YtjadhhnajphibaaW.PrintWords

/-- only blocks from lo up to hi may have changed, of those that were. -/
structure Mid (lo hi : Nat) (w w' : World) : Prop where
  os : w'.os = w.os
  tape : w'.tape = w.tape
  output : w'.output = w.output
  size : w.heap.size ≤ w'.heap.size
  block : ∀ i, i < w.heap.size → (i < lo ∨ hi ≤ i) → w'.heap[i]? = w.heap[i]?
theorem Mid.refl (lo hi : Nat) (w : World) : Mid lo hi w w := ⟨rfl, rfl, rfl, Nat.le_refl _, fun _ _ _ => rfl⟩
theorem Mid.trans {lo hi : Nat} {w w1 w2 : World} (h : Mid lo hi w w1) (h1 : Mid lo hi w1 w2) : Mid lo hi w w2 :=
  ⟨h1.os.trans h.os, h1.tape.trans h.tape, h1.output.trans h.output, Nat.le_trans h.size h1.size, fun i hi hb => (h1.block i (Nat.lt_of_lt_of_le hi h.size) hb).trans (h.block i hi hb)⟩
theorem Mid.wider {lo hi lo' hi' : Nat} {w w1 : World} (h : Mid lo hi w w1) (h1 : lo' ≤ lo) (h2 : hi ≤ hi') : Mid lo' hi' w w1 :=
  ⟨h.os, h.tape, h.output, h.size, fun i hi hb => h.block i hi (by omega)⟩
theorem Mid.of_below {lo hi : Nat} {w w1 : World} (h : Below w.heap.size w w1) : Mid lo hi w w1 := ⟨h.os, h.tape, h.output, h.size, fun i hi _ => h.block i hi⟩
theorem Mid.drewN {lo hi : Nat} {w w1 : World} (h : Mid lo hi w w1) (n : Nat) : Mid lo hi w (w1.drewN n) := ⟨h.os, h.tape, h.output, h.size, h.block⟩
theorem Mid.set {lo hi : Nat} {w w1 : World} (h : Mid lo hi w w1) {p : Addr} (h1 : lo ≤ p.block) (h2 : p.block < hi) (v : Value) : Mid lo hi w (w1.setCell p v) := by
  have hh : ∀ i, p.block ≠ i → (w1.setCell p v).heap[i]? = w1.heap[i]? := by
    intro i hi
    simp [World.setCell, Array.getElem?_modify, hi]
  exact ⟨h.os, h.tape, h.output, by simpa [World.setCell] using h.size, fun i hi hb => (hh i (by omega)).trans (h.block i hi hb)⟩
theorem Mid.below {B lo hi : Nat} {w w1 w2 : World} (hb : Below B w w1) (h : Mid lo hi w1 w2) (h1 : B ≤ lo) (hB : B ≤ w.heap.size) : Below B w w2 :=
  ⟨h.os.trans hb.os, h.tape.trans hb.tape, h.output.trans hb.output, Nat.le_trans hb.size h.size, fun i hi => (h.block i (by have := hb.size; omega) (by omega)).trans (hb.block i hi)⟩

/-- a block whose first numbers are those of a function. -/
def NF (kd : IntKind) (w : World) (g t m : Nat) (f : Nat → Int) : Prop := ∃ cur, w.heap[g]? = some (.cells cur t (0, 0)) ∧ ∀ i, i < m → cur[i]? = some (.int kd (f i))
theorem NB.fn {kd : IntKind} {w : World} {g t : Nat} {xs : List Int} (h : NB kd w g t xs) : NF kd w g t xs.length (rn xs) :=
  ⟨_, h, fun i hi => by simp [nums, rn, List.getElem?_eq_getElem hi, List.getD_eq_getElem?_getD]⟩
section
variable {kd : IntKind} {w w1 : World} {g t m : Nat} {f : Nat → Int}
theorem NF.cell (h : NF kd w g t m f) {i : Nat} (hi : i < m) : w.cell? ⟨g, i, none⟩ = some (.int kd (f i)) := by
  obtain ⟨cur, h1, h2⟩ := h
  rw [blk_cell h1 i]; exact h2 i hi
theorem NF.frozen (h : NF kd w g t m f) (i : Nat) : w.frozen? ⟨g, i, none⟩ = false := by
  obtain ⟨cur, h1, h2⟩ := h
  exact blk_frozen h1 i
theorem NF.lt (h : NF kd w g t m f) : g < w.heap.size := by obtain ⟨cur, h1, _⟩ := h; exact blk_lt h1
theorem NF.same (h : NF kd w g t m f) (hb : w1.heap[g]? = w.heap[g]?) : NF kd w1 g t m f := by
  obtain ⟨cur, h1, h2⟩ := h
  exact ⟨cur, hb.trans h1, h2⟩
theorem NF.far (h : NF kd w g t m f) {p : Addr} (hp : g ≠ p.block) (u : Value) : NF kd (w.setCell p u) g t m f := by
  obtain ⟨cur, h1, h2⟩ := h
  exact ⟨cur, blk_far h1 hp u, h2⟩
theorem NF.below (h : NF kd w g t m f) (hb : Below w.heap.size w w1) : NF kd w1 g t m f := h.same (hb.block g h.lt)
theorem NF.mid {lo hi : Nat} (h : NF kd w g t m f) (hb : Mid lo hi w w1) (hg : g < lo ∨ hi ≤ g) : NF kd w1 g t m f := h.same (hb.block g h.lt hg)
theorem NF.set (h : NF kd w g t m f) {i : Nat} (hi : i < m) (x : Int) : NF kd (w.setCell ⟨g, i, none⟩ (.int kd x)) g t m (fun j => if j = i then x else f j) := by
  obtain ⟨cur, h1, h2⟩ := h
  refine ⟨_, blk_set h1 i (.int kd x), fun j hj => ?_⟩
  have hs := (Array.getElem?_eq_some_iff.1 (h2 i hi)).1
  by_cases e : j = i
  · subst e; simp [hs]
  · have := h2 j hj
    simp only [if_neg e]
    rw [← this]
    simp [Array.getElem?_setIfInBounds, Ne.symm e]
end
/-- the k-th mark. -/
def mk8 (k p : Nat) (i : Nat) (f : Nat → Int) : Int := if i < p then ((k + i : Nat) : Int) % 256 else f i
def mk64 (k p : Nat) (i : Nat) (f : Nat → Int) : Int := if i < p then ((k + i : Nat) : Int) else f i
theorem NF.ext {kd : IntKind} {w : World} {g t m : Nat} {f f' : Nat → Int} (h : NF kd w g t m f) (he : ∀ i, i < m → f i = f' i) : NF kd w g t m f' := by
  obtain ⟨cur, h1, h2⟩ := h
  exact ⟨cur, h1, fun i hi => by rw [← he i hi]; exact h2 i hi⟩

set_option maxRecDepth 100000 in
set_option maxHeartbeats 2000000 in
theorem markFlagS_ok (A : Option Addr) (c n k0 g t : Nat) (f : Nat → Int) (w : World) (hn : n ≤ 1048576) (hk : k0 ≤ 4000000000000) (h0 : 0 < n → A = some ⟨g, 0, none⟩ ∧ NF .u8 w g t (n * 24) f) :
    Calls Try.prog 89 #[.slice A n c, .int .i64 k0] w fun e w' => e = .returned (.int .i64 (k0 + n * 24 : Nat)) ∧ (0 < n → NF .u8 w' g t (n * 24) (mk8 k0 (n * 24) · f)) ∧ Mid g (g + 1) w w' := by
  have H0 := Lib.hid h0
  clear h0
  go_enter Try.func89, Try.ntmps89
  go_wp2
  go_loopw [1, 5, 6] (fun v i u wr => ∃ p : Nat, p ≤ n ∧ i = .int .i64 p ∧ v = .int .i64 (k0 + p * 24 : Nat) ∧ Hid (0 < n → NF .u8 wr g t (n * 24) (mk8 k0 (p * 24) · f)) ∧ Hid (Mid g (g + 1) w wr)) (fun _ i _ _ => n - (intOf i).toNat)
  case atStart => exact ⟨0, Nat.zero_le _, rfl, by simp, fun h => (H0.out h).2.ext (fun i hi => by simp [mk8]), Mid.refl _ _ _⟩
  case round =>
    obtain ⟨p, hp, rfl, rfl, HN, HM⟩ := hrel
    by_cases hlt : p < n
    · have hlti : (p : Int) < (n : Int) := by omega
      obtain ⟨rfl, _⟩ := H0.out (by omega)
      have HN1 := Lib.hid (HN.out (by omega))
      clear HN
      go_wp2
      go_loopw [1, 6] (fun v u wr => ∃ j : Nat, j ≤ 24 ∧ u = .int .i64 j ∧ v = .int .i64 (k0 + (p * 24 + j) : Nat) ∧ Hid (NF .u8 wr g t (n * 24) (mk8 k0 (p * 24 + j) · f)) ∧ Hid (Mid g (g + 1) w wr)) (fun _ u _ => 24 - (intOf u).toNat)
      case atStart => exact ⟨0, Nat.zero_le _, rfl, by go_num, HN1, HM⟩
      case round =>
        clear HN1 HM
        obtain ⟨j, hj, rfl, rfl, HN, HM⟩ := hrel
        by_cases hj2 : j < 24
        · have hji : (j : Int) < 24 := by omega
          have hpos : p * 24 + j < n * 24 := by omega
          have hc := HN.out.cell hpos
          have hf := HN.out.frozen (p * 24 + j)
          generalize mk8 k0 (p * 24 + j) (p * 24 + j) f = old at hc
          go_wp2
          go_roundw
          case rel =>
            refine ⟨j + 1, by omega, by go_num, by go_num, ?_, Mid.set HM.out (by simp) (by simp) _⟩
            refine (NF.set HN.out hpos _).ext (fun i hi => ?_)
            simp only [mk8]
            by_cases e : i = p * 24 + j
            · subst e
              rw [if_pos rfl, if_pos (by omega)]
              push_cast
              rfl
            · rw [if_neg e]
              by_cases e2 : i < p * 24 + j
              · rw [if_pos e2, if_pos (by omega)]
              · rw [if_neg e2, if_neg (by omega)]
          case measure => first|(simp [intOf]; done)|(simp [intOf]; omega)
        · obtain rfl : j = 24 := by omega
          go_wp2
          go_roundw
          case rel =>
            refine ⟨p + 1, by omega, by go_num, by go_num, fun _ => HN.out.ext (fun i hi => by rw [show p * 24 + 24 = (p + 1) * 24 by omega]), HM⟩
          case measure => first|(simp [intOf]; done)|(simp [intOf]; omega)
    · obtain rfl : p = n := by omega
      go_wp2
      go_ret
      exact ⟨rfl, HN.out, HM.out⟩

set_option maxRecDepth 100000 in
set_option maxHeartbeats 2000000 in
theorem markSightS_ok (A : Option Addr) (c n k0 g t : Nat) (f : Nat → Int) (w : World) (hn : n ≤ 1048576) (hk : k0 ≤ 4000000000000) (h0 : 0 < n → A = some ⟨g, 0, none⟩ ∧ NF .u8 w g t (n * 6) f) :
    Calls Try.prog 30 #[.slice A n c, .int .i64 k0] w fun e w' => e = .returned (.int .i64 (k0 + n * 6 : Nat)) ∧ (0 < n → NF .u8 w' g t (n * 6) (mk8 k0 (n * 6) · f)) ∧ Mid g (g + 1) w w' := by
  have H0 := Lib.hid h0
  clear h0
  go_enter Try.func30, Try.ntmps30
  go_wp2
  go_loopw [1, 5, 6] (fun v i u wr => ∃ p : Nat, p ≤ n ∧ i = .int .i64 p ∧ v = .int .i64 (k0 + p * 6 : Nat) ∧ Hid (0 < n → NF .u8 wr g t (n * 6) (mk8 k0 (p * 6) · f)) ∧ Hid (Mid g (g + 1) w wr)) (fun _ i _ _ => n - (intOf i).toNat)
  case atStart => exact ⟨0, Nat.zero_le _, rfl, by simp, fun h => (H0.out h).2.ext (fun i hi => by simp [mk8]), Mid.refl _ _ _⟩
  case round =>
    obtain ⟨p, hp, rfl, rfl, HN, HM⟩ := hrel
    by_cases hlt : p < n
    · have hlti : (p : Int) < (n : Int) := by omega
      obtain ⟨rfl, _⟩ := H0.out (by omega)
      have HN1 := Lib.hid (HN.out (by omega))
      clear HN
      go_wp2
      go_loopw [1, 6] (fun v u wr => ∃ j : Nat, j ≤ 6 ∧ u = .int .i64 j ∧ v = .int .i64 (k0 + (p * 6 + j) : Nat) ∧ Hid (NF .u8 wr g t (n * 6) (mk8 k0 (p * 6 + j) · f)) ∧ Hid (Mid g (g + 1) w wr)) (fun _ u _ => 6 - (intOf u).toNat)
      case atStart => exact ⟨0, Nat.zero_le _, rfl, by go_num, HN1, HM⟩
      case round =>
        clear HN1 HM
        obtain ⟨j, hj, rfl, rfl, HN, HM⟩ := hrel
        by_cases hj2 : j < 6
        · have hji : (j : Int) < 6 := by omega
          have hpos : p * 6 + j < n * 6 := by omega
          have hc := HN.out.cell hpos
          have hf := HN.out.frozen (p * 6 + j)
          generalize mk8 k0 (p * 6 + j) (p * 6 + j) f = old at hc
          go_wp2
          go_roundw
          case rel =>
            refine ⟨j + 1, by omega, by go_num, by go_num, ?_, Mid.set HM.out (by simp) (by simp) _⟩
            refine (NF.set HN.out hpos _).ext (fun i hi => ?_)
            simp only [mk8]
            by_cases e : i = p * 6 + j
            · subst e
              rw [if_pos rfl, if_pos (by omega)]
              push_cast
              rfl
            · rw [if_neg e]
              by_cases e2 : i < p * 6 + j
              · rw [if_pos e2, if_pos (by omega)]
              · rw [if_neg e2, if_neg (by omega)]
          case measure => first|(simp [intOf]; done)|(simp [intOf]; omega)
        · obtain rfl : j = 6 := by omega
          go_wp2
          go_roundw
          case rel =>
            refine ⟨p + 1, by omega, by go_num, by go_num, fun _ => HN.out.ext (fun i hi => by rw [show p * 6 + 6 = (p + 1) * 6 by omega]), HM⟩
          case measure => first|(simp [intOf]; done)|(simp [intOf]; omega)
    · obtain rfl : p = n := by omega
      go_wp2
      go_ret
      exact ⟨rfl, HN.out, HM.out⟩

end Go.Proofs.Ytjadhhnajphibaa
