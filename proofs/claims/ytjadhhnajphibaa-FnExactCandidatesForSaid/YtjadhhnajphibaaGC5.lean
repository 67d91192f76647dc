/- Contracts of functions and plain lemmas that the row stands on: Marks in rows: what changes in the middle. Marks that are held; marks in words and codes. Marks in words and codes. Words that are valid: the program's own functions, with closures. No conditions beyond those that each theorem names. -/
import Derived.Test.YtjadhhnajphibaaGC4
set_option linter.unusedVariables false
set_option linter.unusedSimpArgs false
namespace Go.Proofs.Ytjadhhnajphibaa
open Go.RowKit Go.Proofs.YtjadhhnajphibaaW.PrintWords

/-- only blocks from lo up to hi may have changed, of those that were. -/
structure Mid (lo hi : Nat) (w w' : World) : Prop where
  os : w'.os = w.os
  tape : w'.tape = w.tape
  output : w'.output = w.output
  size : w.heap.size ≤ w'.heap.size
  block : ∀ i, i < w.heap.size → (i < lo ∨ hi ≤ i) → w'.heap[i]? = w.heap[i]?
theorem Mid.refl (lo hi : Nat) (w : World) : Mid lo hi w w := ⟨rfl, rfl, rfl, Nat.le_refl _, fun _ _ _ => rfl⟩
theorem Mid.trans {lo hi : Nat} {w w1 w2 : World} (h : Mid lo hi w w1) (h1 : Mid lo hi w1 w2) : Mid lo hi w w2 :=
  ⟨h1.os.trans h.os, h1.tape.trans h.tape, h1.output.trans h.output, Nat.le_trans h.size h1.size, fun i hi hb => (h1.block i (Nat.lt_of_lt_of_le hi h.size) hb).trans (h.block i hi hb)⟩
theorem Mid.wider {lo hi lo' hi' : Nat} {w w1 : World} (h : Mid lo hi w w1) (h1 : lo' ≤ lo) (h2 : hi ≤ hi') : Mid lo' hi' w w1 :=
  ⟨h.os, h.tape, h.output, h.size, fun i hi hb => h.block i hi (by omega)⟩
theorem Mid.of_below {lo hi : Nat} {w w1 : World} (h : Below w.heap.size w w1) : Mid lo hi w w1 := ⟨h.os, h.tape, h.output, h.size, fun i hi _ => h.block i hi⟩
theorem Mid.drewN {lo hi : Nat} {w w1 : World} (h : Mid lo hi w w1) (n : Nat) : Mid lo hi w (w1.drewN n) := ⟨h.os, h.tape, h.output, h.size, h.block⟩
theorem Mid.set {lo hi : Nat} {w w1 : World} (h : Mid lo hi w w1) {p : Addr} (h1 : lo ≤ p.block) (h2 : p.block < hi) (v : Value) : Mid lo hi w (w1.setCell p v) := by
  have hh : ∀ i, p.block ≠ i → (w1.setCell p v).heap[i]? = w1.heap[i]? := by
    intro i hi
    simp [World.setCell, Array.getElem?_modify, hi]
  exact ⟨h.os, h.tape, h.output, by simpa [World.setCell] using h.size, fun i hi hb => (hh i (by omega)).trans (h.block i hi hb)⟩
theorem Mid.below {B lo hi : Nat} {w w1 w2 : World} (hb : Below B w w1) (h : Mid lo hi w1 w2) (h1 : B ≤ lo) (hB : B ≤ w.heap.size) : Below B w w2 :=
  ⟨h.os.trans hb.os, h.tape.trans hb.tape, h.output.trans hb.output, Nat.le_trans hb.size h.size, fun i hi => (h.block i (by have := hb.size; omega) (by omega)).trans (hb.block i hi)⟩

/-- a block whose first numbers are those of a function. -/
def NF (kd : IntKind) (w : World) (g t m : Nat) (f : Nat → Int) : Prop := ∃ cur, w.heap[g]? = some (.cells cur t (0, 0)) ∧ ∀ i, i < m → cur[i]? = some (.int kd (f i))
theorem NB.fn {kd : IntKind} {w : World} {g t : Nat} {xs : List Int} (h : NB kd w g t xs) : NF kd w g t xs.length (rn xs) :=
  ⟨_, h, fun i hi => by simp [nums, rn, List.getElem?_eq_getElem hi, List.getD_eq_getElem?_getD]⟩
section
variable {kd : IntKind} {w w1 : World} {g t m : Nat} {f : Nat → Int}
theorem NF.cell (h : NF kd w g t m f) {i : Nat} (hi : i < m) : w.cell? ⟨g, i, none⟩ = some (.int kd (f i)) := by
  obtain ⟨cur, h1, h2⟩ := h
  rw [blk_cell h1 i]; exact h2 i hi
theorem NF.frozen (h : NF kd w g t m f) (i : Nat) : w.frozen? ⟨g, i, none⟩ = false := by
  obtain ⟨cur, h1, h2⟩ := h
  exact blk_frozen h1 i
theorem NF.lt (h : NF kd w g t m f) : g < w.heap.size := by obtain ⟨cur, h1, _⟩ := h; exact blk_lt h1
theorem NF.same (h : NF kd w g t m f) (hb : w1.heap[g]? = w.heap[g]?) : NF kd w1 g t m f := by
  obtain ⟨cur, h1, h2⟩ := h
  exact ⟨cur, hb.trans h1, h2⟩
theorem NF.far (h : NF kd w g t m f) {p : Addr} (hp : g ≠ p.block) (u : Value) : NF kd (w.setCell p u) g t m f := by
  obtain ⟨cur, h1, h2⟩ := h
  exact ⟨cur, blk_far h1 hp u, h2⟩
theorem NF.below (h : NF kd w g t m f) (hb : Below w.heap.size w w1) : NF kd w1 g t m f := h.same (hb.block g h.lt)
theorem NF.mid {lo hi : Nat} (h : NF kd w g t m f) (hb : Mid lo hi w w1) (hg : g < lo ∨ hi ≤ g) : NF kd w1 g t m f := h.same (hb.block g h.lt hg)
theorem NF.set (h : NF kd w g t m f) {i : Nat} (hi : i < m) (x : Int) : NF kd (w.setCell ⟨g, i, none⟩ (.int kd x)) g t m (fun j => if j = i then x else f j) := by
  obtain ⟨cur, h1, h2⟩ := h
  refine ⟨_, blk_set h1 i (.int kd x), fun j hj => ?_⟩
  have hs := (Array.getElem?_eq_some_iff.1 (h2 i hi)).1
  by_cases e : j = i
  · subst e; simp [hs]
  · have := h2 j hj
    simp only [if_neg e]
    rw [← this]
    simp [Array.getElem?_setIfInBounds, Ne.symm e]
end
/-- the k-th mark. -/
def mk8 (k p : Nat) (i : Nat) (f : Nat → Int) : Int := if i < p then ((k + i : Nat) : Int) % 256 else f i
def mk64 (k p : Nat) (i : Nat) (f : Nat → Int) : Int := if i < p then ((k + i : Nat) : Int) else f i
theorem NF.ext {kd : IntKind} {w : World} {g t m : Nat} {f f' : Nat → Int} (h : NF kd w g t m f) (he : ∀ i, i < m → f i = f' i) : NF kd w g t m f' := by
  obtain ⟨cur, h1, h2⟩ := h
  exact ⟨cur, h1, fun i hi => by rw [← he i hi]; exact h2 i hi⟩

set_option maxRecDepth 100000 in
set_option maxHeartbeats 2000000 in
theorem markFlagS_ok (A : Option Addr) (c n k0 g t : Nat) (f : Nat → Int) (w : World) (hn : n ≤ 1048576) (hk : k0 ≤ 4000000000000) (h0 : 0 < n → A = some ⟨g, 0, none⟩ ∧ NF .u8 w g t (n * 24) f) :
    Calls Try.prog 89 #[.slice A n c, .int .i64 k0] w fun e w' => e = .returned (.int .i64 (k0 + n * 24 : Nat)) ∧ (0 < n → NF .u8 w' g t (n * 24) (mk8 k0 (n * 24) · f)) ∧ Mid g (g + 1) w w' := by
  have H0 := Lib.hid h0
  clear h0
  go_enter Try.func89, Try.ntmps89
  go_wp2
  go_loopw [1, 5, 6] (fun v i u wr => ∃ p : Nat, p ≤ n ∧ i = .int .i64 p ∧ v = .int .i64 (k0 + p * 24 : Nat) ∧ Hid (0 < n → NF .u8 wr g t (n * 24) (mk8 k0 (p * 24) · f)) ∧ Hid (Mid g (g + 1) w wr)) (fun _ i _ _ => n - (intOf i).toNat)
  case atStart => exact ⟨0, Nat.zero_le _, rfl, by simp, fun h => (H0.out h).2.ext (fun i hi => by simp [mk8]), Mid.refl _ _ _⟩
  case round =>
    obtain ⟨p, hp, rfl, rfl, HN, HM⟩ := hrel
    by_cases hlt : p < n
    · have hlti : (p : Int) < (n : Int) := by omega
      obtain ⟨rfl, _⟩ := H0.out (by omega)
      have HN1 := Lib.hid (HN.out (by omega))
      clear HN
      go_wp2
      go_loopw [1, 6] (fun v u wr => ∃ j : Nat, j ≤ 24 ∧ u = .int .i64 j ∧ v = .int .i64 (k0 + (p * 24 + j) : Nat) ∧ Hid (NF .u8 wr g t (n * 24) (mk8 k0 (p * 24 + j) · f)) ∧ Hid (Mid g (g + 1) w wr)) (fun _ u _ => 24 - (intOf u).toNat)
      case atStart => exact ⟨0, Nat.zero_le _, rfl, by go_num, HN1, HM⟩
      case round =>
        clear HN1 HM
        obtain ⟨j, hj, rfl, rfl, HN, HM⟩ := hrel
        by_cases hj2 : j < 24
        · have hji : (j : Int) < 24 := by omega
          have hpos : p * 24 + j < n * 24 := by omega
          have hc := HN.out.cell hpos
          have hf := HN.out.frozen (p * 24 + j)
          generalize mk8 k0 (p * 24 + j) (p * 24 + j) f = old at hc
          go_wp2
          go_roundw
          case rel =>
            refine ⟨j + 1, by omega, by go_num, by go_num, ?_, Mid.set HM.out (by simp) (by simp) _⟩
            refine (NF.set HN.out hpos _).ext (fun i hi => ?_)
            simp only [mk8]
            by_cases e : i = p * 24 + j
            · subst e
              rw [if_pos rfl, if_pos (by omega)]
              push_cast
              rfl
            · rw [if_neg e]
              by_cases e2 : i < p * 24 + j
              · rw [if_pos e2, if_pos (by omega)]
              · rw [if_neg e2, if_neg (by omega)]
          case measure => first|(simp [intOf]; done)|(simp [intOf]; omega)
        · obtain rfl : j = 24 := by omega
          go_wp2
          go_roundw
          case rel =>
            refine ⟨p + 1, by omega, by go_num, by go_num, fun _ => HN.out.ext (fun i hi => by rw [show p * 24 + 24 = (p + 1) * 24 by omega]), HM⟩
          case measure => first|(simp [intOf]; done)|(simp [intOf]; omega)
    · obtain rfl : p = n := by omega
      go_wp2
      go_ret
      exact ⟨rfl, HN.out, HM.out⟩

set_option maxRecDepth 100000 in
set_option maxHeartbeats 2000000 in
theorem markSightS_ok (A : Option Addr) (c n k0 g t : Nat) (f : Nat → Int) (w : World) (hn : n ≤ 1048576) (hk : k0 ≤ 4000000000000) (h0 : 0 < n → A = some ⟨g, 0, none⟩ ∧ NF .u8 w g t (n * 6) f) :
    Calls Try.prog 30 #[.slice A n c, .int .i64 k0] w fun e w' => e = .returned (.int .i64 (k0 + n * 6 : Nat)) ∧ (0 < n → NF .u8 w' g t (n * 6) (mk8 k0 (n * 6) · f)) ∧ Mid g (g + 1) w w' := by
  have H0 := Lib.hid h0
  clear h0
  go_enter Try.func30, Try.ntmps30
  go_wp2
  go_loopw [1, 5, 6] (fun v i u wr => ∃ p : Nat, p ≤ n ∧ i = .int .i64 p ∧ v = .int .i64 (k0 + p * 6 : Nat) ∧ Hid (0 < n → NF .u8 wr g t (n * 6) (mk8 k0 (p * 6) · f)) ∧ Hid (Mid g (g + 1) w wr)) (fun _ i _ _ => n - (intOf i).toNat)
  case atStart => exact ⟨0, Nat.zero_le _, rfl, by simp, fun h => (H0.out h).2.ext (fun i hi => by simp [mk8]), Mid.refl _ _ _⟩
  case round =>
    obtain ⟨p, hp, rfl, rfl, HN, HM⟩ := hrel
    by_cases hlt : p < n
    · have hlti : (p : Int) < (n : Int) := by omega
      obtain ⟨rfl, _⟩ := H0.out (by omega)
      have HN1 := Lib.hid (HN.out (by omega))
      clear HN
      go_wp2
      go_loopw [1, 6] (fun v u wr => ∃ j : Nat, j ≤ 6 ∧ u = .int .i64 j ∧ v = .int .i64 (k0 + (p * 6 + j) : Nat) ∧ Hid (NF .u8 wr g t (n * 6) (mk8 k0 (p * 6 + j) · f)) ∧ Hid (Mid g (g + 1) w wr)) (fun _ u _ => 6 - (intOf u).toNat)
      case atStart => exact ⟨0, Nat.zero_le _, rfl, by go_num, HN1, HM⟩
      case round =>
        clear HN1 HM
        obtain ⟨j, hj, rfl, rfl, HN, HM⟩ := hrel
        by_cases hj2 : j < 6
        · have hji : (j : Int) < 6 := by omega
          have hpos : p * 6 + j < n * 6 := by omega
          have hc := HN.out.cell hpos
          have hf := HN.out.frozen (p * 6 + j)
          generalize mk8 k0 (p * 6 + j) (p * 6 + j) f = old at hc
          go_wp2
          go_roundw
          case rel =>
            refine ⟨j + 1, by omega, by go_num, by go_num, ?_, Mid.set HM.out (by simp) (by simp) _⟩
            refine (NF.set HN.out hpos _).ext (fun i hi => ?_)
            simp only [mk8]
            by_cases e : i = p * 6 + j
            · subst e
              rw [if_pos rfl, if_pos (by omega)]
              push_cast
              rfl
            · rw [if_neg e]
              by_cases e2 : i < p * 6 + j
              · rw [if_pos e2, if_pos (by omega)]
              · rw [if_neg e2, if_neg (by omega)]
          case measure => first|(simp [intOf]; done)|(simp [intOf]; omega)
        · obtain rfl : j = 6 := by omega
          go_wp2
          go_roundw
          case rel =>
            refine ⟨p + 1, by omega, by go_num, by go_num, fun _ => HN.out.ext (fun i hi => by rw [show p * 6 + 6 = (p + 1) * 6 by omega]), HM⟩
          case measure => first|(simp [intOf]; done)|(simp [intOf]; omega)
    · obtain rfl : p = n := by omega
      go_wp2
      go_ret
      exact ⟨rfl, HN.out, HM.out⟩

end Go.Proofs.Ytjadhhnajphibaa
namespace Go.Proofs.Ytjadhhnajphibaa
open Go.RowKit Go.Proofs.YtjadhhnajphibaaW.PrintWords

theorem mk8_val {k m i : Nat} {f : Nat → Int} (h : i < m) : mk8 k m i f = (((k : Int) + i)) % 256 := by simp only [mk8, if_pos h]; push_cast; rfl
theorem mk64_val {k m i : Nat} {f : Nat → Int} (h : i < m) : mk64 k m i f = ((k : Int) + i) := by simp only [mk64, if_pos h]; push_cast; rfl

set_option maxRecDepth 100000 in
set_option maxHeartbeats 2000000 in
theorem heldSightS_ok (A : Option Addr) (c n k0 g t : Nat) (f : Nat → Int) (w : World) (hn : n ≤ 1048576) (hk : k0 ≤ 1000000000000) (h0 : 0 < n → A = some ⟨g, 0, none⟩ ∧ NF .u8 w g t (n * 6) (mk8 k0 (n * 6) · f)) :
    Calls Try.prog 31 #[.slice A n c, .int .i64 k0] w fun e w' => e = .returned (.int .i64 (k0 + n * 6 : Nat)) ∧ w' = w := by
  have H0 := Lib.hid h0
  clear h0
  go_enter Try.func31, Try.ntmps31
  go_wp2
  go_loopw [1, 5, 6] (fun v i u wr => ∃ p : Nat, p ≤ n ∧ i = .int .i64 p ∧ v = .int .i64 (k0 + p * 6 : Nat) ∧ wr = w) (fun _ i _ _ => n - (intOf i).toNat)
  case atStart => exact ⟨0, Nat.zero_le _, rfl, by simp, rfl⟩
  case round =>
    obtain ⟨p, hp, rfl, rfl, rfl⟩ := hrel
    by_cases hlt : p < n
    · have hlti : (p : Int) < (n : Int) := by omega
      obtain ⟨rfl, hn1⟩ := H0.out (by omega)
      have HN1 := Lib.hid hn1
      clear hn1
      go_wp2
      go_loopw [1, 6] (fun v u wr' => ∃ j : Nat, j ≤ 6 ∧ u = .int .i64 j ∧ v = .int .i64 (k0 + (p * 6 + j) : Nat) ∧ wr' = wr) (fun _ u _ => 6 - (intOf u).toNat)
      case atStart => exact ⟨0, Nat.zero_le _, rfl, by go_num, rfl⟩
      case round =>
        obtain ⟨j, hj, rfl, rfl, rfl⟩ := hrel
        by_cases hj2 : j < 6
        · have hji : (j : Int) < 6 := by omega
          have hpos : p * 6 + j < n * 6 := by omega
          have hc := HN1.out.cell hpos
          rw [mk8_val hpos] at hc
          push_cast at hc
          have hq : ((((k0 : Int) + (↑p * 6 + ↑j)) % 256) != (((k0 : Int) + (↑p * 6 + ↑j)) % 256)) = false := by simp
          go_wp2
          go_roundw
          case rel => exact ⟨j + 1, by omega, by go_num, by go_num, by first | rfl | trivial⟩
          case measure => first|(simp [intOf]; done)|(simp [intOf]; omega)
        · obtain rfl : j = 6 := by omega
          go_wp2
          go_roundw
          case rel => exact ⟨p + 1, by omega, by go_num, by go_num, by first | rfl | trivial⟩
          case measure => first|(simp [intOf]; done)|(simp [intOf]; omega)
    · obtain rfl : p = n := by omega
      go_wp2
      go_ret
      exact ⟨rfl, rfl⟩

set_option maxRecDepth 100000 in
set_option maxHeartbeats 2000000 in
theorem markWord_ok (A : Option Addr) (c n k0 g t : Nat) (f : Nat → Int) (w : World) (hn : n ≤ 1048576) (hk : k0 ≤ 2000000000000) (h0 : 0 < n → A = some ⟨g, 0, none⟩ ∧ NF .u8 w g t n f) :
    Calls Try.prog 118 #[.slice A n c, .int .i64 k0] w fun e w' => e = .returned (.int .i64 (k0 + n : Nat)) ∧ (NF .u8 w g t n f → NF .u8 w' g t n (mk8 k0 n · f)) ∧ Mid g (g + 1) w w' := by
  have H0 := Lib.hid h0
  clear h0
  go_enter Try.func118, Try.ntmps118
  go_wp2
  go_loopw [1, 5] (fun v i wr => ∃ p : Nat, p ≤ n ∧ i = .int .i64 p ∧ v = .int .i64 (k0 + p : Nat) ∧ Hid (NF .u8 w g t n f → NF .u8 wr g t n (mk8 k0 p · f)) ∧ Hid (Mid g (g + 1) w wr)) (fun _ i _ => n - (intOf i).toNat)
  case atStart => exact ⟨0, Nat.zero_le _, rfl, by simp, fun h => h.ext (fun i hi => by simp [mk8]), Mid.refl _ _ _⟩
  case round =>
    obtain ⟨p, hp, rfl, rfl, HN, HM⟩ := hrel
    by_cases hlt : p < n
    · have hlti : (p : Int) < (n : Int) := by omega
      obtain ⟨rfl, hnf⟩ := H0.out (by omega)
      have HN1 := Lib.hid (HN.out hnf)
      clear hnf
      clear HN
      have hc := HN1.out.cell hlt
      have hf := HN1.out.frozen p
      generalize mk8 k0 p p f = old at hc
      go_wp2
      go_roundw
      case rel =>
        refine ⟨p + 1, by omega, by go_num, by go_num, fun _ => ?_, Mid.set HM.out (by simp) (by simp) _⟩
        refine (NF.set HN1.out hlt _).ext (fun i hi => ?_)
        simp only [mk8]
        by_cases e : i = p
        · subst e
          rw [if_pos rfl, if_pos (by omega)]
          push_cast
          rfl
        · rw [if_neg e]
          by_cases e2 : i < p
          · rw [if_pos e2, if_pos (by omega)]
          · rw [if_neg e2, if_neg (by omega)]
      case measure => first|(simp [intOf]; done)|(simp [intOf]; omega)
    · obtain rfl : p = n := by omega
      go_wp2
      go_ret
      exact ⟨rfl, HN.out, HM.out⟩

set_option maxRecDepth 100000 in
set_option maxHeartbeats 2000000 in
theorem markInt64S_ok (A : Option Addr) (c n k0 g t : Nat) (f : Nat → Int) (w : World) (hn : n ≤ 1048576) (hk : k0 ≤ 2000000000000) (h0 : 0 < n → A = some ⟨g, 0, none⟩ ∧ NF .i64 w g t n f) :
    Calls Try.prog 39 #[.slice A n c, .int .i64 k0] w fun e w' => e = .returned (.int .i64 (k0 + n : Nat)) ∧ (NF .i64 w g t n f → NF .i64 w' g t n (mk64 k0 n · f)) ∧ Mid g (g + 1) w w' := by
  have H0 := Lib.hid h0
  clear h0
  go_enter Try.func39, Try.ntmps39
  go_wp2
  go_loopw [1, 5] (fun v i wr => ∃ p : Nat, p ≤ n ∧ i = .int .i64 p ∧ v = .int .i64 (k0 + p : Nat) ∧ Hid (NF .i64 w g t n f → NF .i64 wr g t n (mk64 k0 p · f)) ∧ Hid (Mid g (g + 1) w wr)) (fun _ i _ => n - (intOf i).toNat)
  case atStart => exact ⟨0, Nat.zero_le _, rfl, by simp, fun h => h.ext (fun i hi => by simp [mk64]), Mid.refl _ _ _⟩
  case round =>
    obtain ⟨p, hp, rfl, rfl, HN, HM⟩ := hrel
    by_cases hlt : p < n
    · have hlti : (p : Int) < (n : Int) := by omega
      obtain ⟨rfl, hnf⟩ := H0.out (by omega)
      have HN1 := Lib.hid (HN.out hnf)
      clear hnf
      clear HN
      have hc := HN1.out.cell hlt
      have hf := HN1.out.frozen p
      generalize mk64 k0 p p f = old at hc
      go_wp2
      go_roundw
      case rel =>
        refine ⟨p + 1, by omega, by go_num, by go_num, fun _ => ?_, Mid.set HM.out (by simp) (by simp) _⟩
        refine (NF.set HN1.out hlt _).ext (fun i hi => ?_)
        simp only [mk64]
        by_cases e : i = p
        · subst e
          rw [if_pos rfl, if_pos (by omega)]
          push_cast
          rfl
        · rw [if_neg e]
          by_cases e2 : i < p
          · rw [if_pos e2, if_pos (by omega)]
          · rw [if_neg e2, if_neg (by omega)]
      case measure => first|(simp [intOf]; done)|(simp [intOf]; omega)
    · obtain rfl : p = n := by omega
      go_wp2
      go_ret
      exact ⟨rfl, HN.out, HM.out⟩


set_option maxHeartbeats 2000000 in
theorem heldInt64S_ok (A : Option Addr) (c n k0 g t : Nat) (f : Nat → Int) (w : World) (hn : n ≤ 1048576) (hk : k0 ≤ 1000000000000) (h0 : 0 < n → A = some ⟨g, 0, none⟩ ∧ NF .i64 w g t n (mk64 k0 n · f)) :
    Calls Try.prog 40 #[.slice A n c, .int .i64 k0] w fun e w' => e = .returned (.int .i64 (k0 + n : Nat)) ∧ w' = w := by
  have H0 := Lib.hid h0
  clear h0
  go_enter Try.func40, Try.ntmps40
  go_wp2
  go_loopw [1, 5] (fun v i wr => ∃ p : Nat, p ≤ n ∧ i = .int .i64 p ∧ v = .int .i64 (k0 + p : Nat) ∧ wr = w) (fun _ i _ => n - (intOf i).toNat)
  case atStart => exact ⟨0, Nat.zero_le _, rfl, by simp, rfl⟩
  case round =>
    obtain ⟨p, hp, rfl, rfl, rfl⟩ := hrel
    by_cases hlt : p < n
    · have hlti : (p : Int) < (n : Int) := by omega
      obtain ⟨rfl, hn1⟩ := H0.out (by omega)
      have hc := NF.cell hn1 hlt
      rw [mk64_val hlt] at hc
      clear hn1
      have hq : ((((k0 : Int) + (↑p))) != (((k0 : Int) + (↑p)))) = false := by simp
      go_wp2
      go_roundw
      case rel => exact ⟨p + 1, by omega, by go_num, by go_num, by first | rfl | trivial⟩
      case measure => first|(simp [intOf]; done)|(simp [intOf]; omega)
    · obtain rfl : p = n := by omega
      go_wp2
      go_ret
      exact ⟨rfl, rfl⟩
end Go.Proofs.Ytjadhhnajphibaa
namespace Go.Proofs.Ytjadhhnajphibaa
open Go.RowKit Go.Proofs.YtjadhhnajphibaaW.PrintWords

set_option maxRecDepth 100000 in
set_option maxHeartbeats 2000000 in
theorem markWordS_ok (B gw : Nat) (bk : Nat → Nat) (ws : List (List Int)) (k0 : Nat) (w : World) (hn : ws.length ≤ 1048576) (hl : ∀ j, (rl ws j).length ≤ 1048576) (hk : k0 ≤ 100000000) (hi : Nat) (hhi : ∀ j, j < ws.length → bk j < hi) (h0 : MW w B gw bk ws ws.length) :
    Calls Try.prog 90 #[hd gw ws.length, .int .i64 k0] w fun e w' => ∃ k1 : Nat, e = .returned (.int .i64 k1) ∧ k1 ≤ k0 + ws.length * 1048576 ∧ Mid B hi w w' := by
  have H0 := Lib.hid h0
  have HL := Lib.hid hl
  have HHI := Lib.hid hhi
  clear h0 hl hhi
  go_enter Try.func90, Try.ntmps90
  go_wp2
  go_loopw [1, 5] (fun v i wr => ∃ (p k : Nat), p ≤ ws.length ∧ i = .int .i64 p ∧ v = .int .i64 k ∧ k ≤ k0 + p * 1048576 ∧ Hid (wr.heap[gw]? = some (.cells (hds bk ws ws.length).toArray 32 (0, 0))) ∧ Hid (∀ j, j < ws.length → ∃ f, NF .u8 wr (bk j) 5 (rl ws j).length f) ∧ Hid (Mid B hi w wr)) (fun _ i _ => ws.length - (intOf i).toNat)
  case atStart => exact ⟨0, k0, Nat.zero_le _, rfl, rfl, by omega, H0.out.row, fun j hj => ⟨_, (H0.out.each j hj hj).2.2.2.fn⟩, Mid.refl _ _ _⟩
  case round =>
    obtain ⟨p, k, hp, rfl, rfl, hkk, HR, HN, HM⟩ := hrel
    by_cases hlt : p < ws.length
    · have hlti : (p : Int) < (ws.length : Int) := by omega
      have hc := blk_cell HR.out p
      rw [List.getElem?_toArray, hds_get hlt, if_pos hlt] at hc
      obtain ⟨f, hf⟩ := HN.out p hlt
      have HF := Lib.hid hf
      have hq := HL.out p
      clear hf
      go_wp2_with fail
      refine (markWord_ok (some ⟨bk p, 0, none⟩) (rl ws p).length (rl ws p).length k (bk p) 5 f wr (HL.out p) (by omega) (fun _ => ⟨rfl, HF.out⟩)).mono ?_
      rintro e w1 ⟨rfl, hnf, hmid⟩
      have HE := H0.out.each p hlt hlt
      have hr2 := (hmid.block gw (blk_lt HR.out) (by omega)).trans HR.out
      have HR2 := Lib.hid hr2
      have hm2 : Mid B hi w w1 := HM.out.trans (hmid.wider HE.1 (HHI.out p hlt))
      have HM2 := Lib.hid hm2
      have hn2 : ∀ j, j < ws.length → ∃ f, NF .u8 w1 (bk j) 5 (rl ws j).length f := by
        intro j hj
        by_cases e : bk j = bk p
        · have h1 := (H0.out.each j hj hj).2.2.2
          have h2 := HE.2.2.2
          have hll : (rl ws j).length = (rl ws p).length := by
            rw [e] at h1
            have h3 := h1.symm.trans h2
            have h4 : (nums .u8 (rl ws j)).toArray = (nums .u8 (rl ws p)).toArray := by
              injection h3 with h3
              injection h3
            have h5 := congrArg Array.size h4
            simpa [nums] using h5
          rw [e, hll]
          exact ⟨_, hnf HF.out⟩
        · obtain ⟨f', hf'⟩ := HN.out j hj
          exact ⟨f', hf'.mid hmid (by omega)⟩
      have HN2 := Lib.hid hn2
      have hkb : k + (rl ws p).length ≤ k0 + (p + 1) * 1048576 := by have := HL.out p; omega
      clear hnf hmid HE hr2 hm2 hn2 HR HN HM
      go_wp2
      go_roundw
      case rel => exact ⟨p + 1, _, by omega, by go_num, rfl, hkb, HR2, HN2, HM2⟩
      case measure => first|(simp [intOf]; done)|(simp [intOf]; omega)
    · obtain rfl : p = ws.length := by omega
      go_wp2
      go_ret
      exact ⟨_, rfl, hkk, HM.out⟩
theorem MW.mid {w w1 : World} {B g : Nat} {bk : Nat → Nat} {ws : List (List Int)} {k gs : Nat} {cur : Array Value} (h : MW w B g bk ws k) (hm : Mid gs (gs + 1) w w1) (hg : w.heap[gs]? = some (.cells cur 78 (0, 0))) : MW w1 B g bk ws k := by
  have h1 : gs ≠ g := fun e => by
    have := h.row
    rw [← e, hg] at this
    injection this with this
    injection this with _ this
    exact absurd this (by decide)
  refine ⟨(hm.block g h.lt (by omega)).trans h.row, h.base, fun j hj hj' => ?_⟩
  obtain ⟨a1, a2, a3, a4⟩ := h.each j hj hj'
  have h2 : gs ≠ bk j := fun e => by
    have := a4
    unfold NB at this
    rw [← e, hg] at this
    injection this with this
    injection this with _ this
    exact absurd this (by decide)
  exact ⟨a1, Nat.lt_of_lt_of_le a2 hm.size, a3, (hm.block _ a2 (by omega)).trans a4⟩

set_option maxHeartbeats 2000000 in
theorem markCode_ok (B gs gw : Nat) (bk : Nat → Nat) (fs ws : List (List Int)) (w : World) (hf : fs.length ≤ 1048576) (hn : ws.length ≤ 1048576) (hl : ∀ j, (rl ws j).length ≤ 1048576) (hi : Nat) (hgs : gs < hi) (hhi : ∀ j, j < ws.length → bk j < hi) (h0 : MC w B gs gw bk fs ws) :
    Calls Try.prog 29 #[cv gs gw fs ws, .int .i64 1] w fun e w' => ∃ k1 : Nat, e = .returned (.int .i64 k1) ∧ k1 ≤ 1200000000000 ∧ Mid B hi w w' := by
  unfold cv
  have hb1 : Below w.heap.size w (w.alloc (.cells #[hd gs fs.length, hd gw ws.length] 46)) := below_box _ _
  have hmc := h0.below hb1
  have hbx : (w.alloc (.cells #[hd gs fs.length, hd gw ws.length] 46)).heap[w.heap.size]? = some (.cells #[hd gs fs.length, hd gw ws.length] 46 (0, 0)) := heap_alloc_new w _
  have hfl := flat_length h0.len
  have hsz : (w.alloc (.cells #[hd gs fs.length, hd gw ws.length] 46)).heap.size = w.heap.size + 1 := size_box _ _
  have hgl : gs < w.heap.size := h0.set.lt
  have HMC := Lib.hid hmc
  have HB := Lib.hid hb1
  have HX := Lib.hid hbx
  have HFL := Lib.hid hfl
  have HS := Lib.hid hsz
  have HG := Lib.hid hgl
  have HL := Lib.hid hl
  have HH := Lib.hid hhi
  have HBASE := Lib.hid h0.base
  clear hb1 hmc hbx hfl hsz hgl hl hhi h0
  go_enter Try.func29, Try.ntmps29
  go_wp2_with fail
  generalize w.alloc (.cells #[hd gs fs.length, hd gw ws.length] 46) = W0 at *
  have hset := HMC.out.set.fn
  rw [HFL.out] at hset
  refine (markFlagS_ok (some ⟨gs, 0, none⟩) fs.length fs.length 1 gs 78 _ W0 hf (by omega) (fun _ => ⟨rfl, hset⟩)).mono ?_
  rintro e w1 ⟨rfl, -, hm1⟩
  have hgl := HG.out
  have hsz := HS.out
  have HMW := Lib.hid (HMC.out.words.mid hm1 HMC.out.set)
  have hbx1 := (hm1.block w.heap.size (by omega) (by omega)).trans HX.out
  have x1 := (blk_cell hbx1 1).trans (show _ = some (hd gw ws.length) from rfl)
  have HM1 := Lib.hid ((Mid.of_below (lo := B) (hi := hi) HB.out).trans (hm1.wider HBASE.out (by omega)))
  clear hset hm1 hbx1 HX hgl hsz
  go_wp2_with fail
  refine (markWordS_ok B gw bk ws (1 + fs.length * 24) w1 hn HL.out (by omega) hi HH.out HMW.out).mono ?_
  rintro e w2 ⟨k1, rfl, hkb, hm2⟩
  have HM2 := Lib.hid (HM1.out.trans hm2)
  clear hm2
  go_wp2_with fail
  go_ret
  exact ⟨k1, rfl, by omega, HM2.out⟩
end Go.Proofs.Ytjadhhnajphibaa
namespace Go.Proofs.Ytjadhhnajphibaa
open Go.RowKit Go.Proofs.YtjadhhnajphibaaW.PrintWords

theorem sizeW_ok (A0 : Option Addr) (c0 n : Nat) (w : World) (hn : n ≤ 9223372036854775807) : Calls Try.prog 57 #[.slice A0 n c0] w fun e w' => e = .returned (.int .i64 n) ∧ w = w' := by
  go_enter Try.func57, Try.ntmps57
  go_wp2
  go_ret
  exact ⟨rfl, rfl⟩
theorem sizeU8_ok (A0 : Option Addr) (c0 n : Nat) (w : World) (hn : n ≤ 9223372036854775807) : Calls Try.prog 107 #[.slice A0 n c0] w fun e w' => e = .returned (.int .i64 n) ∧ w = w' := by
  go_enter Try.func107, Try.ntmps107
  go_wp2
  go_ret
  exact ⟨rfl, rfl⟩

set_option maxHeartbeats 2000000 in
theorem equalFuncW_ok (A0 : Option Addr) (c0 : Nat) (xss : List (List Int)) (A1 : Option Addr) (c1 : Nat) (yss : List (List Int)) (w : World)
    (h0 : (Kd.slice 5 (Kd.int .u8)).C w A0 xss.length xss) (h1 : (Kd.slice 5 (Kd.int .u8)).C w A1 yss.length yss) :
    Calls Try.prog 67 #[.slice A0 xss.length c0, .slice A1 yss.length c1, .func (.func 68) #[] #[]] w fun e w' => e = .returned (.bool (eqWB xss yss)) ∧ ∃ q, w' = w.drewN q := by
  have hm : xss.length ≤ 9223372036854775807 := h0.2.1
  have hm1 : yss.length ≤ 9223372036854775807 := h1.2.1
  have H0 := Lib.hid h0
  have H1 := Lib.hid h1
  clear h0 h1
  by_cases hl : xss.length = yss.length
  · have HL := Lib.hid hl
    have hle : xss.length ≤ yss.length := by omega
    have hlb : ((xss.length : Int) != (yss.length : Int)) = false := by simp [hl]
    clear hl
    go_enter Try.func67, Try.ntmps67
    go_wp2
    go_loopw [17] (fun i wr => ∃ k q : Nat, k ≤ xss.length ∧ i = .int .i64 k ∧ Hid (∀ j, j < k → eqB (rl xss j) (rl yss j) = true) ∧ wr = w.drewN q) (fun i _ => xss.length - (intOf i).toNat)
    case atStart => exact ⟨0, 0, Nat.zero_le _, rfl, fun j hj => absurd hj (by omega), rfl⟩
    case round =>
      obtain ⟨k, q, hk, rfl, HA, rfl⟩ := hrel
      by_cases hlt : k < xss.length
      · obtain ⟨ad0, A3, c3, rfl, hx0, hl3, hr3⟩ := at_row H0.out hlt
        obtain ⟨ad1, A4, c4, rfl, hx1, hl4, hr4⟩ := at_row H1.out (show k < yss.length by omega)
        have hlt1 : k < yss.length := by omega
        have HC := equalW_ok A3 c3 _ A4 c4 _ (w.drewN q) hr3 hr4
        clear hr3 hr4
        rcases hc : eqB (rl xss k) (rl yss k) with _ | _
        · have HS := Lib.hid (eqWB_no hlt hc)
          rw [hc] at HC
          clear hc
          go_wp2_with (go_at_call 68; refine HC.mono ?_; rintro e w' ⟨rfl, q1, rfl⟩)
          go_ret
          exact ⟨ret_bool HS.out.symm, _, rfl⟩
        · have HS := Lib.hid hc
          rw [hc] at HC
          clear hc
          go_wp2_with (go_at_call 68; refine HC.mono ?_; rintro e w' ⟨rfl, q1, rfl⟩)
          go_roundw
          case rel =>
            refine ⟨k + 1, _, by omega, by go_num, fun j hj => ?_, rfl⟩
            by_cases e : j = k
            · rw [e]; exact HS.out
            · exact HA.out j (by omega)
          case measure => first|(simp [intOf]; done)|(simp [intOf]; omega)
      · obtain rfl : k = xss.length := by omega
        have HS := Lib.hid (eqWB_yes HL.out HA.out)
        go_wp2
        go_ret
        exact ⟨ret_bool HS.out.symm, _, rfl⟩
  · have HS := Lib.hid (eqWB_len hl)
    have hlb : ((xss.length : Int) != (yss.length : Int)) = true := by simp; omega
    go_enter Try.func67, Try.ntmps67
    go_wp2
    go_ret
    exact ⟨ret_bool HS.out.symm, 0, rfl⟩

theorem SameWords_ok (A0 : Option Addr) (c0 : Nat) (xss : List (List Int)) (A1 : Option Addr) (c1 : Nat) (yss : List (List Int)) (w : World)
    (h0 : (Kd.slice 5 (Kd.int .u8)).C w A0 xss.length xss) (h1 : (Kd.slice 5 (Kd.int .u8)).C w A1 yss.length yss) :
    Calls Try.prog 15 #[.slice A0 xss.length c0, .slice A1 yss.length c1] w fun e w' => e = .returned (.bool (eqWB xss yss)) ∧ ∃ q, w' = w.drewN q := by
  have HC := equalFuncW_ok A0 c0 xss A1 c1 yss w h0 h1
  clear h0 h1
  go_enter Try.func15, Try.ntmps15
  go_wp2_with (go_at_call 67; refine HC.mono ?_; rintro e w' ⟨rfl, q1, rfl⟩)
  go_ret
  exact ⟨rfl, _, rfl⟩

/-- the lesser one of letters and 37. -/
def lim (q : Int) : Int := if q ≤ 37 then q else 37
theorem isWord1_ok (c q : Int) (hc0 : 0 ≤ c) (hc1 : c ≤ 255) (B : Nat) (w : World) (hb : w.cell? ⟨B, 0, none⟩ = some (.int .i64 q)) :
    Calls Try.prog 109 #[.int .u8 c, .pointer (some ⟨B, 0, none⟩)] w fun e w' => e = .returned (.bool (decide (lim q ≤ c))) ∧ w = w' := by
  by_cases h : q ≤ 37
  · have HS := Lib.hid (show lim q = q by simp [lim, h])
    have hi : ¬ 37 < q := by omega
    go_enter Try.func109, Try.ntmps109
    go_wp2
    go_ret
    exact ⟨ret_bool (by rw [HS.out]), rfl⟩
  · have HS := Lib.hid (show lim q = 37 by simp [lim, h])
    go_enter Try.func109, Try.ntmps109
    go_wp2
    go_ret
    exact ⟨ret_bool (by rw [HS.out]), rfl⟩

theorem wordB_any (xs : List Int) (q : Int) (h : inB xs.length 1 8 = true) : (!anyB (fun i => decide (q ≤ rn xs i)) xs.length) = wordB xs q := by
  unfold wordB
  rw [allB_not, h, Bool.true_and]
  exact allB_congr fun i _ => by rw [Bool.eq_iff_iff]; simp

set_option maxHeartbeats 1000000 in
theorem isWord_ok (A0 : Option Addr) (c0 : Nat) (xs : List Int) (q : Int) (w : World) (hx : Bytes xs) (h0 : (Kd.int .u8).C w A0 xs.length xs) :
    Calls Try.prog 75 #[.slice A0 xs.length c0, .int .i64 q] w fun e w' => e = .returned (.bool (wordB xs (lim q))) ∧ Below w.heap.size w w' := by
  have hm : xs.length ≤ 9223372036854775807 := h0.2.1
  rcases hi : inB xs.length 1 8 with _ | _
  · have HS := Lib.hid (show wordB xs (lim q) = false by simp [wordB, hi])
    clear h0 hx
    go_enter Try.func75, Try.ntmps75
    go_wp2_with (first | (go_at_call 107; refine (sizeU8_ok _ _ _ _ hm).mono ?_; rintro e w' ⟨rfl, rfl⟩) | (go_at_call 54; refine (within_ok _ _ _ _).mono ?_; rintro e w' ⟨rfl, rfl⟩))
    go_ret
    exact ⟨ret_bool HS.out.symm, below_box _ _⟩
  · have HS := Lib.hid (wordB_any xs (lim q) hi)
    have HR := Lib.hid ((raw_int h0).below (below_box w (.cells #[.int .i64 q] 2)))
    have HP : Hid (PredB Try.prog 109 #[.pointer (some ⟨w.heap.size, 0, none⟩)] xs.length (fun k => .int .u8 (rn xs k)) (fun i => decide (lim q ≤ rn xs i)) (w.alloc (.cells #[.int .i64 q] 2))) := by
      intro k W hk hb
      have hc := (hb.cell (p := ⟨w.heap.size, 0, none⟩) (by rw [size_box]; show w.heap.size < _; omega)).trans (cell_box w (.int .i64 q) 2)
      exact (isWord1_ok (rn xs k) q (hx k).1 (hx k).2 w.heap.size W hc).mono fun e w' ⟨he, hw⟩ => ⟨he, by rw [← hw]; exact Below.refl _ _⟩
    have eg : ∀ args w, (callFunc 109 args).run Try.prog w = .ok (.enter 109 args) w := enters_of Try.func109 (by kernel_rfl) rfl
    have HC := Lib.hid (containsFuncU8_ok _ _ eg A0 xs.length c0 _ _ _ HR.out HP.out)
    clear h0 hx HR HP eg
    go_enter Try.func75, Try.ntmps75
    go_wp2_with (first | (go_at_call 107; refine (sizeU8_ok _ _ _ _ hm).mono ?_; rintro e w' ⟨rfl, rfl⟩) | (go_at_call 54; refine (within_ok _ _ _ _).mono ?_; rintro e w' ⟨rfl, rfl⟩) | (go_at_call 108; refine HC.out.mono ?_; rintro e w' ⟨rfl, hb'⟩))
    go_ret
    exact ⟨ret_bool HS.out, (below_box w _).trans (hb'.mono (by rw [size_box]; omega))⟩

def WBytes (xss : List (List Int)) : Prop := ∀ i, Bytes (rl xss i)
/-- one word of a list is as it should be. -/
def oneB (xss : List (List Int)) (q : Int) (i : Nat) : Bool := wordB (rl xss i) q && decide ((rl xss i).length = (rl xss 0).length)

set_option maxHeartbeats 1000000 in
theorem areWords1_ok (A0 : Option Addr) (c0 : Nat) (xss : List (List Int)) (k : Nat) (q : Int) (A1 : Option Addr) (n c1 : Nat) (B1 B2 : Nat) (w : World) (hx : WBytes xss)
    (h0 : (Kd.int .u8).C w A0 (rl xss k).length (rl xss k)) (hB1 : B1 < w.heap.size) (hB2 : B2 < w.heap.size) (hb1 : w.cell? ⟨B1, 0, none⟩ = some (.int .i64 q)) (hb2 : w.cell? ⟨B2, 0, none⟩ = some (.slice A1 n c1)) (h1 : (Kd.slice 5 (Kd.int .u8)).C w A1 n xss) (hn : 0 < n) :
    Calls Try.prog 126 #[.slice A0 (rl xss k).length c0, .pointer (some ⟨B1, 0, none⟩), .pointer (some ⟨B2, 0, none⟩)] w fun e w' => e = .returned (.bool (!oneB xss (lim q) k)) ∧ Below w.heap.size w w' := by
  have hm : (rl xss k).length ≤ 9223372036854775807 := h0.2.1
  have HC := Lib.hid (isWord_ok A0 c0 _ q w (hx k) h0)
  obtain ⟨ad, A2, c2, rfl, hx0, hl2, hr2⟩ := at_row h1 hn
  rw [Addr.add_zero'] at hx0
  have hm2 : (rl xss 0).length ≤ 9223372036854775807 := hr2.2.1
  have hh := World.block_lt_of_cell? w ad hx0
  clear hr2 h0 h1 hx
  rcases hc : wordB (rl xss k) (lim q) with _ | _
  · have HS := Lib.hid (show (!oneB xss (lim q) k) = true by simp [oneB, hc])
    rw [hc] at HC
    clear hc
    go_enter Try.func126, Try.ntmps126
    go_wp2_with (go_at_call 75; refine HC.out.mono ?_; rintro e w' ⟨rfl, hb'⟩)
    go_ret
    exact ⟨ret_bool HS.out.symm, hb'⟩
  · rw [hc] at HC
    have hni : (0 : Int) < (n : Int) := by omega
    by_cases hl : (rl xss k).length = (rl xss 0).length
    · have HS := Lib.hid (show (!oneB xss (lim q) k) = false by simp [oneB, hc, hl])
      have hlb : (((rl xss k).length : Int) != ((rl xss 0).length : Int)) = false := by simp [hl]
      clear hc hl
      go_enter Try.func126, Try.ntmps126
      go_wp2_with (go_at_call 75; refine HC.out.mono ?_; rintro e w' ⟨rfl, hb'⟩; have hb2' := (hb'.cell (p := ⟨B2, 0, none⟩) hB2).trans hb2; have hx0' := (hb'.cell (p := ad) hh).trans hx0)
      go_ret
      exact ⟨ret_bool HS.out.symm, hb'⟩
    · have HS := Lib.hid (show (!oneB xss (lim q) k) = true by simp [oneB, hc, hl])
      have hlb : (((rl xss k).length : Int) != ((rl xss 0).length : Int)) = true := by simp; omega
      clear hc hl
      go_enter Try.func126, Try.ntmps126
      go_wp2_with (go_at_call 75; refine HC.out.mono ?_; rintro e w' ⟨rfl, hb'⟩; have hb2' := (hb'.cell (p := ⟨B2, 0, none⟩) hB2).trans hb2; have hx0' := (hb'.cell (p := ad) hh).trans hx0)
      go_ret
      exact ⟨ret_bool HS.out.symm, hb'⟩

set_option maxHeartbeats 1000000 in
theorem areWords_ok (A0 : Option Addr) (c0 : Nat) (xss : List (List Int)) (q : Int) (w : World) (hx : WBytes xss) (h0 : (Kd.slice 5 (Kd.int .u8)).C w A0 xss.length xss) :
    Calls Try.prog 98 #[.slice A0 xss.length c0, .int .i64 q] w fun e w' => e = .returned (.bool (wordsB xss (lim q))) ∧ Below w.heap.size w w' := by
  have hm : xss.length ≤ 9223372036854775807 := h0.2.1
  have h2 : Below w.heap.size w ((w.alloc (.cells #[.slice A0 xss.length c0] 25)).alloc (.cells #[.int .i64 q] 2)) := (below_box _ _).trans ((below_box _ _).mono (by rw [size_box]; omega))
  obtain ⟨ac, hraw, hrow⟩ := raw_row (C_below' h0 h2)
  have HP : PredB Try.prog 126 #[.pointer (some ⟨w.heap.size + 1, 0, none⟩), .pointer (some ⟨w.heap.size, 0, none⟩)] xss.length (fun k => .slice (ac k).1 (rl xss k).length (ac k).2) (fun i => !oneB xss (lim q) i) ((w.alloc (.cells #[.slice A0 xss.length c0] 25)).alloc (.cells #[.int .i64 q] 2)) := by
    intro k W hk hb
    have hsz : ((w.alloc (.cells #[.slice A0 xss.length c0] 25)).alloc (.cells #[.int .i64 q] 2)).heap.size = w.heap.size + 2 := by rw [size_box, size_box]
    have hc0 := cell_box (w.alloc (.cells #[.slice A0 xss.length c0] 25)) (.int .i64 q) 2
    rw [size_box] at hc0
    have hc1 := (hb.cell (p := ⟨w.heap.size + 1, 0, none⟩) (by rw [hsz]; show w.heap.size + 1 < _; omega)).trans hc0
    have hc2 := (hb.cell (p := ⟨w.heap.size, 0, none⟩) (by rw [hsz]; show w.heap.size < _; omega)).trans ((World.cell?_alloc_lt _ _ _ (by rw [size_box]; show w.heap.size < _; omega)).trans (cell_box w (.slice A0 xss.length c0) 25))
    have hsW : w.heap.size + 2 ≤ W.heap.size := by rw [← hsz]; exact hb.size
    exact areWords1_ok _ _ xss k q A0 xss.length c0 _ _ W hx (C_below' (hrow k hk).2 hb) (by omega) (by omega) hc1 hc2 (C_below' (C_below' h0 h2) hb) (by omega)
  have eg : ∀ args w, (callFunc 126 args).run Try.prog w = .ok (.enter 126 args) w := enters_of Try.func126 (by kernel_rfl) rfl
  have HC := Lib.hid (containsFuncW_ok _ _ eg A0 xss.length c0 _ _ _ hraw HP)
  have HS := Lib.hid (show (!anyB (fun i => !oneB xss (lim q) i) xss.length) = wordsB xss (lim q) by rw [allB_not]; exact allB_congr fun i _ => by rw [Bool.not_not]; rfl)
  have H2 := Lib.hid h2
  clear h0 hx HP eg hraw hrow h2
  go_enter Try.func98, Try.ntmps98
  go_wp2_with (go_at_call 58; refine HC.out.mono ?_; rintro e w' ⟨rfl, hb'⟩)
  go_ret
  exact ⟨ret_bool HS.out, H2.out.trans (hb'.mono (H2.out.size))⟩

def ret2 (a : Int) (c : Int) : Ending := .returned (.tuple #[.int .i64 a, .int .i64 c])
theorem ret2_eq {a b c d : Int} (h1 : a = b) (h2 : c = d) : Ending.returned (.tuple #[.int .i64 a, .int .i64 c]) = .returned (.tuple #[.int .i64 b, .int .i64 d]) := by rw [h1, h2]
/-- in how many letters two words differ, and the code. -/
def lettersV (xs ys : List Int) : Int × Int := if wordB xs 37 && wordB ys 37 then (if xs.length = ys.length then ((diffs xs ys : Nat), 0) else (0, 2)) else (0, 1)
theorem lim37 : lim 37 = 37 := rfl

set_option maxHeartbeats 2000000 in
theorem LettersApart_ok (A0 : Option Addr) (c0 : Nat) (xs : List Int) (A1 : Option Addr) (c1 : Nat) (ys : List Int) (w : World) (hx : Bytes xs) (hy : Bytes ys)
    (h0 : (Kd.int .u8).C w A0 xs.length xs) (h1 : (Kd.int .u8).C w A1 ys.length ys) :
    Calls Try.prog 20 #[.slice A0 xs.length c0, .slice A1 ys.length c1] w fun e w' => e = .returned (.tuple #[.int .i64 (lettersV xs ys).1, .int .i64 (lettersV xs ys).2]) ∧ Below w.heap.size w w' := by
  have hm : xs.length ≤ 9223372036854775807 := h0.2.1
  have hm1 : ys.length ≤ 9223372036854775807 := h1.2.1
  have HC0 := isWord_ok A0 c0 xs 37 w hx h0
  rw [lim37] at HC0
  have HC1 : Hid (∀ W, Below w.heap.size w W → Calls Try.prog 75 #[.slice A1 ys.length c1, .int .i64 37] W fun e w' => e = .returned (.bool (wordB ys 37)) ∧ Below W.heap.size W w') := fun W hb => isWord_ok A1 c1 ys 37 W hy (C_below' h1 hb)
  have HR0 := Lib.hid h0
  have HR1 := Lib.hid h1
  clear h0 h1 hx hy
  rcases hc0 : wordB xs 37 with _ | _
  · have HS := Lib.hid (show lettersV xs ys = (0, 1) by simp [lettersV, hc0])
    rw [hc0] at HC0
    have HC0' := Lib.hid HC0
    clear hc0 HC0
    go_enter Try.func20, Try.ntmps20
    go_wp2_with fail
    refine HC0'.out.mono ?_; rintro e w1 ⟨rfl, hb1⟩
    go_wp2_with fail
    go_ret2
    exact ⟨by rw [HS.out]; rfl, hb1⟩
  · rw [hc0] at HC0
    have HC0' := Lib.hid HC0
    clear HC0
    rcases hc1 : wordB ys 37 with _ | _
    · have HS := Lib.hid (show lettersV xs ys = (0, 1) by simp [lettersV, hc1])
      rw [hc1] at HC1
      clear hc1 hc0
      go_enter Try.func20, Try.ntmps20
      go_wp2_with fail
      refine HC0'.out.mono ?_; rintro e w1 ⟨rfl, hb1⟩
      go_wp2_with fail
      refine (HC1.out _ hb1).mono ?_; rintro e w2 ⟨rfl, hb2⟩
      go_wp2_with fail
      go_ret2
      exact ⟨by rw [HS.out]; rfl, hb1.trans (hb2.mono hb1.size)⟩
    · rw [hc1] at HC1
      by_cases hl : xs.length = ys.length
      · have HS := Lib.hid (show lettersV xs ys = (((diffs xs ys : Nat) : Int), 0) by simp [lettersV, hc1, hc0, hl])
        have hlb : ((xs.length : Int) != (ys.length : Int)) = false := by simp [hl]
        have HU : Hid (∀ W, Below w.heap.size w W → Calls Try.prog 60 #[.slice A0 xs.length c0, .slice A1 ys.length c1] W fun e w' => e = .returned (.int .i64 (diffs xs ys)) ∧ W = w') := fun W hb => unlike_ok A0 c0 xs A1 c1 ys W (C_below' HR0.out hb) (C_below' HR1.out hb) (by omega)
        clear hc1 hc0 hl
        go_enter Try.func20, Try.ntmps20
        go_wp2_with fail
        refine HC0'.out.mono ?_; rintro e w1 ⟨rfl, hb1⟩
        go_wp2_with fail
        refine (HC1.out _ hb1).mono ?_; rintro e w2 ⟨rfl, hb2⟩
        have hb3 := Lib.hid (hb1.trans (hb2.mono hb1.size))
        clear hb1 hb2
        go_wp2_with fail
        refine (HU.out _ hb3.out).mono ?_; rintro e w3 ⟨rfl, rfl⟩
        go_wp2_with fail
        go_ret2
        exact ⟨by rw [HS.out]; rfl, hb3.out⟩
      · have HS := Lib.hid (show lettersV xs ys = (0, 2) by simp [lettersV, hc1, hc0, hl])
        have hlb : ((xs.length : Int) != (ys.length : Int)) = true := by simp; omega
        clear hc1 hc0 hl
        go_enter Try.func20, Try.ntmps20
        go_wp2_with fail
        refine HC0'.out.mono ?_; rintro e w1 ⟨rfl, hb1⟩
        go_wp2_with fail
        refine (HC1.out _ hb1).mono ?_; rintro e w2 ⟨rfl, hb2⟩
        go_wp2_with fail
        go_ret2
        exact ⟨by rw [HS.out]; rfl, hb1.trans (hb2.mono hb1.size)⟩
end Go.Proofs.Ytjadhhnajphibaa
