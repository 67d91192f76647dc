/- The source of choices: what it gives lies in its range; its own block alone turns. -/
import Derived.Test.YtjadhhnajphibaaB2
import Derived.Test.YtjadhhnajphibaaW2
import Derived.Test.YtjadhhnajphibaaW4
set_option linter.unusedVariables false
set_option linter.unusedSimpArgs false
namespace Go.Proofs.Ytjadhhnajphibaa
open Go.RowKit Go.Proofs.YtjadhhnajphibaaW.PrintWords

/-- a source at block g: made behind w0, its bytes came in by w0, at most n have been asked for. -/
def Src (w0 w : World) (g n : Nat) : Prop := ∃ (A : Option Addr) (c : Nat) (xs : List Int) (at_ : Nat) (seed : Int),
  w.heap[g]? = some (.cells #[.slice A xs.length c, .int .i64 at_, .int .u64 seed] 128 (0, 0)) ∧ w0.heap.size ≤ g ∧ (Kd.int .u8).C w0 A xs.length xs ∧ Bytes xs ∧ at_ ≤ n
theorem Src.grown {w0 w w1 : World} {g n : Nat} {row : Option Nat} (h : Src w0 w g n) (hg : w.grownBy w1 row) (hne : some g ≠ row) : Src w0 w1 g n := by
  obtain ⟨A, c, xs, at_, seed, hb, h⟩ := h
  exact ⟨A, c, xs, at_, seed, blk_grown hb hg hne, h⟩
theorem Src.below {w0 w w1 : World} {g n : Nat} (h : Src w0 w g n) (hb : Below w.heap.size w w1) : Src w0 w1 g n := h.grown (grown_of_below hb none) (by simp)
theorem Src.more {w0 w : World} {g n m : Nat} (h : Src w0 w g n) (hm : n ≤ m) : Src w0 w g m := by
  obtain ⟨A, c, xs, at_, seed, h1, h2, h3, h4, h5⟩ := h
  exact ⟨A, c, xs, at_, seed, h1, h2, h3, h4, by omega⟩
theorem Src.lt {w0 w : World} {g n : Nat} (h : Src w0 w g n) : g < w.heap.size := by
  obtain ⟨A, c, xs, at_, seed, h1, _⟩ := h
  exact blk_lt h1
theorem Src.ge {w0 w : World} {g n : Nat} (h : Src w0 w g n) : w0.heap.size ≤ g := by
  obtain ⟨A, c, xs, at_, seed, _, h1, _⟩ := h
  exact h1
theorem own_ne_src {w0 w : World} {g n : Nat} {base e size m : Nat} {v : Value} {xs : List Value} (h : Src w0 w g n) (ho : w.ownsRow base e size v m xs) (he : e ≠ 128) : v.ownBlock ≠ some g := by
  obtain ⟨A, c, ys, at_, seed, h1, _⟩ := h
  intro hk
  obtain ⟨cells, hc⟩ := own_typed ho g hk
  rw [hc] at h1
  injection h1 with h1
  injection h1 with _ h1
  exact he h1
theorem and255 (x : Int) : 0 ≤ bits .and .u64 x 255 ∧ bits .and .u64 x 255 ≤ 255 := by
  have h : bits .and .u64 x 255 = IntKind.u64.wrap ((BitVec.ofInt 64 x &&& BitVec.ofInt 64 255).toNat : Int) := rfl
  have h2 : (BitVec.ofInt 64 x &&& BitVec.ofInt 64 255).toNat ≤ 255 := by
    rw [BitVec.toNat_and]
    exact Nat.and_le_right
  rw [h, IntKind.wrap_u64]
  omega
theorem wrap_small {x : Int} (h : 0 ≤ x ∧ x ≤ 255) : 0 ≤ wrap64 x ∧ wrap64 x ≤ 255 := by
  unfold wrap64
  omega
theorem grown_set (w : World) (g i : Nat) (v : Value) : w.grownBy (w.setCell ⟨g, i, none⟩ v) (some g) :=
  ⟨rfl, rfl, rfl, by simp [World.setCell], fun k _ hne => Below.heap_setCell w ⟨g, i, none⟩ v k (fun e => hne (by rw [e]))⟩
theorem grown_drew (w : World) (n : Nat) (row : Option Nat) : w.grownBy (w.drewN n) row := ⟨rfl, rfl, rfl, Nat.le_refl _, fun _ _ _ => rfl⟩
theorem src_after {w0 w : World} {g n : Nat} {A : Option Addr} {c : Nat} {xs : List Int} {at_ : Nat} {seed : Int} (hg : w.heap[g]? = some (.cells #[.slice A xs.length c, .int .i64 at_, .int .u64 seed] 128 (0, 0))) (hge : w0.heap.size ≤ g) (hC : (Kd.int .u8).C w0 A xs.length xs) (hB : Bytes xs) (hat : at_ ≤ n) (n1 n2 : Nat) (s2 : Int) :
    Src w0 ((((w.drewN n1).setCell ⟨g, 1, none⟩ (.int .i64 ((at_ : Int) + 1))).setCell ⟨g, 2, none⟩ (.int .u64 s2)).drewN n2) g (n + 1) ∧ w.grownBy ((((w.drewN n1).setCell ⟨g, 1, none⟩ (.int .i64 ((at_ : Int) + 1))).setCell ⟨g, 2, none⟩ (.int .u64 s2)).drewN n2) (some g) := by
  constructor
  · refine ⟨A, c, xs, at_ + 1, s2, ?_, hge, hC, hB, by omega⟩
    have h1 := blk_set (blk_drewN hg n1) 1 (.int .i64 ((at_ : Int) + 1))
    have h2 := blk_set h1 2 (.int .u64 s2)
    have h3 := blk_drewN h2 n2
    simpa using h3
  · exact (((grown_drew w n1 _).trans (grown_set _ g 1 _)).trans (grown_set _ g 2 _)).trans (grown_drew _ n2 _)

set_option maxHeartbeats 2000000 in
theorem next_ok (w0 w : World) (g n : Nat) (hn : n ≤ 1000000000000000) (hs : Src w0 w g n) (hb : Below w0.heap.size w0 w) :
    Calls Try.prog 104 #[.pointer (some ⟨g, 0, none⟩)] w fun e w' => ∃ b : Int, e = .returned (.int .i64 b) ∧ 0 ≤ b ∧ b ≤ 255 ∧ Src w0 w' g (n + 1) ∧ w.grownBy w' (some g) := by
  obtain ⟨A, c, xs, at_, seed, hg, hge, hC, hB, hat⟩ := hs
  have hm : xs.length ≤ 9223372036854775807 := hC.2.1
  have hc0 : w.cell? ⟨g, 0, none⟩ = some (.slice A xs.length c) := (blk_cell hg 0).trans rfl
  have hc1 : w.cell? ⟨g, 1, none⟩ = some (.int .i64 at_) := (blk_cell hg 1).trans rfl
  have hc2 : w.cell? ⟨g, 2, none⟩ = some (.int .u64 seed) := (blk_cell hg 2).trans rfl
  have hf1 := blk_frozen hg 1
  have hf2 := blk_frozen hg 2
  have HG := Lib.hid hg
  have HC := Lib.hid hC
  have HBY := Lib.hid hB
  clear hg hC hB
  by_cases hlt : at_ < xs.length
  · obtain ⟨ad, rfl, hx⟩ := at_nat (C_below' HC.out hb) hlt
    obtain ⟨hb0, hb1⟩ := HBY.out at_
    have hlti : (at_ : Int) < (xs.length : Int) := by omega
    have hle : (at_ : Int) + 1 ≤ (xs.length : Int) := by omega
    clear hb
    go_enter Try.func104, Try.ntmps104
    go_wp2
    go_quiet (fail)
    go_wp2
    go_quiet (fail)
    go_wp2
    go_quiet (fail)
    go_wp2
    go_ret
    obtain ⟨h1, h2⟩ := src_after (n := n) HG.out hge HC.out HBY.out hat _ _ _
    exact ⟨_, rfl, hb0, hb1, h1, h2⟩
  · have hlti : ¬ (at_ : Int) < (xs.length : Int) := by omega
    have hle : ¬ (at_ : Int) + 1 ≤ (xs.length : Int) := by omega
    clear hb
    go_enter Try.func104, Try.ntmps104
    go_wp2
    go_quiet (fail)
    go_wp2
    go_quiet (fail)
    go_wp2
    go_ret
    obtain ⟨h1, h2⟩ := src_after (n := n) HG.out hge HC.out HBY.out hat _ _ _
    obtain ⟨h3, h4⟩ := wrap_small (and255 _)
    exact ⟨_, rfl, h3, h4, h1, h2⟩

theorem grown_below {w0 w w1 : World} {row : Option Nat} (hb : Below w0.heap.size w0 w) (hg : w.grownBy w1 row) (hr : ∀ k, row = some k → w0.heap.size ≤ k) : Below w0.heap.size w0 w1 := hb.grown hg hb.size hr

set_option maxHeartbeats 2000000 in
theorem pick_ok (w0 w : World) (g n : Nat) (m : Int) (hm : m ≤ 9223372036854775807) (hn : n ≤ 100000000000000) (hs : Src w0 w g n) (hb : Below w0.heap.size w0 w) :
    Calls Try.prog 50 #[.pointer (some ⟨g, 0, none⟩), .int .i64 m] w fun e w' => ∃ r : Int, e = .returned (.int .i64 r) ∧ 0 ≤ r ∧ (1 < m → r < m) ∧ (m ≤ 1 → r = 0) ∧ Src w0 w' g (n + 2) ∧ w.grownBy w' (some g) := by
  have HS := Lib.hid hs
  have HB := Lib.hid hb
  have hge : w0.heap.size ≤ g := hs.ge
  clear hs hb
  by_cases h1 : m ≤ 1
  · have H1 := Lib.hid h1
    go_enter Try.func50, Try.ntmps50
    go_wp2
    go_ret
    exact ⟨0, rfl, by omega, fun h => by have := H1.out; omega, fun _ => rfl, HS.out.more (by omega), World.grownBy.refl _ _⟩
  · by_cases h2 : 200 < m
    · have H1 := Lib.hid h1
      go_enter Try.func50, Try.ntmps50
      go_wp2_with fail
      refine (next_ok w0 w g n (by omega) HS.out HB.out).mono ?_
      rintro e w1 ⟨b, rfl, hb0, hb1, hs1, hg1⟩
      have HS1 := Lib.hid hs1
      have HG1 := Lib.hid hg1
      have HB1 := Lib.hid (grown_below HB.out hg1 (by intro k hk; injection hk with hk; omega))
      clear hs1 hg1
      go_wp2_with fail
      refine (next_ok w0 w1 g (n + 1) (by omega) HS1.out HB1.out).mono ?_
      rintro e w2 ⟨b2, rfl, hb2, hb3, hs2, hg2⟩
      have HS2 := Lib.hid hs2
      have HG2 := Lib.hid (HG1.out.trans hg2)
      clear hs2 hg2
      have hr0 : 0 ≤ (b * 256 + b2) % m := Int.emod_nonneg _ (by omega)
      have hr1 : (b * 256 + b2) % m < m := Int.emod_lt_of_pos _ (by omega)
      go_wp2
      go_ret
      exact ⟨_, rfl, hr0, fun _ => hr1, fun h => absurd H1.out (by omega), HS2.out, HG2.out⟩
    · have H1 := Lib.hid h1
      go_enter Try.func50, Try.ntmps50
      go_wp2_with fail
      refine (next_ok w0 w g n (by omega) HS.out HB.out).mono ?_
      rintro e w1 ⟨b, rfl, hb0, hb1, hs1, hg1⟩
      have HS1 := Lib.hid hs1
      have HG1 := Lib.hid hg1
      clear hs1 hg1
      have hr0 : 0 ≤ b % m := Int.emod_nonneg _ (by omega)
      have hr1 : b % m < m := Int.emod_lt_of_pos _ (by omega)
      go_wp2
      go_ret
      exact ⟨_, rfl, hr0, fun _ => hr1, fun h => absurd H1.out (by omega), HS1.out.more (by omega), HG1.out⟩

set_option maxHeartbeats 1000000 in
theorem l00From_ok (w0 w : World) (A : Option Addr) (c : Nat) (xs : List Int) (hC : (Kd.int .u8).C w0 A xs.length xs) (hx : Bytes xs) (hb : Below w0.heap.size w0 w) :
    Calls Try.prog 49 #[.slice A xs.length c] w fun e w' => ∃ g : Nat, e = .returned (.pointer (some ⟨g, 0, none⟩)) ∧ Src w0 w' g 0 ∧ Below w.heap.size w w' ∧ w.heap.size ≤ g := by
  have HC := Lib.hid hC
  have HX := Lib.hid hx
  have HB := Lib.hid hb
  clear hC hx hb
  go_enter Try.func49, Try.ntmps49
  go_wp2
  go_ret
  refine ⟨w.heap.size, rfl, ⟨A, c, xs, 0, 0, ?_, HB.out.size, HC.out, HX.out, by omega⟩, below_box _ _, Nat.le_refl _⟩
  exact heap_alloc_new w _

set_option maxHeartbeats 1000000 in
theorem P6Pick_ok (w : World) (A : Option Addr) (c : Nat) (xs : List Int) (m : Int) (hm : m ≤ 9223372036854775807) (hC : (Kd.int .u8).C w A xs.length xs) (hx : Bytes xs) :
    Calls Try.prog 10 #[.slice A xs.length c, .int .i64 m] w fun e w' => ∃ r : Int, e = .returned (.int .i64 r) ∧ 0 ≤ r ∧ (1 < m → r < m) ∧ (m ≤ 1 → r = 0) ∧ Below w.heap.size w w' := by
  have HF := Lib.hid (l00From_ok w w A c xs hC hx (Below.refl _ _))
  clear hC hx
  go_enter Try.func10, Try.ntmps10
  go_wp2_with fail
  refine HF.out.mono ?_
  rintro e w1 ⟨g, rfl, hs, hb, hge⟩
  have HB := Lib.hid hb
  have HP := Lib.hid (pick_ok w w1 g 0 m hm (by omega) hs hb)
  clear hs hb
  go_wp2_with fail
  refine HP.out.mono ?_
  rintro e w2 ⟨r, rfl, h0, h1, h2, hs2, hg2⟩
  have H1 := Lib.hid h1
  have H2 := Lib.hid h2
  have HB2 := Lib.hid (grown_below HB.out hg2 (by intro k hk; injection hk with hk; omega))
  clear h1 h2 hs2 hg2
  go_wp2_with fail
  go_ret
  exact ⟨r, rfl, h0, H1.out, H2.out, HB2.out⟩
end Go.Proofs.Ytjadhhnajphibaa
