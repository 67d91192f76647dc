/- Words that are drawn. -/
import Derived.Test.YtjadhhnajphibaaS1
set_option linter.unusedVariables false
set_option linter.unusedSimpArgs false
namespace Go.Proofs.Ytjadhhnajphibaa
open Go.RowKit Go.Proofs.YtjadhhnajphibaaW.PrintWords

theorem f6big_ok (A : Option Addr) (c n : Nat) (w : World) (hn : n ≤ 9223372036854775807) : Calls Try.prog 9 #[.slice A n c] w fun e w' => e = .returned (.bool (decide (4096 < n))) ∧ w = w' := by
  go_enter Try.func9, Try.ntmps9
  go_wp2
  go_ret
  exact ⟨ret_bool (by rw [Bool.eq_iff_iff]; simp; omega), rfl⟩

theorem rn_snoc_lt {xs : List Int} {y : Int} {i : Nat} (h : i < xs.length) : rn (xs ++ [y]) i = rn xs i := by simp [rn, List.getD_eq_getElem?_getD, List.getElem?_append_left h]
theorem rn_snoc_eq (xs : List Int) (y : Int) : rn (xs ++ [y]) xs.length = y := by simp [rn, List.getD_eq_getElem?_getD]
theorem rn_out {xs : List Int} {i : Nat} (h : xs.length ≤ i) : rn xs i = 0 := by simp [rn, List.getD_eq_getElem?_getD, List.getElem?_eq_none h]
/-- letters from 0 on that are less than q. -/
def Lets (xs : List Int) (q : Int) : Prop := ∀ i, i < xs.length → 0 ≤ rn xs i ∧ rn xs i < q
theorem Lets.snoc {xs : List Int} {q y : Int} (h : Lets xs q) (h0 : 0 ≤ y) (h1 : y < q) : Lets (xs ++ [y]) q := by
  intro i hi
  by_cases e : i < xs.length
  · rw [rn_snoc_lt e]; exact h i e
  · have : i = xs.length := by simp at hi; omega
    subst this
    rw [rn_snoc_eq]
    exact ⟨h0, h1⟩
theorem Lets.bytes {xs : List Int} {q : Int} (h : Lets xs q) (hq : q ≤ 256) : Bytes xs := by
  intro i
  by_cases e : i < xs.length
  · have := h i e; omega
  · rw [rn_out (by omega)]; omega

set_option maxHeartbeats 2000000 in
theorem l05Spelled_ok (w0 w : World) (g n : Nat) (q : Int) (m : Nat) (hq : 1 ≤ q) (hq' : q ≤ 256) (hm : m ≤ 1000000) (hn : n ≤ 10000000000) (hs : Src w0 w g n) (hb : Below w0.heap.size w0 w) :
    Calls Try.prog 72 #[.pointer (some ⟨g, 0, none⟩), .int .i64 q, .int .i64 m] w fun e w' => ∃ v xs, e = .returned v ∧ xs.length = m ∧ Lets xs q ∧ w'.ownsRow w.heap.size 5 1 v m (nums .u8 xs) ∧ Src w0 w' g (n + 2 * m) ∧ w.grownBy w' (some g) := by
  have HS := Lib.hid hs
  have HB := Lib.hid hb
  have hge : w0.heap.size ≤ g := hs.ge
  have hlt0 : g < w.heap.size := hs.lt
  clear hs hb
  go_enter Try.func72, Try.ntmps72
  go_wp2
  have hR0 : (w.alloc (.cells #[] 5)).ownsRow w.heap.size 5 1 (.slice (some ⟨w.heap.size, 0, none⟩) 0 0) ([] : List Int).length (nums .u8 []) :=
    ⟨rfl, .inr ⟨_, 0, #[], rfl, Nat.le_refl _, heap_alloc_new _ _, Nat.le_refl _, Nat.zero_le _, rfl, rfl⟩⟩
  have HR0 := Lib.hid hR0
  have HS0 := Lib.hid (HS.out.below (below_box w (.cells #[] 5)))
  have HG0 := Lib.hid (World.grownBy_alloc w (.cells #[] 5) (some g))
  clear hR0
  generalize w.alloc (.cells #[] 5) = W0 at *
  go_loopw [7, 8] (fun v i wr => ∃ (xs : List Int) (k : Nat), k = xs.length ∧ k ≤ m ∧ i = .int .i64 k ∧ Hid (Lets xs q) ∧ Hid (wr.ownsRow w.heap.size 5 1 v xs.length (nums .u8 xs)) ∧ Hid (Src w0 wr g (n + 2 * k)) ∧ Hid (w.grownBy wr (some g))) (fun _ i _ => m - (intOf i).toNat)
  case atStart => exact ⟨[], 0, rfl, Nat.zero_le _, rfl, fun i hi => absurd hi (by simp), HR0, HS0, HG0⟩
  case round =>
    clear HR0 HS0 HG0
    obtain ⟨xs, k, hk, hkm, rfl, HL, HO, HSr, HG⟩ := hrel
    have HK := Lib.hid hk
    clear hk
    have hsz : w.heap.size ≤ wr.heap.size := HG.out.size
    have HBr := Lib.hid (grown_below HB.out HG.out (by intro j hj; injection hj with hj; omega))
    by_cases hlt : k < m
    · have hlti : (k : Int) < (m : Int) := by omega
      go_wp2_with fail
      refine (pick_ok w0 wr g (n + 2 * k) q (by omega) (by omega) HSr.out HBr.out).mono ?_
      rintro e w1 ⟨r, rfl, hr0, hr1, hr2, hs1, hg1⟩
      have hrq : r < q := by
        by_cases h1 : 1 < q
        · exact hr1 h1
        · have := hr2 (by omega); omega
      have HS1 := Lib.hid hs1
      have HG1 := Lib.hid (HG.out.trans hg1)
      have hne := own_ne_src HSr.out HO.out (by decide)
      have HO1 := Lib.hid (own_other HO.out hg1 (.inr hne))
      have hsz1 : w.heap.size ≤ w1.heap.size := Nat.le_trans hsz hg1.size
      clear hr1 hr2 hs1 hg1 hne
      have hlen : xs.length ≤ 1000000 := by have := HK.out; omega
      go_wp2_with (at_builtin; refine print_append_num (w0 := w1) (W := w1) w.heap.size rfl (.tmp 15) (.tmp 20) 32 5 .u8 1 rfl Try.underlying32 uinfo_u8 (by omega) _ xs r rfl rfl HO1.out (Below.refl _ _) hsz1 (by omega) ?_; intro v2 w2 hO2 hb2 hg2 hat2)
      go_roundw
      case rel =>
        have hs2 := (HS1.out.grown hg2 (fun e => own_ne_src HS1.out HO1.out (by decide) e.symm)).more (m := n + 2 * (k + 1)) (by omega)
        refine ⟨xs ++ [r], k + 1, by rw [List.length_append, ← HK.out]; rfl, by omega, by go_num, HL.out.snoc hr0 hrq, hO2, hs2, ?_⟩
        have hg1 := HG1.out
        refine ⟨hg2.os.trans hg1.os, hg2.tape.trans hg1.tape, hg2.output.trans hg1.output, Nat.le_trans hg1.size hg2.size, fun j hj hne => ?_⟩
        rw [hg2.block j (Nat.lt_of_lt_of_le hj hg1.size) (fun e => by have := own_base HO1.out j e.symm; omega)]
        exact hg1.block j hj hne
      case measure => first|(simp [intOf]; done)|(simp [intOf]; omega)
    · have HKM := Lib.hid (show xs.length = m by have := HK.out; omega)
      go_wp2
      go_ret
      refine ⟨_, xs, rfl, HKM.out, HL.out, ?_, HSr.out.more (by have := HK.out; have := HKM.out; omega), HG.out⟩
      have := HO.out
      rwa [HKM.out] at this

set_option maxHeartbeats 1000000 in
theorem P6Word_ok (w : World) (A : Option Addr) (c : Nat) (xs : List Int) (q : Int) (m : Nat) (hq : 1 ≤ q) (hq' : q ≤ 256) (hm : m ≤ 1000000) (hC : (Kd.int .u8).C w A xs.length xs) (hx : Bytes xs) :
    Calls Try.prog 17 #[.slice A xs.length c, .int .i64 q, .int .i64 m] w fun e w' => ∃ v ys, e = .returned v ∧ ys.length = m ∧ Lets ys q ∧ w'.ownsRow w.heap.size 5 1 v m (nums .u8 ys) ∧ Below w.heap.size w w' := by
  have HF := Lib.hid (l00From_ok w w A c xs hC hx (Below.refl _ _))
  clear hC hx
  go_enter Try.func17, Try.ntmps17
  go_wp2_with fail
  refine HF.out.mono ?_
  rintro e w1 ⟨g, rfl, hs, hb, hge⟩
  have HB := Lib.hid hb
  have HP := Lib.hid (l05Spelled_ok w w1 g 0 q m hq hq' hm (by omega) hs hb)
  clear hs hb
  go_wp2_with fail
  refine HP.out.mono ?_
  rintro e w2 ⟨v, ys, rfl, h0, h1, hO, hs2, hg2⟩
  have H0 := Lib.hid h0
  have H1 := Lib.hid h1
  have HO := Lib.hid (own_weaken hO HB.out.size)
  have HB2 := Lib.hid (grown_below HB.out hg2 (by intro k hk; injection hk with hk; omega))
  clear h0 h1 hs2 hg2 hO
  go_wp2_with fail
  go_ret
  exact ⟨v, ys, rfl, H0.out, H1.out, HO.out, HB2.out⟩
end Go.Proofs.Ytjadhhnajphibaa
