/- Contracts of functions and plain lemmas that the row stands on: A code that is drawn. Small questions on lists of numbers and of sights; codes that are drawn are valid. How far flags look apart from afar. Flags that are confused from afar. Plain: what is seen with one block changed. No conditions beyond those that each theorem names. -/
import Derived.Test.YtjadhhnajphibaaGSee2
import Derived.Test.YtjadhhnajphibaaW10
import Derived.Test.YtjadhhnajphibaaE1
import Derived.Deep.RegionHeld3
import Derived.Deep.MidRow
import Derived.Test.YtjadhhnajphibaaW7
set_option linter.unusedVariables false
set_option linter.unusedSimpArgs false
namespace Go.Proofs.Ytjadhhnajphibaa
open Go.RowKit Go.Proofs.YtjadhhnajphibaaW.PrintWords

theorem grown_own {w W W' : World} {g : Nat} {row : Option Nat} (hG : w.grownBy W (some g)) (h : W.grownBy W' row) (hb : ∀ k, row = some k → w.heap.size ≤ k) : w.grownBy W' (some g) := by
  refine ⟨h.os.trans hG.os, h.tape.trans hG.tape, h.output.trans hG.output, Nat.le_trans hG.size h.size, fun j hj hne => ?_⟩
  rw [h.block j (Nat.lt_of_lt_of_le hj hG.size) (fun e => by have := hb j e.symm; omega)]
  exact hG.block j hj hne
theorem f24 (xs : List Int) (h : xs.length = 24) : (#[.int .u8 (rn xs 0), .int .u8 (rn xs 1), .int .u8 (rn xs 2), .int .u8 (rn xs 3), .int .u8 (rn xs 4), .int .u8 (rn xs 5), .int .u8 (rn xs 6), .int .u8 (rn xs 7), .int .u8 (rn xs 8), .int .u8 (rn xs 9), .int .u8 (rn xs 10), .int .u8 (rn xs 11), .int .u8 (rn xs 12), .int .u8 (rn xs 13), .int .u8 (rn xs 14), .int .u8 (rn xs 15), .int .u8 (rn xs 16), .int .u8 (rn xs 17), .int .u8 (rn xs 18), .int .u8 (rn xs 19), .int .u8 (rn xs 20), .int .u8 (rn xs 21), .int .u8 (rn xs 22), .int .u8 (rn xs 23)] : Array Value) = (nums .u8 xs).toArray := by
  match xs, h with
  | [a0, a1, a2, a3, a4, a5, a6, a7, a8, a9, a10, a11, a12, a13, a14, a15, a16, a17, a18, a19, a20, a21, a22, a23], _ => rfl
theorem new_f24 (w : World) (t : Nat) (xs : List Int) (h : xs.length = 24) : NB .u8 (w.alloc (.cells #[.int .u8 (rn xs 0), .int .u8 (rn xs 1), .int .u8 (rn xs 2), .int .u8 (rn xs 3), .int .u8 (rn xs 4), .int .u8 (rn xs 5), .int .u8 (rn xs 6), .int .u8 (rn xs 7), .int .u8 (rn xs 8), .int .u8 (rn xs 9), .int .u8 (rn xs 10), .int .u8 (rn xs 11), .int .u8 (rn xs 12), .int .u8 (rn xs 13), .int .u8 (rn xs 14), .int .u8 (rn xs 15), .int .u8 (rn xs 16), .int .u8 (rn xs 17), .int .u8 (rn xs 18), .int .u8 (rn xs 19), .int .u8 (rn xs 20), .int .u8 (rn xs 21), .int .u8 (rn xs 22), .int .u8 (rn xs 23)] t)) w.heap.size t xs := by
  rw [f24 xs h]; exact NB.new w t xs
theorem l01Drawn_24 (w0 w : World) (g n : Nat) (hn : n ≤ 10000000000000) (hs : Src w0 w g n) (hb : Below w0.heap.size w0 w) :
    Calls Try.prog 123 #[.pointer (some ⟨g, 0, none⟩)] w fun e w' => ∃ xs, Hid (Fl xs) ∧ e = .returned (.agg #[.int .u8 (rn xs 0), .int .u8 (rn xs 1), .int .u8 (rn xs 2), .int .u8 (rn xs 3), .int .u8 (rn xs 4), .int .u8 (rn xs 5), .int .u8 (rn xs 6), .int .u8 (rn xs 7), .int .u8 (rn xs 8), .int .u8 (rn xs 9), .int .u8 (rn xs 10), .int .u8 (rn xs 11), .int .u8 (rn xs 12), .int .u8 (rn xs 13), .int .u8 (rn xs 14), .int .u8 (rn xs 15), .int .u8 (rn xs 16), .int .u8 (rn xs 17), .int .u8 (rn xs 18), .int .u8 (rn xs 19), .int .u8 (rn xs 20), .int .u8 (rn xs 21), .int .u8 (rn xs 22), .int .u8 (rn xs 23)]) ∧ Hid (Src w0 w' g (n + 100)) ∧ w.grownBy w' (some g) :=
  (l01Drawn_ok w0 w g n hn hs hb).mono fun e w' ⟨xs, h1, h2, h3, h4⟩ => ⟨xs, h1, by rw [h2, f24 xs h1.1]; rfl, h3, h4⟩

theorem words_C {w : World} {base n c t : Nat} {e e' : TypeId} {A : Option Addr} {ws : List (List Int)} {el : Nat → Value} (hR : w.ownsRow base e 1 (.slice A n c) n ((List.range n).map el)) (hn : ws.length = n)
    (hE : ∀ j, j < n → w.ownsRow base e' 1 (el j) (rl ws j).length (nums .u8 (rl ws j))) : (Kd.slice t (Kd.int .u8)).C w A n ws := by
  have hm := own_len hR
  obtain ⟨A', c', hv, -, hc⟩ := own_cells hR
  injection hv with h1 h2 h3
  subst h1
  refine C_of_cells hn hm hc fun k hk => ?_
  obtain ⟨_, A1, c1, hv, hc1, hC⟩ := own_C (hE k hk)
  exact ⟨A1, c1, by simp [hk, hv], hc1, hC⟩

/-- the rows of a code that has been made. -/
def RowsC (w : World) (base : Nat) (A : Option Addr) (c : Nat) (A1 : Option Addr) (c1 : Nat) (fs ws : List (List Int)) : Prop :=
  w.ownsRow base 78 24 (.slice A fs.length c) fs.length (nums .u8 (flat fs)) ∧ ∃ el : Nat → Value, w.ownsRow base 32 1 (.slice A1 ws.length c1) ws.length ((List.range ws.length).map el) ∧ ∀ j, j < ws.length → w.ownsRow base 5 1 (el j) (rl ws j).length (nums .u8 (rl ws j))
theorem own_setLow {w : World} {base : Nat} {e : TypeId} {size n : Nat} {v : Value} {xs : List Value} (h : w.ownsRow base e size v n xs) {p : Addr} (hp : p.block < base) (u : Value) : (w.setCell p u).ownsRow base e size v n xs :=
  own_setCell h (fun e => by have := own_base h _ e.symm; omega) u
theorem RowsC.set {w : World} {base : Nat} {A : Option Addr} {c : Nat} {A1 : Option Addr} {c1 : Nat} {fs ws : List (List Int)} (h : RowsC w base A c A1 c1 fs ws) {p : Addr} (hp : p.block < base) (u : Value) : RowsC (w.setCell p u) base A c A1 c1 fs ws := by
  obtain ⟨h1, el, h2, h3⟩ := h
  exact ⟨own_setLow h1 hp u, el, own_setLow h2 hp u, fun j hj => own_setLow (h3 j hj) hp u⟩

/-- what is known of a code that has been drawn. -/
structure Drawn (fs ws : List (List Int)) : Prop where
  flags : ∀ k, k < fs.length → Fl (rl fs k)
  few : 2 ≤ fs.length
  many : fs.length ≤ 7
  words : ws.length ≤ 6
  len : ∃ m, 1 ≤ m ∧ m ≤ 4 ∧ ∀ k, k < ws.length → (rl ws k).length = m
  lets : ∀ k, k < ws.length → Lets (rl ws k) fs.length

theorem RowsC.flags {w : World} {base : Nat} {A : Option Addr} {c : Nat} {A1 : Option Addr} {c1 : Nat} {fs ws : List (List Int)} (h : RowsC w base A c A1 c1 fs ws) (hd : Drawn fs ws) : (Karr 24).C w A fs.length fs := own_arrs (by omega) h.1 rfl (lens_of fun k hk => (hd.flags k hk).1)
theorem RowsC.words {w : World} {base t : Nat} {A : Option Addr} {c : Nat} {A1 : Option Addr} {c1 : Nat} {fs ws : List (List Int)} (h : RowsC w base A c A1 c1 fs ws) : (Kd.slice t (Kd.int .u8)).C w A1 ws.length ws := by
  obtain ⟨h1, el, h2, h3⟩ := h
  exact words_C h2 rfl h3

set_option maxRecDepth 100000 in
set_option maxHeartbeats 8000000 in
theorem l05Drawn_ok (w0 w : World) (g n : Nat) (hn : n ≤ 1000000000) (hs : Src w0 w g n) (hb : Below w0.heap.size w0 w) :
    Calls Try.prog 96 #[.pointer (some ⟨g, 0, none⟩)] w fun e w' => ∃ A c fs A1 c1 ws, e = .returned (.agg #[.slice A fs.length c, .slice A1 ws.length c1]) ∧ RowsC w' w.heap.size A c A1 c1 fs ws ∧ Drawn fs ws ∧ w.grownBy w' (some g) := by
  have HS := Lib.hid hs
  have HB := Lib.hid hb
  have hge : w0.heap.size ≤ g := hs.ge
  have hlt0 : g < w.heap.size := hs.lt
  have hsz0 := hb.size
  clear hs hb
  go_enter Try.func96, Try.ntmps96
  go_wp2_with fail
  have hb0 : Below w.heap.size w ((w.alloc (.cells #[.slice none 0 0, .slice none 0 0] 46)).alloc (.cells #[.slice none 0 0, .slice none 0 0] 46)) := below_alloc (below_box _ _) _
  have HSW0 := Lib.hid (HS.out.below hb0)
  have HGW0 := Lib.hid (grown_of_below hb0 (some g))
  have HBW0 := Lib.hid (HB.out.trans (hb0.mono hsz0))
  have HC0 := Lib.hid (show ((w.alloc (.cells #[.slice none 0 0, .slice none 0 0] 46)).alloc (.cells #[.slice none 0 0, .slice none 0 0] 46)).heap[w.heap.size]? = some (.cells #[.slice none 0 0, .slice none 0 0] 46 (0, 0)) from blk_alloc (heap_alloc_new w _) _)
  have hc1 := heap_alloc_new (w.alloc (.cells #[.slice none 0 0, .slice none 0 0] 46)) (.cells #[.slice none 0 0, .slice none 0 0] 46)
  rw [size_box] at hc1
  have HC1 := Lib.hid hc1
  clear hb0 hc1
  generalize (w.alloc (.cells #[.slice none 0 0, .slice none 0 0] 46)).alloc (.cells #[.slice none 0 0, .slice none 0 0] 46) = W0 at *
  refine (pick_ok w0 W0 g _ 6 (by omega) (by omega) HSW0.out HBW0.out).mono ?_
  rintro e w1 ⟨r, rfl, hr0, hr1, -, hs, hg⟩
  have hr2 := hr1 (by omega)
  obtain ⟨r, rfl⟩ : ∃ r' : Nat, r = r' := ⟨r.toNat, by omega⟩
  obtain ⟨N, hN⟩ : ∃ N : Nat, 2 + (r : Int) = N := ⟨2 + r, by omega⟩
  have hN2 : 2 ≤ N := by omega
  have hN7 : N ≤ 7 := by omega
  have HS1 := Lib.hid (hs.more (m := n + 2 + (7 - N) * 100) (by omega))
  have HG1 := Lib.hid (HGW0.out.trans hg)
  have HC01 := Lib.hid ((hg.block w.heap.size (blk_lt HC0.out) (fun e => by injection e with e; omega)).trans HC0.out)
  have HC11 := Lib.hid ((hg.block (w.heap.size + 1) (blk_lt HC1.out) (fun e => by injection e with e; omega)).trans HC1.out)
  clear hs hg hr1
  go_wp2
  go_loopw [4] (fun t wr => ∃ (q : Nat) (fs : List (List Int)) (v : Value), q ≤ N ∧ t = .int .i64 q ∧ fs.length + q = N ∧ Hid (∀ k, k < fs.length → Fl (rl fs k)) ∧ Hid (wr.heap[w.heap.size + 1]? = some (.cells #[v, .slice none 0 0] 46 (0, 0))) ∧ Hid (wr.heap[w.heap.size]? = some (.cells #[.slice none 0 0, .slice none 0 0] 46 (0, 0))) ∧ Hid (wr.ownsRow w.heap.size 78 24 v fs.length (nums .u8 (flat fs))) ∧ Hid (Src w0 wr g (n + 2 + (7 - q) * 100)) ∧ Hid (w.grownBy wr (some g))) (fun t _ => (intOf t).toNat)
  case atStart => exact ⟨N, [], .slice none 0 0, by omega, rfl, by simp, fun k hk => absurd hk (by simp), HC11, HC01, own_nil _ _ _ _, HS1, HG1⟩
  case round =>
    clear HS1 HG1 HC01 HC11 HSW0 HGW0 HBW0 HC0 HC1 hN
    obtain ⟨q, fs, v, hq, rfl, hlen, HF, HC1, HC0, HO, HSr, HGr⟩ := hrel
    have HLEN := Lib.hid hlen
    have hfl : fs.length ≤ 7 := by omega
    by_cases hlt : 0 < q
    · have hlti : (0 : Int) < (q : Int) := by omega
      have hdr : Below wr.heap.size wr wr.drew := ⟨rfl, rfl, rfl, Nat.le_refl _, fun _ _ => rfl⟩
      have HSD := Lib.hid (HSr.out.below hdr)
      have HGD := Lib.hid (grown_new HGr.out hdr)
      have HBD := Lib.hid (grown_below HB.out HGD.out (by intro k hk; injection hk with hk; omega))
      have HDR := Lib.hid (fun hnn => l01Drawn_24 w0 wr.drew g (n + 2 + (7 - q) * 100) hnn HSD.out HBD.out)
      have hbnd : n + 2 + (7 - q) * 100 ≤ 10000000000000 := by omega
      have HBND := Lib.hid hbnd
      have hcl : w.heap.size + 1 < wr.heap.size := blk_lt HC1.out
      have hne0 := own_ne_src HSr.out HO.out (by decide)
      have HNE0 := Lib.hid hne0
      have HK := Lib.hid (fun W (h : wr.grownBy W (some g)) => (h.block (w.heap.size + 1) hcl (fun e => by injection e with e; omega)).trans HC1.out)
      have y0 := (blk_cell HC1.out 0).trans (show _ = some v from rfl)
      have y1 := (blk_cell (HK.out _ (grown_of_below hdr (some g))) 0).trans (show _ = some v from rfl)
      clear hbnd hne0 hlen
      go_wp2
      go_region_law
        (first | (go_simp; go_at_call 123; refine (HDR.out HBND.out).mono ?_; rintro e w2 ⟨xs, HFX, rfl, HS2, hg2⟩; have hg2' := (grown_of_below hdr (some g)).trans hg2; have HG2 := Lib.hid (HGr.out.trans hg2'); have HO2 := Lib.hid (own_other HO.out hg2' (.inr HNE0.out)); have hsz2 : wr.heap.size ≤ w2.heap.size := hg2'.size; have z6 := (blk_cell (HK.out _ hg2') 0).trans (show _ = some v from rfl); have z9 := fun O => pw_cell_below (below_box w2 O) z6; have hne9 : w.heap.size + 1 ≠ w2.heap.size := (by omega); have hne8 : w2.heap.size ≠ w.heap.size + 1 := (by omega)) | (refine step_own_append _ (by rfl) _ _ _ (by rfl) w.heap.size 78 (av (List.replicate 24 0)) 24 24 Try.underlying44 uinfo_flag (by rfl) (by omega) (by omega) v fs.length _ (by rfl) (pw_own_below HO2.out (below_box _ _)) (some ⟨w2.heap.size, 0, none⟩) 1 1 (nums .u8 xs) (by rfl) (by rw [nums_length, HFX.out.len]) (fun j u hu => ⟨_, rfl, (new_f24 w2 78 xs HFX.out.len).range j u hu⟩) (nums_one _ _) (by omega) (by simp; omega) ?_; intro v3 w3 hO3 hg3 hat3; obtain ⟨A9, c9, rfl, hc9, hcl9⟩ := own_cells hO3; clear hcl9; have hG3 := (hg3.block (w.heap.size + 1) (by simp; omega) (own_ne HO.out HC1.out (by decide))).trans (blk_alloc (HK.out _ hg2') _); have x6 := (blk_cell hG3 0).trans (show _ = some v from rfl); have x9 := blk_frozen hG3 0))
      all_goals
        have hq3 := below_box w2 (.cells #[.int .u8 (rn xs 0), .int .u8 (rn xs 1), .int .u8 (rn xs 2), .int .u8 (rn xs 3), .int .u8 (rn xs 4), .int .u8 (rn xs 5), .int .u8 (rn xs 6), .int .u8 (rn xs 7), .int .u8 (rn xs 8), .int .u8 (rn xs 9), .int .u8 (rn xs 10), .int .u8 (rn xs 11), .int .u8 (rn xs 12), .int .u8 (rn xs 13), .int .u8 (rn xs 14), .int .u8 (rn xs 15), .int .u8 (rn xs 16), .int .u8 (rn xs 17), .int .u8 (rn xs 18), .int .u8 (rn xs 19), .int .u8 (rn xs 20), .int .u8 (rn xs 21), .int .u8 (rn xs 22), .int .u8 (rn xs 23)] 78)
        have hs3 := HS2.out.below hq3
        have hs3' := hs3.grown hg3 (fun e => own_ne_src hs3 (pw_own_below HO2.out hq3) (by decide) e.symm)
        have hs4 := (hs3'.grown (grown_set w3 (w.heap.size + 1) 0 (.slice A9 (fs.length + 1) c9)) (fun e => by injection e with e; omega)).more (m := n + 2 + (7 - (q - 1)) * 100) (by omega)
        have hgr := grown_own (grown_own (grown_new HG2.out hq3) hg3 (own_base HO2.out)) (grown_set w3 (w.heap.size + 1) 0 (.slice A9 (fs.length + 1) c9)) (fun k hk => by injection hk with hk; omega)
        have hc0 := blk_far ((hg3.block w.heap.size (by simp; omega) (own_ne HO.out HC0.out (by decide))).trans (blk_alloc ((hg2'.block w.heap.size (blk_lt HC0.out) (fun e => by injection e with e; omega)).trans HC0.out) _)) (p := ⟨w.heap.size + 1, 0, none⟩) (by simp) (.slice A9 (fs.length + 1) c9)
        have hO4 := own_setCell hO3 (p := ⟨w.heap.size + 1, 0, none⟩) (own_ne hO3 hG3 (by decide)) (.slice A9 (fs.length + 1) c9)
        have HREL := Lib.hid (And.intro (blk_set hG3 0 (.slice A9 (fs.length + 1) c9)) (And.intro hc0 (And.intro hO4 (And.intro hs4 hgr))))
        clear hq3 hs3 hs3' hs4 hgr hc0 hO4
        go_wp2
        go_roundw
        case rel =>
          refine ⟨q - 1, fs ++ [xs], .slice A9 (fs.length + 1) c9, by omega, by go_num, by have := HLEN.out; simp; omega, ?_, HREL.out.1, HREL.out.2.1, ?_, HREL.out.2.2.2.1, HREL.out.2.2.2.2⟩
          · intro k hk
            by_cases e : k < fs.length
            · rw [rl_append_left e]; exact HF.out k e
            · rw [rl_append_right (by omega)]
              have : k - fs.length = 0 := by simp at hk; omega
              rw [this]
              exact HFX.out
          · rw [flat_snoc, nums_append, List.length_append]
            exact HREL.out.2.2.1
        case measure => first|(simp [intOf]; done)|(simp [intOf]; omega)
    · obtain rfl : q = 0 := by omega
      have hfN : fs.length = N := by omega
      obtain ⟨A, c, hv, hc, -⟩ := own_cells HO.out
      subst hv
      have HBr := Lib.hid (grown_below HB.out HGr.out (by intro k hk; injection hk with hk; omega))
      have HFN := Lib.hid hfN
      clear hlen hfN
      go_wp2_with fail
      refine (pick_ok w0 wr g _ 4 (by omega) (by omega) HSr.out HBr.out).mono ?_
      rintro e w4 ⟨m, rfl, hm0, hm1, -, hs, hg⟩
      have hm2 := hm1 (by omega)
      obtain ⟨m, hm⟩ : ∃ m' : Nat, 1 + m = m' := ⟨(1 + m).toNat, by omega⟩
      have hmm1 : 1 ≤ m := by omega
      have hmm4 : m ≤ 4 := by omega
      have HS4 := Lib.hid hs
      have HG4 := Lib.hid (HGr.out.trans hg)
      have HB4 := Lib.hid (grown_below HB.out HG4.out (by intro k hk; injection hk with hk; omega))
      have HC04 := Lib.hid ((hg.block w.heap.size (blk_lt HC0.out) (fun e => by injection e with e; omega)).trans HC0.out)
      have HC14 := Lib.hid ((hg.block (w.heap.size + 1) (blk_lt HC1.out) (fun e => by injection e with e; omega)).trans HC1.out)
      have HO4 := Lib.hid (own_other HO.out hg (.inr (own_ne_src HSr.out HO.out (by decide))))
      clear hs hg hm1 HSr HGr HBr HC0 HC1 HO
      go_wp2_with fail
      refine (pick_ok w0 w4 g _ 7 (by omega) (by omega) HS4.out HB4.out).mono ?_
      rintro e w5 ⟨Q, rfl, hQ0, hQ1, -, hs, hg⟩
      have hQ2 := hQ1 (by omega)
      obtain ⟨Q, rfl⟩ : ∃ Q' : Nat, Q = Q' := ⟨Q.toNat, by omega⟩
      have HS5 := Lib.hid (hs.more (m := n + 1000 + (6 - Q) * 100) (by omega))
      have HG5 := Lib.hid (HG4.out.trans hg)
      have HC05 := Lib.hid ((hg.block w.heap.size (blk_lt HC04.out) (fun e => by injection e with e; omega)).trans HC04.out)
      have HC15 := Lib.hid ((hg.block (w.heap.size + 1) (blk_lt HC14.out) (fun e => by injection e with e; omega)).trans HC14.out)
      have HO5 := Lib.hid (own_other HO4.out hg (.inr (own_ne_src HS4.out HO4.out (by decide))))
      clear hs hg hQ1 HS4 HG4 HB4 HC04 HC14 HO4
      go_wp2
      clear hm
      go_loopw [6] (fun t wr => ∃ (q : Nat) (ws : List (List Int)) (el : Nat → Value) (v : Value), q ≤ Q ∧ t = .int .i64 q ∧ ws.length + q = Q ∧ Hid (∀ k, k < ws.length → (rl ws k).length = m ∧ Lets (rl ws k) N) ∧ Hid (wr.heap[w.heap.size + 1]? = some (.cells #[.slice A fs.length c, v] 46 (0, 0))) ∧ Hid (wr.heap[w.heap.size]? = some (.cells #[.slice none 0 0, .slice none 0 0] 46 (0, 0))) ∧ Hid (wr.ownsRow w.heap.size 78 24 (.slice A fs.length c) fs.length (nums .u8 (flat fs))) ∧ Hid (wr.ownsRow w.heap.size 32 1 v ws.length ((List.range ws.length).map el)) ∧ Hid (∀ j, j < ws.length → wr.ownsRow w.heap.size 5 1 (el j) (rl ws j).length (nums .u8 (rl ws j))) ∧ Hid (Src w0 wr g (n + 1000 + (6 - q) * 100)) ∧ Hid (w.grownBy wr (some g))) (fun t _ => (intOf t).toNat)
      case atStart => exact ⟨Q, [], fun _ => .slice none 0 0, .slice none 0 0, by omega, rfl, by simp, fun k hk => absurd hk (by simp), HC15, HC05, HO5, own_nil _ _ _ _, fun k hk => absurd hk (by simp), HS5, HG5⟩
      case round =>
        clear HS5 HG5 HC05 HC15 HO5
        obtain ⟨q, ws, el, v, hq, rfl, hlen, HW, HC1, HC0, HO, HR, HE, HSr, HGr⟩ := hrel
        have HLEN := Lib.hid hlen
        have hwl : ws.length ≤ 6 := by omega
        by_cases hlt : 0 < q
        · have hlti : (0 : Int) < (q : Int) := by omega
          have hdr : Below wr.heap.size wr wr.drew := ⟨rfl, rfl, rfl, Nat.le_refl _, fun _ _ => rfl⟩
          have HSD := Lib.hid (HSr.out.below hdr)
          have HGD := Lib.hid (grown_new HGr.out hdr)
          have HBD := Lib.hid (grown_below HB.out HGD.out (by intro k hk; injection hk with hk; omega))
          have hfN := HFN.out
          have HDR := Lib.hid (l05Spelled_ok w0 wr.drew g (n + 1000 + (6 - q) * 100) fs.length m (by omega) (by omega) (by omega) (by omega) HSD.out HBD.out)
          have hcl : w.heap.size + 1 < wr.heap.size := blk_lt HC1.out
          have HNF := Lib.hid (own_ne_src HSr.out HO.out (by decide))
          have HNR := Lib.hid (own_ne_src HSr.out HR.out (by decide))
          have HNE := Lib.hid (fun j hj => own_ne_src HSr.out (HE.out j hj) (by decide))
          have HK := Lib.hid (fun W (h : wr.grownBy W (some g)) => (h.block (w.heap.size + 1) hcl (fun e => by injection e with e; omega)).trans HC1.out)
          have y0 := (blk_cell HC1.out 0).trans (show _ = some (.slice A fs.length c) from rfl)
          have y1 := (blk_cell HC1.out 1).trans (show _ = some v from rfl)
          have y2 := (blk_cell (HK.out _ (grown_of_below hdr (some g))) 0).trans (show _ = some (.slice A fs.length c) from rfl)
          have y3 := (blk_cell (HK.out _ (grown_of_below hdr (some g))) 1).trans (show _ = some v from rfl)
          have hfl7 : fs.length ≤ 7 := by omega
          clear hlen hfN
          go_wp2
          go_region_law
            (first | (go_simp; go_at_call 72; refine HDR.out.mono ?_; rintro e w2 ⟨v7, xs, rfl, hxl, hxL, hown, hs2, hg2⟩; have hg2' := (grown_of_below hdr (some g)).trans hg2; have HXL := Lib.hid (And.intro hxl hxL); have HOW := Lib.hid hown; have HS2 := Lib.hid hs2; have HG2 := Lib.hid (HGr.out.trans hg2'); have HO2 := Lib.hid (own_other HO.out hg2' (.inr HNF.out)); have HR2 := Lib.hid (own_other HR.out hg2' (.inr HNR.out)); have HE2 := Lib.hid (fun j hj => own_other (HE.out j hj) hg2' (.inr (HNE.out j hj))); have hsz2 : wr.heap.size ≤ w2.heap.size := hg2'.size; obtain ⟨A7, c7, rfl, -, -⟩ := own_cells hown; have z6 := (blk_cell (HK.out _ hg2') 0).trans (show _ = some (.slice A fs.length c) from rfl); have z7 := (blk_cell (HK.out _ hg2') 1).trans (show _ = some v from rfl); have z8 := fun O => pw_cell_below (below_box w2 O) z6; have z9 := fun O => pw_cell_below (below_box w2 O) z7; have hne9 : w.heap.size + 1 ≠ w2.heap.size := (by omega); have hne8 : w2.heap.size ≠ w.heap.size + 1 := (by omega); clear hxl hxL hown hs2) | (refine step_own_append _ (by rfl) _ _ _ (by rfl) w.heap.size 32 (.slice none 0 0) 1 24 Try.underlying25 uinfo_word (by rfl) (by omega) (by omega) v ws.length _ (by rfl) (pw_own_below HR2.out (below_box _ _)) (some ⟨w2.heap.size, 0, none⟩) 1 1 [.slice A7 m c7] (by rfl) (by rfl) (cells_new w2 32 _) (by simp [Value.oneCell']) (by omega) (by simp; omega) ?_; intro v3 w3 hO3 hg3 hat3; obtain ⟨A9, c9, rfl, hc9, hcl9⟩ := own_cells hO3; clear hcl9; have hG3 := (hg3.block (w.heap.size + 1) (by simp; omega) (own_ne HR.out HC1.out (by decide))).trans (blk_alloc (HK.out _ hg2') _); have x6 := (blk_cell hG3 0).trans (show _ = some (.slice A fs.length c) from rfl); have x7 := (blk_cell hG3 1).trans (show _ = some v from rfl); have x9 := blk_frozen hG3 1))
          all_goals
            have hq3 := below_box w2 (.cells #[.slice A7 m c7] 32)
            have hs3 := HS2.out.below hq3
            have hR3a := pw_own_below HR2.out hq3
            have hs3' := hs3.grown hg3 (fun e => own_ne_src hs3 hR3a (by decide) e.symm)
            have hs4 := (hs3'.grown (grown_set w3 (w.heap.size + 1) 1 (.slice A9 (ws.length + 1) c9)) (fun e => by injection e with e; omega)).more (m := n + 1000 + (6 - (q - 1)) * 100) (by omega)
            have hgr := grown_own (grown_own (grown_new HG2.out hq3) hg3 (own_base HR2.out)) (grown_set w3 (w.heap.size + 1) 1 (.slice A9 (ws.length + 1) c9)) (fun k hk => by injection hk with hk; omega)
            have hc0 := blk_far ((hg3.block w.heap.size (by simp; omega) (own_ne HR.out HC0.out (by decide))).trans (blk_alloc ((hg2'.block w.heap.size (blk_lt HC0.out) (fun e => by injection e with e; omega)).trans HC0.out) _)) (p := ⟨w.heap.size + 1, 1, none⟩) (by simp) (.slice A9 (ws.length + 1) c9)
            have hup : ∀ (e : TypeId) (sz : Nat) (u : Value) (nn : Nat) (vs : List Value), e ≠ 32 → e ≠ 46 → w2.ownsRow w.heap.size e sz u nn vs → (w3.setCell ⟨w.heap.size + 1, 1, none⟩ (.slice A9 (ws.length + 1) c9)).ownsRow w.heap.size e sz u nn vs := fun e sz u nn vs h1 h2 h =>
              have h3 := own_other (pw_own_below h hq3) hg3 (own_type_ne (pw_own_below h hq3) hR3a h1)
              own_setCell h3 (own_ne h3 hG3 h2) _
            have hR4 := own_setCell hO3 (p := ⟨w.heap.size + 1, 1, none⟩) (own_ne hO3 hG3 (by decide)) (.slice A9 (ws.length + 1) c9)
            have hO4 := hup _ _ _ _ _ (by decide) (by decide) HO2.out
            have hE4 := fun j hj => hup _ _ _ _ _ (by decide) (by decide) (HE2.out j hj)
            have hW4 := hup _ _ _ _ _ (by decide) (by decide) (own_weaken (base' := w.heap.size) HOW.out (by have := hdr.size; have := HGr.out.size; omega))
            have HREL := Lib.hid (And.intro (blk_set hG3 1 (.slice A9 (ws.length + 1) c9)) (And.intro hc0 (And.intro hO4 (And.intro hs4 hgr))))
            have HROW := Lib.hid hR4
            have HELS := Lib.hid hE4
            have HNEW := Lib.hid hW4
            clear hq3 hs3 hs3' hs4 hgr hc0 hO4 hup hR4 hE4 hW4 hR3a
            go_wp2
            go_roundw
            case rel =>
              have hxl := HXL.out.1
              refine ⟨q - 1, ws ++ [xs], fun j => if j = ws.length then .slice A7 m c7 else el j, .slice A9 (ws.length + 1) c9, by omega, by go_num, by have := HLEN.out; simp; omega, ?_, HREL.out.1, HREL.out.2.1, HREL.out.2.2.1, ?_, ?_, HREL.out.2.2.2.1, HREL.out.2.2.2.2⟩
              · intro k hk
                by_cases e : k < ws.length
                · rw [rl_append_left e]; exact HW.out k e
                · rw [rl_append_right (by omega)]
                  have : k - ws.length = 0 := by simp at hk; omega
                  rw [this]
                  refine ⟨hxl, ?_⟩
                  have h2 := HXL.out.2
                  rw [HFN.out] at h2
                  exact h2
              · rw [List.length_append, List.length_singleton, range_snoc]
                exact HROW.out
              · intro j hj
                by_cases e : j = ws.length
                · subst e
                  simp only [if_true]
                  rw [rl_append_right (Nat.le_refl _), Nat.sub_self]
                  show (w3.setCell _ _).ownsRow _ _ _ _ xs.length (nums .u8 xs)
                  rw [hxl]
                  exact HNEW.out
                · simp only [if_neg e]
                  have hj2 : j < ws.length := by simp at hj; omega
                  rw [rl_append_left hj2]
                  exact HELS.out j hj2
            case measure => first|(simp [intOf]; done)|(simp [intOf]; omega)
        · obtain rfl : q = 0 := by omega
          obtain ⟨A1, c1, hv, -, -⟩ := own_cells HR.out
          subst hv
          have y0 := (blk_cell HC1.out 0).trans (show _ = some (.slice A fs.length c) from rfl)
          have y1 := (blk_cell HC1.out 1).trans (show _ = some (.slice A1 ws.length c1) from rfl)
          have d0 := (blk_cell HC0.out 0).trans (show _ = some (.slice none 0 0) from rfl)
          have d1 := (blk_cell HC0.out 1).trans (show _ = some (.slice none 0 0) from rfl)
          have d2 := blk_frozen HC0.out 0
          have d3 := blk_frozen HC0.out 1
          have hm9 : ws.length ≤ 6 := by omega
          clear hlen
          go_wp2
          have hfin := blk_set (blk_set HC0.out 0 (.slice A fs.length c)) 1 (.slice A1 ws.length c1)
          have hup : ∀ (e : TypeId) (sz : Nat) (u : Value) (nn : Nat) (vs : List Value), e ≠ 46 → wr.ownsRow w.heap.size e sz u nn vs → ((wr.setCell ⟨w.heap.size, 0, none⟩ (.slice A fs.length c)).setCell ⟨w.heap.size, 1, none⟩ (.slice A1 ws.length c1)).ownsRow w.heap.size e sz u nn vs := fun e sz u nn vs h1 h =>
            have h2 := own_setCell h (p := ⟨w.heap.size, 0, none⟩) (own_ne h HC0.out h1) (.slice A fs.length c)
            own_setCell h2 (p := ⟨w.heap.size, 1, none⟩) (own_ne h2 (blk_set HC0.out 0 (.slice A fs.length c)) h1) _
          have hgr := grown_own (grown_own HGr.out (grown_set wr w.heap.size 0 (.slice A fs.length c)) (fun k hk => by injection hk with hk; omega)) (grown_set _ w.heap.size 1 (.slice A1 ws.length c1)) (fun k hk => by injection hk with hk; omega)
          have hi2 : (Try.prog.info? 46).map (·.size) = some 2 := by kernel_rfl
          have hfN := HFN.out
          refine bodyPost_ret (results_cell_row rfl _ _ w.heap.size 46 #[.slice A fs.length c, .slice A1 ws.length c1] (0, 0) _ rfl hfin Try.underlying46 rfl hi2) rfl ⟨A, c, fs, A1, c1, ws, rfl, ⟨hup _ _ _ _ _ (by decide) HO.out, el, hup _ _ _ _ _ (by decide) HR.out, fun j hj => hup _ _ _ _ _ (by decide) (HE.out j hj)⟩, ⟨HF.out, by omega, by omega, hm9, ⟨m, hmm1, hmm4, fun k hk => (HW.out k hk).1⟩, fun k hk => by rw [hfN]; exact (HW.out k hk).2⟩, hgr⟩

set_option maxHeartbeats 2000000 in
theorem P6Code_ok (w : World) (A : Option Addr) (c : Nat) (xs : List Int) (hC : (Kd.int .u8).C w A xs.length xs) (hx : Bytes xs) :
    Calls Try.prog 41 #[.slice A xs.length c] w fun e w' => ∃ A c fs A1 c1 ws, e = .returned (.agg #[.slice A fs.length c, .slice A1 ws.length c1]) ∧ (Karr 24).C w' A fs.length fs ∧ (Kd.slice 5 (Kd.int .u8)).C w' A1 ws.length ws ∧ Drawn fs ws ∧ Below w.heap.size w w' := by
  have hb0 := below_box w (.cells #[.slice none 0 0, .slice none 0 0] 46)
  have HF := Lib.hid (l00From_ok w (w.alloc (.cells #[.slice none 0 0, .slice none 0 0] 46)) A c xs hC hx hb0)
  have HC0 := Lib.hid (heap_alloc_new w (.cells #[.slice none 0 0, .slice none 0 0] 46))
  have HB0 := Lib.hid hb0
  have hsz := size_box w (.cells #[.slice none 0 0, .slice none 0 0] 46)
  clear hC hx hb0
  go_enter Try.func41, Try.ntmps41
  go_wp2_with fail
  generalize w.alloc (.cells #[.slice none 0 0, .slice none 0 0] 46) = W0 at *
  refine HF.out.mono ?_
  rintro e w1 ⟨g, rfl, hs, hb1, hg⟩
  have HS1 := Lib.hid hs
  have HB1 := Lib.hid (HB0.out.trans (hb1.mono HB0.out.size))
  have hc1 := (hb1.block w.heap.size (by omega)).trans HC0.out
  have HC1 := Lib.hid hc1
  clear hs hb1 hc1
  go_wp2_with fail
  refine (l05Drawn_ok w w1 g 0 (by omega) HS1.out HB1.out).mono ?_
  rintro e w2 ⟨A2, c2, fs, A1, c1, ws, rfl, hR, hD, hg2⟩
  have hl1 : w.heap.size < w1.heap.size := blk_lt HC1.out
  have hc2 := (hg2.block w.heap.size hl1 (fun e => by injection e with e; omega)).trans HC1.out
  have d0 := (blk_cell hc2 0).trans (show _ = some (.slice none 0 0) from rfl)
  have d1 := (blk_cell hc2 1).trans (show _ = some (.slice none 0 0) from rfl)
  have d2 := blk_frozen hc2 0
  have d3 := blk_frozen hc2 1
  have HC2 := Lib.hid hc2
  have HR := Lib.hid hR
  have HD := Lib.hid hD
  have HB2 := Lib.hid (HB1.out.grown hg2 HB1.out.size (fun k hk => by injection hk with hk; omega))
  clear hc2 hR hD hg2
  go_wp2
  have hfin := blk_set (blk_set HC2.out 0 (.slice A2 fs.length c2)) 1 (.slice A1 ws.length c1)
  have hi2 : (Try.prog.info? 46).map (·.size) = some 2 := by kernel_rfl
  have hrow := (HR.out.set (p := ⟨w.heap.size, 0, none⟩) hl1 (.slice A2 fs.length c2)).set (p := ⟨w.heap.size, 1, none⟩) hl1 (.slice A1 ws.length c1)
  exact bodyPost_ret (results_cell_row rfl _ _ w.heap.size 46 #[.slice A2 fs.length c2, .slice A1 ws.length c1] (0, 0) _ rfl hfin Try.underlying46 rfl hi2) rfl ⟨A2, c2, fs, A1, c1, ws, rfl, hrow.flags HD.out, hrow.words, HD.out, set_below (set_below HB2.out (Nat.le_refl _) _) (Nat.le_refl _) _⟩
end Go.Proofs.Ytjadhhnajphibaa
namespace Go.Proofs.Ytjadhhnajphibaa
open Go.RowKit Go.Proofs.YtjadhhnajphibaaW.PrintWords

theorem Drawn.hf {fs ws : List (List Int)} (h : Drawn fs ws) : ∀ k i, 0 ≤ rn (rl fs k) i := fun k i => by
  by_cases hk : k < fs.length
  · exact ((h.flags k hk).2 i).1
  · rw [show rl fs k = [] by simp [rl, List.getD_eq_getElem?_getD, List.getElem?_eq_none (Nat.le_of_not_lt hk)]]
    simp [rn]
theorem Drawn.bytes {fs ws : List (List Int)} (h : Drawn fs ws) : WBytes ws := fun k i => by
  by_cases hk : k < ws.length
  · exact (h.lets k hk).bytes (by have := h.many; omega) i
  · rw [show rl ws k = [] by simp [rl, List.getD_eq_getElem?_getD, List.getElem?_eq_none (Nat.le_of_not_lt hk)]]
    simp [rn]
theorem Drawn.ok {fs ws : List (List Int)} (h : Drawn fs ws) : okC fs ws = true := by
  have h2 := h.few
  have h7 := h.many
  have h6 := h.words
  obtain ⟨m, hm1, hm4, hm⟩ := h.len
  simp only [okC, Bool.and_eq_true, decide_eq_true_iff]
  refine ⟨⟨⟨⟨by omega, allB_iff.2 fun k hk => (h.flags k hk).ok⟩, by omega⟩, by omega⟩, ?_⟩
  unfold wordsB
  refine allB_iff.2 fun i hi => ?_
  rw [Bool.and_eq_true]
  refine ⟨?_, by rw [decide_eq_true_iff, hm i hi, hm 0 (by omega)]⟩
  unfold wordB
  rw [Bool.and_eq_true]
  refine ⟨inB_yes (by have := hm i hi; omega) (by have := hm i hi; omega), allB_iff.2 fun j hj => ?_⟩
  rw [decide_eq_true_iff, lim_lt]
  have := h.lets i hi j hj
  omega

set_option maxHeartbeats 1000000 in
theorem l00Same_ok (A0 : Option Addr) (c0 : Nat) (xs : List Int) (A1 : Option Addr) (c1 : Nat) (ys : List Int) (w : World)
    (h0 : (Kd.int .i64).C w A0 xs.length xs) (h1 : (Kd.int .i64).C w A1 ys.length ys) :
    Calls Try.prog 100 #[.slice A0 xs.length c0, .slice A1 ys.length c1] w fun e w' => e = .returned (.bool (eqB xs ys)) ∧ ∃ q, w' = w.drewN q := by
  have hm : xs.length ≤ 9223372036854775807 := h0.2.1
  have hm1 : ys.length ≤ 9223372036854775807 := h1.2.1
  have H0 := Lib.hid h0
  have H1 := Lib.hid h1
  clear h0 h1
  by_cases hl : xs.length = ys.length
  · have HL := Lib.hid hl
    have hle : xs.length ≤ ys.length := by omega
    have hlb : ((xs.length : Int) != (ys.length : Int)) = false := by simp [hl]
    clear hl
    go_enter Try.func100, Try.ntmps100
    go_wp2
    go_loopw [5] (fun i wr => ∃ k q : Nat, k ≤ xs.length ∧ i = .int .i64 k ∧ Hid (∀ j, j < k → (rn xs j != rn ys j) = false) ∧ wr = w.drewN q) (fun i _ => xs.length - (intOf i).toNat)
    case atStart => exact ⟨0, 0, Nat.zero_le _, rfl, fun j hj => absurd hj (by omega), rfl⟩
    case round =>
      obtain ⟨k, q, hk, rfl, HA, rfl⟩ := hrel
      by_cases hlt : k < xs.length
      · obtain ⟨ad0, rfl, hx0⟩ := at_nat H0.out hlt
        obtain ⟨ad1, rfl, hx1⟩ := at_nat H1.out (show k < ys.length by omega)
        have hlt1 : k < ys.length := by omega
        have hlti : (k : Int) < (xs.length : Int) := by omega
        have hlti1 : (k : Int) < (ys.length : Int) := by omega
        rcases hc : (rn xs k != rn ys k) with _ | _
        · have HS := Lib.hid hc
          go_wp2
          go_quiet (fail)
          go_wp2
          go_roundw
          case rel =>
            refine ⟨k + 1, _, by omega, by go_num, fun j hj => ?_, rfl⟩
            by_cases e : j = k
            · rw [e]; exact HS.out
            · exact HA.out j (by omega)
          case measure => first|(simp [intOf]; done)|(simp [intOf]; omega)
        · have HS := Lib.hid (eqB_no hlt hc)
          go_wp2
          go_quiet (fail)
          go_wp2
          go_ret
          exact ⟨ret_bool HS.out.symm, _, World.drewN_drewN ..⟩
      · obtain rfl : k = xs.length := by omega
        have HS := Lib.hid (eqB_yes HL.out HA.out)
        go_wp2
        go_ret
        exact ⟨ret_bool HS.out.symm, _, rfl⟩
  · have HS := Lib.hid (eqB_len hl)
    have hlb : ((xs.length : Int) != (ys.length : Int)) = true := by simp; omega
    go_enter Try.func100, Try.ntmps100
    go_wp2
    go_ret
    exact ⟨ret_bool HS.out.symm, 0, rfl⟩


set_option maxHeartbeats 1000000 in
theorem SameNumbers_ok (A0 : Option Addr) (c0 : Nat) (xs : List Int) (A1 : Option Addr) (c1 : Nat) (ys : List Int) (w : World)
    (h0 : (Kd.int .i64).C w A0 xs.length xs) (h1 : (Kd.int .i64).C w A1 ys.length ys) :
    Calls Try.prog 44 #[.slice A0 xs.length c0, .slice A1 ys.length c1] w fun e w' => e = .returned (.bool (eqB xs ys)) ∧ ∃ q, w' = w.drewN q := by
  have HC := Lib.hid (l00Same_ok A0 c0 xs A1 c1 ys w h0 h1)
  clear h0 h1
  go_enter Try.func44, Try.ntmps44
  go_wp2_with (go_at_call 100; refine HC.out.mono ?_; rintro e w' ⟨rfl, q, rfl⟩)
  go_ret
  exact ⟨rfl, q, rfl⟩

def hasB (xs : List Int) (x : Int) : Bool := anyB (fun i => rn xs i == x) xs.length
theorem hasB_iff {xs : List Int} {x : Int} : hasB xs x = true ↔ x ∈ xs := by
  unfold hasB
  rw [anyB_iff]
  constructor
  · rintro ⟨i, hi, h⟩
    have h1 : rn xs i = x := by simpa using h
    rw [← h1]
    have : rn xs i = xs[i] := by simp [rn, List.getD_eq_getElem?_getD, List.getElem?_eq_getElem hi]
    rw [this]
    exact List.getElem_mem hi
  · intro h
    obtain ⟨i, hi, rfl⟩ := List.mem_iff_getElem.1 h
    exact ⟨i, hi, by simp [rn, List.getD_eq_getElem?_getD, List.getElem?_eq_getElem hi]⟩

set_option maxHeartbeats 1000000 in
theorem l00Has_ok (A0 : Option Addr) (c0 : Nat) (xs : List Int) (x : Int) (w : World) (h0 : (Kd.int .i64).C w A0 xs.length xs) :
    Calls Try.prog 101 #[.slice A0 xs.length c0, .int .i64 x] w fun e w' => e = .returned (.bool (hasB xs x)) ∧ w = w' := by
  have hm : xs.length ≤ 9223372036854775807 := h0.2.1
  have H0 := Lib.hid h0
  clear h0
  go_enter Try.func101, Try.ntmps101
  go_wp2
  go_loop [5] (fun i => ∃ k : Nat, k ≤ xs.length ∧ i = .int .i64 k ∧ Hid (∀ j, j < k → (rn xs j == x) = false)) (fun i => xs.length - (intOf i).toNat)
  case atStart => exact ⟨0, Nat.zero_le _, rfl, fun j hj => absurd hj (by omega)⟩
  case round =>
    obtain ⟨k, hk, rfl, HA⟩ := hrel
    by_cases hlt : k < xs.length
    · obtain ⟨ad, rfl, hx0⟩ := at_nat H0.out hlt
      have hlti : (k : Int) < (xs.length : Int) := by omega
      rcases hc : (rn xs k == x) with _ | _
      · have HS := Lib.hid hc
        go_wp2
        go_round
        case rel =>
          refine ⟨k + 1, by omega, by go_num, fun j hj => ?_⟩
          by_cases e : j = k
          · rw [e]; exact HS.out
          · exact HA.out j (by omega)
        case measure => first|(simp [intOf]; done)|(simp [intOf]; omega)
      · have HS := Lib.hid (show hasB xs x = true from anyB_iff.2 ⟨k, hlt, hc⟩)
        go_wp2
        go_ret
        exact ⟨ret_bool HS.out.symm, rfl⟩
    · obtain rfl : k = xs.length := by omega
      have HS := Lib.hid (show hasB xs x = false from anyB_no HA.out)
      go_wp2
      go_ret
      exact ⟨ret_bool HS.out.symm, rfl⟩
theorem HasNumber_ok (A0 : Option Addr) (c0 : Nat) (xs : List Int) (x : Int) (w : World) (h0 : (Kd.int .i64).C w A0 xs.length xs) :
    Calls Try.prog 45 #[.slice A0 xs.length c0, .int .i64 x] w fun e w' => e = .returned (.bool (hasB xs x)) ∧ w = w' := by
  have HC := Lib.hid (l00Has_ok A0 c0 xs x w h0)
  clear h0
  go_enter Try.func45, Try.ntmps45
  go_wp2_with (go_at_call 101; refine HC.out.mono ?_; rintro e w' ⟨rfl, rfl⟩)
  go_ret
  exact ⟨rfl, rfl⟩

theorem diffs_zero (xs : List Int) : diffs xs xs = 0 := diffs_self xs
theorem farS_self (a : List (List Int)) : farS a a = 0 := by
  unfold farS farTo
  generalize a.length = n
  induction n with
  | zero => rfl
  | succ n ih => rw [sumTo, ih, diffs_self]
set_option maxHeartbeats 1000000 in
theorem SameSights_ok (A0 : Option Addr) (c0 : Nat) (a : List (List Int)) (A1 : Option Addr) (c1 : Nat) (w : World) (h0 : (Karr 6).C w A0 a.length a) (h1 : (Karr 6).C w A1 a.length a) (hb : a.length ≤ 1000000000000) :
    Calls Try.prog 43 #[.slice A0 a.length c0, .slice A1 a.length c1] w fun e w' => e = .returned (.bool true) ∧ ∃ q, w' = w.drewN q := by
  have hm : a.length ≤ 9223372036854775807 := h0.2.1
  have hf := l05Far_ok A0 c0 a A1 c1 a w h0 h1 (Nat.le_refl _) hb
  rw [farS_self] at hf
  have HC := Lib.hid hf
  have hq : ((a.length : Int) == (a.length : Int)) = true := by simp
  clear h0 h1 hf
  go_enter Try.func43, Try.ntmps43
  go_wp2_with (go_at_call 80; refine HC.out.mono ?_; rintro e w' ⟨rfl, q, rfl⟩)
  go_ret
  exact ⟨rfl, q, rfl⟩

set_option maxHeartbeats 2000000 in
theorem SightDistance_ok (A0 : Option Addr) (c0 : Nat) (a : List (List Int)) (A1 : Option Addr) (c1 : Nat) (b : List (List Int)) (w : World) (h0 : (Karr 6).C w A0 a.length a) (h1 : (Karr 6).C w A1 b.length b) (ha : okS a = true) (hb : okS b = true) (hl : a.length = b.length) (hn : a.length ≤ 1000000000000) :
    Calls Try.prog 46 #[.slice A0 a.length c0, .slice A1 b.length c1] w fun e w' => e = .returned (.tuple #[.int .i64 (farS a b), .int .i64 0]) ∧ Below w.heap.size w w' := by
  have hm : a.length ≤ 9223372036854775807 := h0.2.1
  have hm1 : b.length ≤ 9223372036854775807 := h1.2.1
  have H0 := Lib.hid h0
  have H1 := Lib.hid h1
  have HA := Lib.hid (fun W h => areSights_ok A0 c0 a W h)
  have HB := Lib.hid (fun W h => areSights_ok A1 c1 b W h)
  have HF := Lib.hid (fun W h h' => sightsApart_ok A0 c0 a A1 c1 b W h h' (Nat.le_of_eq hl) hn)
  have hq : ((a.length : Int) != (b.length : Int)) = false := by simp [hl]
  rw [ha] at HA
  rw [hb] at HB
  clear h0 h1 ha hb hl
  go_enter Try.func46, Try.ntmps46
  go_wp2_with fail
  refine (HA.out w H0.out).mono ?_
  rintro e w1 ⟨rfl, hb1⟩
  have HB1 := Lib.hid hb1
  clear hb1
  go_wp2_with fail
  refine (HB.out w1 (C_below' H1.out HB1.out)).mono ?_
  rintro e w2 ⟨rfl, hb2⟩
  have HB2 := Lib.hid (HB1.out.trans (hb2.mono HB1.out.size))
  clear hb2
  go_wp2_with fail
  refine (HF.out w2 (C_below' H0.out HB2.out) (C_below' H1.out HB2.out)).mono ?_
  rintro e w3 ⟨rfl, q, rfl⟩
  go_wp2_with fail
  go_ret2
  exact ⟨rfl, below_dN HB2.out q⟩
end Go.Proofs.Ytjadhhnajphibaa
namespace Go.Proofs.Ytjadhhnajphibaa
open Go.RowKit Go.Proofs.YtjadhhnajphibaaW.PrintWords

/-- A region that draws its order, by what holds at every stage: each operation once. -/
theorem wpAny_inv {P : Program} {md : Region.Mode} {ops : Array Oper} {Q : Exit → Act → World → Prop} (I : Nat → Array Bool → Act → World → Prop) (N : Nat)
    (hstep : ∀ n listed a w i, I n listed a w → i ∈ Region.ready md ops listed → ∀ K : Act → World → Prop, (∀ a' w', I (n + 1) (listed.setIfInBounds i true) a' w' → K a' w') → wpOp P ops Q i K a w)
    (hend : ∀ n listed a w, I n listed a w → Region.ready md ops listed = [] → Q .normal a w)
    (hN : ∀ listed a w, I N listed a w → Region.ready md ops listed = []) : ∀ fuel n listed a w, N = n + fuel → I n listed a w → wpAny P md ops Q fuel listed a w
  | 0, n, listed, a, w, hn, h => by
    have e : n = N := by omega
    subst e
    exact ⟨hN _ _ _ h, hend _ _ _ _ h (hN _ _ _ h)⟩
  | fuel + 1, n, listed, a, w, hn, h =>
    ⟨hend _ _ _ _ h, fun i hi => hstep n listed a w i h hi _ fun a' w' h' => wpAny_inv I N hstep hend hN fuel (n + 1) _ a' w' (by omega) h'⟩
theorem wpOp_plain {P : Program} {ops : Array Oper} {Q : Exit → Act → World → Prop} {i : Nat} {K : Act → World → Prop} {a : Act} {w : World} {o : Oper} (ho : ops[i]? = some o) (hg : o.guard = none) (h : o.wp P a w K Q) : wpOp P ops Q i K a w := by
  unfold wpOp
  rw [ho]
  have hw : Region.wanted o (yielded ops a.tmps) = true := by simp [Region.wanted, hg]
  simp only [hw, if_true]
  exact .inl h

theorem not_ready {md : Region.Mode} {ops : Array Oper} {listed : Array Bool} (h : Region.ready md ops listed = []) (j : Nat) (o : Oper) (ho : ops[j]? = some o) (he : ∀ e ∈ o.after, Region.binds md e = true → listed.getD e.on false = true) : listed.getD j true = true := by
  rcases hc : listed.getD j true with _ | _
  · have h1 := mem_ready.2 ⟨hc, o, ho, he⟩
    rw [h] at h1
    cases h1
  · rfl

def b1 (b : Bool) : Nat := if b then 1 else 0
/-- the frame of 'afar' while its first statement is carried out. -/
def afAct (v0 v1 p2 p3 u5 u6 u7 u8 u9 u10 : Value) : Act := { tmps := #[v0, v1, p2, p3, .int .i64 0, u5, u6, u7, u8, u9, u10, undef, undef, undef], defers := [] }
structure AfI (W0 : World) (s : Nat) (v0 v1 : Value) (F G BF BG : List Int) (n : Nat) (listed : Array Bool) (a : Act) (w : World) : Prop where
  ex : ∃ (l0 l1 l2 l3 l4 l5 l6 l7 : Bool) (u5 u6 u7 u8 u9 u10 : Value) (x y : Nat) (xs ys : List Int), listed = #[l0, l1, l2, l3, l4, l5, l6, l7] ∧ n = b1 l0 + b1 l1 + b1 l2 + b1 l3 + b1 l4 + b1 l5 + b1 l6 + b1 l7 ∧
    a = afAct v0 v1 (.pointer (some ⟨s, 0, none⟩)) (.pointer (some ⟨s + 1, 0, none⟩)) u5 u6 u7 u8 u9 u10 ∧ Below W0.heap.size W0 w ∧
    (l0 = true → u7 = .agg (nums .u8 F).toArray) ∧ (l1 = true → u8 = .agg (nums .u8 BF).toArray) ∧ (l2 = true → u9 = .agg (nums .u8 G).toArray) ∧ (l3 = true → u10 = .agg (nums .u8 BG).toArray) ∧
    (l4 = true → u5 = .pointer (some ⟨x, 0, none⟩) ∧ W0.heap.size ≤ x ∧ xs.length = 6 ∧ NB .u8 w x 71 xs) ∧ (l5 = true → u6 = .pointer (some ⟨y, 0, none⟩) ∧ W0.heap.size ≤ y ∧ ys.length = 6 ∧ NB .u8 w y 71 ys) ∧ (l4 = true → l5 = true → x ≠ y) ∧ (l6 = true → xs = BF) ∧ (l7 = true → ys = BG) ∧ (l6 = true → l4 = true ∧ l5 = true) ∧ (l7 = true → l6 = true)
set_option maxRecDepth 100000 in
set_option maxHeartbeats 8000000 in
theorem afar_ok (f g : List Int) (hf : f.length = 24) (hg : g.length = 24) (hf5 : okF f = true) (hg5 : okF g = true) (hfp : ∀ i, 0 ≤ rn f i) (hgp : ∀ i, 0 ≤ rn g i) (w : World) :
    Calls Try.prog 102 #[av f, av g] w fun e w' => e = .returned (.int .i64 (diffs (blurV f) (blurV g))) ∧ Below w.heap.size w w' := by
  have HF := Lib.hid hf
  have HG := Lib.hid hg
  have HBF := Lib.hid (fun W => blur_ok f hf hf5 hfp W)
  have HBG := Lib.hid (fun W => blur_ok g hg hg5 hgp W)
  have h6f := blurV_length f
  have h6g := blurV_length g
  unfold av at *
  generalize blurV f = bf at *
  generalize blurV g = bg at *
  go_enter Try.func102, Try.ntmps102
  go_wp2
  have hn0 := (NB.new (kd := .u8) w 78 f).alloc (.cells (nums .u8 g).toArray 78)
  have hn1 := NB.new (kd := .u8) (w.alloc (.cells (nums .u8 f).toArray 78)) 78 g
  rw [size_box] at hn1
  have hb0 : Below w.heap.size w ((w.alloc (.cells (nums .u8 f).toArray 78)).alloc (.cells (nums .u8 g).toArray 78)) := below_alloc (below_box _ _) _
  have HN0 := Lib.hid hn0
  have HN1 := Lib.hid hn1
  have HB0 := Lib.hid hb0
  clear hn0 hn1 hb0
  generalize ((w.alloc (.cells (nums .u8 f).toArray 78)).alloc (.cells (nums .u8 g).toArray 78)) = W0 at *
  have HK := Lib.hid (fun W (h : Below W0.heap.size W0 W) => And.intro (show W.rangeAt w.heap.size 0 (nums .u8 f) from fun j v hv => by have := (HN0.out.below' h HN0.out.lt).range j v hv; simpa [add_plain] using this) (show W.rangeAt (w.heap.size + 1) 0 (nums .u8 g) from fun j v hv => by have := (HN1.out.below' h HN1.out.lt).range j v hv; simpa [add_plain] using this))
  refine wp_region_any (by kernel_rfl) ?_
  refine wpAny_inv (AfI W0 w.heap.size (.agg (nums .u8 f).toArray) (.agg (nums .u8 g).toArray) f g bf bg) 8 ?_ ?_ ?_ 8 0 _ _ _ rfl ?_
  · rintro n listed a wz i ⟨l0, l1, l2, l3, l4, l5, l6, l7, u5, u6, u7, u8, u9, u10, x, y, xs, ys, rfl, rfl, rfl, HB, h0, h1, h2, h3, h4, h5, hne, h6, h7, h64, h76⟩ hi K hK
    obtain ⟨hl, o, ho, haft⟩ := mem_ready.1 hi
    have hi8 : i < 8 := by have := (Array.getElem?_eq_some_iff.1 ho).1; simpa using this
    clear hi
    rcases (show i = 0 ∨ i = 1 ∨ i = 2 ∨ i = 3 ∨ i = 4 ∨ i = 5 ∨ i = 6 ∨ i = 7 by omega) with rfl | rfl | rfl | rfl | rfl | rfl | rfl | rfl
    · have hl : l0 = false := by simpa using hl
      subst hl
      refine wpOp_plain rfl rfl ?_
      refine wp_load_mid 78 (.tmp 2) rfl w.heap.size 0 rfl (nums .u8 f) _ (HK.out wz HB).1 Try.underlying78 rfl (by rw [nums_length, HF.out]; exact ainfo_flag) ?_
      exact hK _ _ ⟨⟨true, l1, l2, l3, l4, l5, l6, l7, u5, u6, _, u8, u9, u10, x, y, xs, ys, rfl, by first | (simp [b1] at *; done) | (simp [b1] at *; omega), rfl, HB, fun _ => rfl, h1, h2, h3, h4, h5, hne, h6, h7, h64, h76⟩⟩
    · have hl : l1 = false := by simpa using hl
      subst hl
      have e0 : l0 = true := haft ⟨0, .data⟩ (by rw [← Option.some.inj ho]; simp) rfl
      subst e0
      obtain rfl := h0 rfl
      refine wpOp_plain rfl rfl ?_
      go_simp
      go_at_call 115
      refine (HBF.out _).mono ?_
      rintro e w1 ⟨rfl, hb1⟩
      have hb2 := HB.trans (hb1.mono HB.size)
      exact hK _ _ ⟨⟨true, true, l2, l3, l4, l5, l6, l7, u5, u6, _, _, u9, u10, x, y, xs, ys, rfl, by first | (simp [b1] at *; done) | (simp [b1] at *; omega), rfl, hb2, fun _ => rfl, fun _ => rfl, h2, h3, fun h => ⟨(h4 h).1, (h4 h).2.1, (h4 h).2.2.1, (h4 h).2.2.2.below hb1⟩, fun h => ⟨(h5 h).1, (h5 h).2.1, (h5 h).2.2.1, (h5 h).2.2.2.below hb1⟩, hne, h6, h7, h64, h76⟩⟩
    · have hl : l2 = false := by simpa using hl
      subst hl
      refine wpOp_plain rfl rfl ?_
      refine wp_load_mid 78 (.tmp 3) rfl (w.heap.size + 1) 0 rfl (nums .u8 g) _ (HK.out wz HB).2 Try.underlying78 rfl (by rw [nums_length, HG.out]; exact ainfo_flag) ?_
      exact hK _ _ ⟨⟨l0, l1, true, l3, l4, l5, l6, l7, u5, u6, u7, u8, _, u10, x, y, xs, ys, rfl, by first | (simp [b1] at *; done) | (simp [b1] at *; omega), rfl, HB, h0, h1, fun _ => rfl, h3, h4, h5, hne, h6, h7, h64, h76⟩⟩
    · have hl : l3 = false := by simpa using hl
      subst hl
      have e2 : l2 = true := haft ⟨2, .data⟩ (by rw [← Option.some.inj ho]; simp) rfl
      subst e2
      obtain rfl := h2 rfl
      refine wpOp_plain rfl rfl ?_
      go_simp
      go_at_call 115
      refine (HBG.out _).mono ?_
      rintro e w1 ⟨rfl, hb1⟩
      have hb2 := HB.trans (hb1.mono HB.size)
      exact hK _ _ ⟨⟨l0, l1, true, true, l4, l5, l6, l7, u5, u6, u7, u8, _, _, x, y, xs, ys, rfl, by first | (simp [b1] at *; done) | (simp [b1] at *; omega), rfl, hb2, h0, h1, fun _ => rfl, fun _ => rfl, fun h => ⟨(h4 h).1, (h4 h).2.1, (h4 h).2.2.1, (h4 h).2.2.2.below hb1⟩, fun h => ⟨(h5 h).1, (h5 h).2.1, (h5 h).2.2.1, (h5 h).2.2.2.below hb1⟩, hne, h6, h7, h64, h76⟩⟩
    · have hl : l4 = false := by simpa using hl
      subst hl
      refine wpOp_plain rfl rfl ?_
      go_simp
      have hb1 := below_box wz (.cells #[.int .u8 0, .int .u8 0, .int .u8 0, .int .u8 0, .int .u8 0, .int .u8 0] 71)
      have hb2 := HB.trans (hb1.mono HB.size)
      have hnew : NB .u8 (wz.alloc (.cells #[.int .u8 0, .int .u8 0, .int .u8 0, .int .u8 0, .int .u8 0, .int .u8 0] 71)) wz.heap.size 71 (List.replicate 6 0) := NB.new (kd := .u8) wz 71 (List.replicate 6 0)
      exact hK _ _ ⟨⟨l0, l1, l2, l3, true, l5, l6, l7, _, u6, u7, u8, u9, u10, wz.heap.size, y, (List.replicate 6 0), ys, rfl, by first | (simp [b1] at *; done) | (simp [b1] at *; omega), rfl, hb2, h0, h1, h2, h3, fun _ => ⟨rfl, HB.size, rfl, hnew⟩, fun h => ⟨(h5 h).1, (h5 h).2.1, (h5 h).2.2.1, (h5 h).2.2.2.below hb1⟩, fun _ h => by have := (h5 h).2.2.2.lt; omega, fun h => absurd (h64 h).1 (by simp), h7, fun h => absurd (h64 h).1 (by simp), h76⟩⟩
    · have hl : l5 = false := by simpa using hl
      subst hl
      refine wpOp_plain rfl rfl ?_
      go_simp
      have hb1 := below_box wz (.cells #[.int .u8 0, .int .u8 0, .int .u8 0, .int .u8 0, .int .u8 0, .int .u8 0] 71)
      have hb2 := HB.trans (hb1.mono HB.size)
      have hnew : NB .u8 (wz.alloc (.cells #[.int .u8 0, .int .u8 0, .int .u8 0, .int .u8 0, .int .u8 0, .int .u8 0] 71)) wz.heap.size 71 (List.replicate 6 0) := NB.new (kd := .u8) wz 71 (List.replicate 6 0)
      exact hK _ _ ⟨⟨l0, l1, l2, l3, l4, true, l6, l7, u5, _, u7, u8, u9, u10, x, wz.heap.size, xs, (List.replicate 6 0), rfl, by first | (simp [b1] at *; done) | (simp [b1] at *; omega), rfl, hb2, h0, h1, h2, h3, fun h => ⟨(h4 h).1, (h4 h).2.1, (h4 h).2.2.1, (h4 h).2.2.2.below hb1⟩, fun _ => ⟨rfl, HB.size, rfl, hnew⟩, fun h _ => by have := (h4 h).2.2.2.lt; omega, h6, fun h => absurd (h64 (h76 h)).2 (by simp), fun h => absurd (h64 h).2 (by simp), h76⟩⟩
    · have hl : l6 = false := by simpa using hl
      subst hl
      have e4 : l4 = true := haft ⟨4, .data⟩ (by rw [← Option.some.inj ho]; simp) rfl
      subst e4
      have e1 : l1 = true := haft ⟨1, .data⟩ (by rw [← Option.some.inj ho]; simp) rfl
      subst e1
      have e0 : l0 = true := haft ⟨0, .phase⟩ (by rw [← Option.some.inj ho]; simp) rfl
      subst e0
      have e3 : l3 = true := haft ⟨3, .chain⟩ (by rw [← Option.some.inj ho]; simp) rfl
      subst e3
      have e5 : l5 = true := haft ⟨5, .phase⟩ (by rw [← Option.some.inj ho]; simp) rfl
      subst e5
      obtain rfl := h1 rfl
      obtain ⟨rfl, hxb, hxl, hnb⟩ := h4 rfl
      obtain ⟨h51, h52, h53, h54⟩ := h5 rfl
      have hxy := hne rfl rfl
      refine wpOp_plain rfl rfl ?_
      refine wp_store_mid 71 (.tmp 5) (.tmp 8) rfl x 0 (nums .u8 bf).toArray rfl rfl (by simpa [nums, h6f, hxl] using hnb.there) (by simp only [List.size_toArray, nums_length, h6f]; exact ainfo_six) (all_oneCell_toArray (nums_one _ _)) ?_
      have hov := hnb.over (ys := bf) (by rw [h6f, hxl])
      have hbw := setCells_below HB hxb (nums .u8 bf) 0
      exact hK _ _ ⟨⟨true, true, l2, true, true, true, true, l7, _, u6, u7, _, u9, u10, x, y, bf, ys, rfl, by first | (simp [b1] at *; done) | (simp [b1] at *; omega), rfl, hbw, h0, fun _ => rfl, h2, h3, fun _ => ⟨rfl, hxb, h6f, hov⟩, fun _ => ⟨h51, h52, h53, (setCells_far _ 0 _ (Ne.symm hxy)).trans h54⟩, hne, fun _ => rfl, h7, fun _ => ⟨rfl, rfl⟩, fun h => absurd (h76 h) (by simp)⟩⟩
    · have hl : l7 = false := by simpa using hl
      subst hl
      have e5 : l5 = true := haft ⟨5, .data⟩ (by rw [← Option.some.inj ho]; simp) rfl
      subst e5
      have e3 : l3 = true := haft ⟨3, .data⟩ (by rw [← Option.some.inj ho]; simp) rfl
      subst e3
      have e6 : l6 = true := haft ⟨6, .chain⟩ (by rw [← Option.some.inj ho]; simp) rfl
      subst e6
      have e4 : l4 = true := haft ⟨4, .phase⟩ (by rw [← Option.some.inj ho]; simp) rfl
      subst e4
      obtain rfl := h3 rfl
      obtain ⟨rfl, hxb, hxl, hnb⟩ := h5 rfl
      obtain ⟨h41, h42, h43, h44⟩ := h4 rfl
      have hxy := hne rfl rfl
      refine wpOp_plain rfl rfl ?_
      refine wp_store_mid 71 (.tmp 6) (.tmp 10) rfl y 0 (nums .u8 bg).toArray rfl rfl (by simpa [nums, h6g, hxl] using hnb.there) (by simp only [List.size_toArray, nums_length, h6g]; exact ainfo_six) (all_oneCell_toArray (nums_one _ _)) ?_
      have hov := hnb.over (ys := bg) (by rw [h6g, hxl])
      have hbw := setCells_below HB hxb (nums .u8 bg) 0
      exact hK _ _ ⟨⟨l0, l1, l2, true, true, true, true, true, u5, _, u7, u8, u9, _, x, y, xs, bg, rfl, by first | (simp [b1] at *; done) | (simp [b1] at *; omega), rfl, hbw, h0, h1, h2, fun _ => rfl, fun _ => ⟨h41, h42, h43, (setCells_far _ 0 _ hxy).trans h44⟩, fun _ => ⟨rfl, hxb, h6g, hov⟩, hne, h6, fun _ => rfl, fun _ => ⟨rfl, rfl⟩, fun _ => rfl⟩⟩
  · rintro n listed a wz ⟨l0, l1, l2, l3, l4, l5, l6, l7, u5, u6, u7, u8, u9, u10, x, y, xs, ys, rfl, rfl, rfl, HB, h0, h1, h2, h3, h4, h5, hne, h6, h7, h64, h76⟩ hr
    have t0 : l0 = true := not_ready hr 0 _ rfl (by simp [Region.binds])
    subst t0
    have t2 : l2 = true := not_ready hr 2 _ rfl (by simp [Region.binds])
    subst t2
    have t4 : l4 = true := not_ready hr 4 _ rfl (by simp [Region.binds])
    subst t4
    have t5 : l5 = true := not_ready hr 5 _ rfl (by simp [Region.binds])
    subst t5
    have t1 : l1 = true := not_ready hr 1 _ rfl (by simp [Region.binds])
    subst t1
    have t3 : l3 = true := not_ready hr 3 _ rfl (by simp [Region.binds])
    subst t3
    have t6 : l6 = true := not_ready hr 6 _ rfl (by simp [Region.binds])
    subst t6
    have t7 : l7 = true := not_ready hr 7 _ rfl (by simp [Region.binds])
    subst t7
    obtain ⟨rfl, hxb, hxl, hnx⟩ := h4 rfl
    obtain ⟨rfl, hyb, hyl, hny⟩ := h5 rfl
    obtain rfl := h6 rfl
    obtain rfl := h7 rfl
    have hcx := hnx.nums_read (by omega)
    have hcy := hny.nums_read (by omega)
    have hcall := fun (W : World) (n : Nat) (hW : W = wz.drewN n) => unlike_ok (some ⟨x, 0, none⟩) 6 xs (some ⟨y, 0, none⟩) 6 ys W (by rw [hW]; exact hcx) (by rw [hW]; exact hcy) (by omega)
    rw [hxl, hyl] at hcall
    have HC := Lib.hid hcall
    have HW := Lib.hid HB
    have hcell := hnx.cell (i := 0) (by omega)
    have hcell' := hny.cell (i := 0) (by omega)
    clear hcall hcx hcy HB h0 h1 h2 h3 h4 h5 h6 h7 hne h64 h76 hr hnx hny HK HN0 HN1 HBF HBG HF HG hf hg hf5 hg5 hfp hgp
    unfold afAct
    go_wp2
    go_quiet ((go_at_call 60; first | exact quiet_add_same (HC.out _ _ rfl) | exact quiet_same (HC.out _ _ rfl)))
    go_wp2
    go_ret
    exact ⟨rfl, below_dN (HB0.out.trans (HW.out.mono HB0.out.size)) _⟩
  · rintro listed a wz ⟨l0, l1, l2, l3, l4, l5, l6, l7, u5, u6, u7, u8, u9, u10, x, y, xs, ys, rfl, hn, -⟩
    have hall : l0 = true ∧ l1 = true ∧ l2 = true ∧ l3 = true ∧ l4 = true ∧ l5 = true ∧ l6 = true ∧ l7 = true := by
      revert hn
      cases l0 <;> cases l1 <;> cases l2 <;> cases l3 <;> cases l4 <;> cases l5 <;> cases l6 <;> cases l7 <;> simp [b1]
    obtain ⟨rfl, rfl, rfl, rfl, rfl, rfl, rfl, rfl⟩ := hall
    rfl
  · exact ⟨⟨false, false, false, false, false, false, false, false, undef, undef, undef, undef, undef, undef, 0, 0, [], [], rfl, rfl, rfl, below_one (Below.refl _ _), fun h => (by cases h), fun h => (by cases h), fun h => (by cases h), fun h => (by cases h), fun h => (by cases h), fun h => (by cases h), fun h => (by cases h), fun h => (by cases h), fun h => (by cases h), fun h => (by cases h), fun h => (by cases h)⟩⟩
end Go.Proofs.Ytjadhhnajphibaa
namespace Go.Proofs.Ytjadhhnajphibaa
open Go.RowKit Go.Proofs.YtjadhhnajphibaaW.PrintWords

section
variable {P : Program}
theorem load_agg_g {ops : Array Oper} {rest : List Oper} {op : Oper} {a : Act} {w : World} {Q : Exit → Act → World → Prop} (hgd : Region.wanted op (yielded ops a.tmps) = true) (ty : TypeId) (x : Operand) (ho : op.op = .load ty x)
    (a0 : Addr) (hx : a.eval x = .pointer (some a0)) (cs : List Value) (d : TypeDesc) (hc : ∀ j v, cs[j]? = some v → w.cell? (a0.add j) = some v)
    (hu : P.underlying ty = some d) (hd : d.isRow = true) (hi : (P.info? ty).map (·.size) = some cs.length)
    (h : wpList P ops Q rest (a.put op.dst (.agg cs.toArray)) w) : wpList P ops Q (op :: rest) a w := by
  rw [wpList, if_pos hgd]
  left
  unfold Oper.wp execOp
  simp only [ho, hx, Instr.loadAt, Instr.sureAddr, Sem.run_bind, Sem.run_pure, Result.andThen_ok, run_loadVar_agg w a0 ty cs d hc hu hd hi]
  exact h
theorem quiet_step_agg {ops : Array Oper} {rest : List Oper} {op : Oper} {a : Act} {C : World → Prop} {Q : Act → Prop} (hw : Region.wanted op (yielded ops a.tmps) = true) (ty : TypeId) (x : Operand) (ho : op.op = .load ty x)
    (a0 : Addr) (hx : a.eval x = .pointer (some a0)) (cs : List Value) (d : TypeDesc) (hc : ∀ w, C w → ∀ j v, cs[j]? = some v → w.cell? (a0.add j) = some v)
    (hu : P.underlying ty = some d) (hd : d.isRow = true) (hi : (P.info? ty).map (·.size) = some cs.length)
    (h : wpQuiet P ops C Q rest (a.put op.dst (.agg cs.toArray))) : wpQuiet P ops C Q (op :: rest) a := by
  rw [wpQuiet, if_pos hw]
  refine ⟨.agg cs.toArray, fun w hC => ?_, h⟩
  unfold Oper.quietAt Oper.quietUpon execOp
  simp only [ho, hx, Instr.loadAt, Instr.sureAddr, Sem.run_bind, Sem.run_pure, Result.andThen_ok, run_loadVar_agg w a0 ty cs d (hc w hC) hu hd hi]
  first | trivial | exact ⟨rfl, rfl⟩
end

set_option maxRecDepth 100000 in
set_option maxHeartbeats 4000000 in
theorem BlurDistance_ok (f g : List Int) (hf : f.length = 24) (hg : g.length = 24) (hf5 : okF f = true) (hg5 : okF g = true) (hfp : ∀ i, 0 ≤ rn f i) (hgp : ∀ i, 0 ≤ rn g i) (w : World) :
    Calls Try.prog 48 #[av f, av g] w fun e w' => e = .returned (.tuple #[.int .i64 (diffs (blurV f) (blurV g)), .int .i64 0]) ∧ Below w.heap.size w w' := by
  have HF := Lib.hid hf
  have HG := Lib.hid hg
  have hv := fun W => ValidFlag_ok f hf W
  have hv' := fun W => ValidFlag_ok g hg W
  rw [hf5] at hv
  rw [hg5] at hv'
  have HVF := Lib.hid hv
  have HVG := Lib.hid hv'
  have HAF := Lib.hid (fun W => afar_ok f g hf hg hf5 hg5 hfp hgp W)
  clear hv hv' hf hg hf5 hg5 hfp hgp
  unfold av at *
  have hn0 := (NB.new (kd := .u8) w 78 f).alloc (.cells (nums .u8 g).toArray 78)
  have hn1 := NB.new (kd := .u8) (w.alloc (.cells (nums .u8 f).toArray 78)) 78 g
  rw [size_box] at hn1
  have hb0 : Below w.heap.size w ((w.alloc (.cells (nums .u8 f).toArray 78)).alloc (.cells (nums .u8 g).toArray 78)) := below_alloc (below_box _ _) _
  have HN0 := Lib.hid hn0
  have HN1 := Lib.hid hn1
  have HB0 := Lib.hid hb0
  clear hn0 hn1 hb0
  have HK0 := Lib.hid (fun W (h : Below ((w.alloc (.cells (nums .u8 f).toArray 78)).alloc (.cells (nums .u8 g).toArray 78)).heap.size ((w.alloc (.cells (nums .u8 f).toArray 78)).alloc (.cells (nums .u8 g).toArray 78)) W) => (HN0.out.below' h HN0.out.lt).range)
  have HK1 := Lib.hid (fun W (h : Below ((w.alloc (.cells (nums .u8 f).toArray 78)).alloc (.cells (nums .u8 g).toArray 78)).heap.size ((w.alloc (.cells (nums .u8 f).toArray 78)).alloc (.cells (nums .u8 g).toArray 78)) W) => (HN1.out.below' h HN1.out.lt).range)
  go_enter Try.func48, Try.ntmps48
  go_wp2_with (refine load_agg rfl 78 (.tmp 2) rfl ⟨w.heap.size, 0, none⟩ rfl (nums .u8 f) _ (HK0.out _ (Below.refl _ _)) Try.underlying78 rfl (by rw [nums_length, HF.out]; exact ainfo_flag) ?_)
  refine (HVF.out _).mono ?_
  rintro e w1 ⟨rfl, hb1⟩
  have HB1 := Lib.hid hb1
  clear hb1
  go_wp2_with (refine load_agg_g (by rfl) 78 (.tmp 3) rfl ⟨w.heap.size + 1, 0, none⟩ rfl (nums .u8 g) _ (HK1.out _ HB1.out) Try.underlying78 rfl (by rw [nums_length, HG.out]; exact ainfo_flag) ?_)
  refine (HVG.out _).mono ?_
  rintro e w2 ⟨rfl, hb2⟩
  have HB2 := Lib.hid (HB1.out.trans (hb2.mono HB1.out.size))
  clear hb2
  go_wp2_with (first | (refine load_agg rfl 78 (.tmp 2) rfl ⟨w.heap.size, 0, none⟩ rfl (nums .u8 f) _ (HK0.out _ HB2.out) Try.underlying78 rfl (by rw [nums_length, HF.out]; exact ainfo_flag) ?_) | (refine load_agg rfl 78 (.tmp 3) rfl ⟨w.heap.size + 1, 0, none⟩ rfl (nums .u8 g) _ (HK1.out _ HB2.out) Try.underlying78 rfl (by rw [nums_length, HG.out]; exact ainfo_flag) ?_))
  refine (HAF.out _).mono ?_
  rintro e w3 ⟨rfl, hb3⟩
  have HB3 := Lib.hid (HB2.out.trans (hb3.mono HB2.out.size))
  clear hb3
  go_wp2_with fail
  go_ret2
  exact ⟨rfl, HB0.out.trans (HB3.out.mono HB0.out.size)⟩

/-- the flags that look like the first one. -/
def confTo (D : Nat → Nat) : Nat → List Int
  | 0 => []
  | k + 1 => if k ≠ 0 ∧ D k ≤ 3 then confTo D k ++ [(k : Int)] else confTo D k
theorem confTo_yes {D : Nat → Nat} {k : Nat} (h : k ≠ 0 ∧ D k ≤ 3) : confTo D (k + 1) = confTo D k ++ [(k : Int)] := by rw [confTo, if_pos h]
theorem confTo_no {D : Nat → Nat} {k : Nat} (h : ¬ (k ≠ 0 ∧ D k ≤ 3)) : confTo D (k + 1) = confTo D k := by rw [confTo, if_neg h]
theorem confTo_len (D : Nat → Nat) (k : Nat) : (confTo D k).length ≤ k := by
  induction k with
  | zero => simp [confTo]
  | succ k ih =>
    by_cases h : k ≠ 0 ∧ D k ≤ 3
    · rw [confTo_yes h]; simp; omega
    · rw [confTo_no h]; omega
theorem confTo_mem {D : Nat → Nat} {n : Nat} {x : Int} : x ∈ confTo D n ↔ ∃ i : Nat, x = i ∧ i < n ∧ i ≠ 0 ∧ D i ≤ 3 := by
  induction n with
  | zero => simp [confTo]
  | succ n ih =>
    by_cases h : n ≠ 0 ∧ D n ≤ 3
    · rw [confTo_yes h, List.mem_append, ih, List.mem_singleton]
      constructor
      · rintro (⟨i, h1, h2, h3⟩ | rfl)
        · exact ⟨i, h1, by omega, h3⟩
        · exact ⟨n, rfl, by omega, h⟩
      · rintro ⟨i, rfl, h2, h3⟩
        by_cases e : i = n
        · subst e; exact .inr rfl
        · exact .inl ⟨i, rfl, by omega, h3⟩
    · rw [confTo_no h, ih]
      constructor
      · rintro ⟨i, h1, h2, h3⟩; exact ⟨i, h1, by omega, h3⟩
      · rintro ⟨i, rfl, h2, h3⟩
        refine ⟨i, rfl, ?_, h3⟩
        by_cases e : i = n
        · subst e; exact absurd h3 h
        · omega
def dFar (fs : List (List Int)) (k : Nat) : Nat := diffs (blurV (rl fs 0)) (blurV (rl fs k))

set_option maxRecDepth 100000 in
set_option maxHeartbeats 8000000 in
theorem ConfusedFlags_ok (A : Option Addr) (c : Nat) (fs : List (List Int)) (w : World) (h2 : 2 ≤ fs.length) (h7 : fs.length ≤ 7) (hfl : ∀ k, k < fs.length → Fl (rl fs k)) (h0 : (Karr 24).C w A fs.length fs) :
    Calls Try.prog 47 #[.slice A fs.length c, .int .i64 0, .int .i64 3] w fun e w' => ∃ v, e = .returned (.tuple #[v, .int .i64 0]) ∧ w'.ownsRow w.heap.size 2 1 v (confTo (dFar fs) fs.length).length (nums .i64 (confTo (dFar fs) fs.length)) ∧ Below w.heap.size w w' := by
  have hok : okFs fs = true := allB_iff.2 fun k hk => (hfl k hk).ok
  have hsv : setV fs 0 = 0 := by
    rcases setV0 fs with h | h
    · exact h.1
    · have := h.2
      rw [hok] at this
      simp at this
      omega
  have hsc := setCode_ok A c fs 0 w h0
  rw [hsv] at hsc
  have HSC := Lib.hid hsc
  have HSZ := Lib.hid (fun W => sizeFlag_ok A c fs.length W (by omega))
  have HI1 := Lib.hid (inB_yes (n := 0) (low := 0) (high := (fs.length : Int) - 1) (by omega) (by omega))
  have HI2 : Hid (inB 3 0 6 = true) := rfl
  have H0 := Lib.hid h0
  have HFL := Lib.hid hfl
  have HDF : Hid (∀ k, dFar fs k = diffs (blurV (rl fs 0)) (blurV (rl fs k))) := fun _ => rfl
  clear hok hsv hsc h0 hfl
  generalize dFar fs = D at *
  go_enter Try.func47, Try.ntmps47
  go_wp2_with fail
  refine HSC.out.mono ?_
  rintro e w1 ⟨rfl, hb1⟩
  have HB1 := Lib.hid hb1
  clear hb1 HSC
  go_wp2_with (first | (go_at_call 99; refine (HSZ.out _).mono ?_; rintro e w' ⟨rfl, rfl⟩) | (go_at_call 54; refine (within_ok _ _ _ _).mono ?_; rintro e w' ⟨rfl, rfl⟩; first | rw [HI1.out] | rw [HI2.out]) | (go_at_call 53; refine (unless_ok _ _ _).mono ?_; rintro e w' ⟨rfl, rfl⟩; rw [show unlessV true 2 = 0 from rfl]) | (go_at_call 51; refine (firstOf2_ok _ _ 0 0 _ (by simp) (by simp)).mono ?_; rintro e w' ⟨rfl, rfl⟩; rw [show firstV 0 0 = 0 from rfl]))
  have hb2 := below_box w1 (.cells #[.int .i64 0, .int .i64 0] 2)
  have hz2 := size_box w1 (.cells #[.int .i64 0, .int .i64 0] 2)
  have HR0 := Lib.hid (own_made (w1.alloc (.cells #[.int .i64 0, .int .i64 0] 2)) 2 (w1.heap.size + 1) 1 _ hz2 (Nat.le_refl _))
  have HB2 := Lib.hid (below_box (w1.alloc (.cells #[.int .i64 0, .int .i64 0] 2)) (.cells #[] 2))
  have HB12 := Lib.hid (HB1.out.trans (hb2.mono HB1.out.size))
  have HA := Lib.hid (C_below' H0.out HB12.out)
  clear hb2
  generalize hW2 : (w1.alloc (.cells #[.int .i64 0, .int .i64 0] 2)).alloc (.cells #[] 2) = W2 at *
  clear hW2
  generalize w1.alloc (.cells #[.int .i64 0, .int .i64 0] 2) = W1 at *
  go_loopw [9, 10, 11, 32] (fun v _ _ i wr => ∃ (k : Nat), k ≤ fs.length ∧ i = .int .i64 k ∧ Hid (wr.ownsRow (w1.heap.size + 1) 2 1 v (confTo D k).length (nums .i64 (confTo D k))) ∧ Hid (Below W1.heap.size W1 wr)) (fun _ _ _ i _ => fs.length - (intOf i).toNat)
  case atStart => exact ⟨0, Nat.zero_le _, rfl, HR0, HB2⟩
  case round =>
    clear HR0 HB2
    obtain ⟨k, hk, rfl, HO, HB⟩ := hrel
    by_cases hlt : k < fs.length
    · have hlti : (k : Int) < (fs.length : Int) := by omega
      obtain ⟨ad, rfl, hlk, hcell⟩ := at_arr (C_below' HA.out HB.out) hlt
      have HCELL := Lib.hid hcell
      have HLK := Lib.hid hlk
      have hltk := cell_lt (cells_nums hcell (k := 0) (by omega))
      rw [addr_block] at hltk
      have HCLT := Lib.hid hltk
      clear hcell hlk hltk
      go_wp2_with (first | (refine load_agg rfl 78 (.tmp 35) rfl (ad.add (k * 24)) rfl (nums .u8 (rl fs k)) _ HCELL.out Try.underlying78 rfl (by rw [nums_length, HLK.out]; exact ainfo_flag) ?_) | (refine new_store rfl (.tmp 11) (.tmp 36) rfl wr (rl fs k) HLK.out rfl rfl ?_; intro w3 HN3 HB3; simp only [Act.put]))
      have HB13 := Lib.hid (HB.out.trans (HB3.out.mono HB.out.size))
      have HO3 := Lib.hid (pw_own_below HO.out HB3.out)
      have hcl := confTo_len D k
      by_cases hk0 : k = 0
      · have HQ := Lib.hid (confTo_no (D := D) (k := k) (by simp [hk0]))
        have hkb : ((k : Int) != 0) = false := by simp [hk0]
        clear hk0
        (haveI hne9 := fam_ne (w3).heap.size (w3); refine wp_region_fam (w3).heap.size (w3) (Below.refl _ _) (by kernel_rfl) (by kernel_rfl) ?_; (repeat (go_big_quiet_step ((fail)))); refine wpQuiet_nil ?_; intro _ hw'; obtain ⟨nq, hw''⟩ := hw'; subst hw''; clear hne9)
        have HB5 := Lib.hid (HB13.out.trans (nq.below.mono HB13.out.size))
        have HO5 := Lib.hid (pw_own_below HO3.out nq.below)
        generalize nq.at = w5 at *
        go_wp2
        go_roundw
        case rel => exact ⟨k + 1, by omega, by go_num, by rw [HQ.out]; exact HO5.out, HB5.out⟩
        case measure => first|(simp [intOf]; done)|(simp [intOf]; omega)
      · have hkb : ((k : Int) != 0) = true := by rw [bne_iff_ne]; omega
        have h0l : (0 : Int) < (fs.length : Int) := by omega
        obtain ⟨ad', hA', hl0, hcell0⟩ := at_arr (C_below' HA.out HB13.out) (show 0 < fs.length by omega)
        injection hA' with hA'
        subst hA'
        rw [Nat.zero_mul, Addr.add_zero'] at hcell0
        have hlt0 := cell_lt (cells_nums hcell0 (k := 0) (by omega))
        rw [addr_block] at hlt0
        have HF0 := Lib.hid (fun W (h : Below w3.heap.size w3 W) j v hv => (h.cell (p := ad.add j) (by rw [addr_block]; exact hlt0)).trans (hcell0 j v hv))
        have HFK := Lib.hid (fun W (h : Below w3.heap.size w3 W) => (HN3.out.below' h HN3.out.lt).range)
        have HAF := Lib.hid (fun W => afar_ok (rl fs 0) (rl fs k) hl0 HLK.out (HFL.out 0 (by omega)).ok (HFL.out k hlt).ok (fun i => ((HFL.out 0 (by omega)).2 i).1) (fun i => ((HFL.out k hlt).2 i).1) W)
        rw [← HDF.out] at HAF
        have HL0 := Lib.hid hl0
        have hdb : D k ≤ 6 := by rw [HDF.out]; have := diffs_le (blurV (rl fs 0)) (blurV (rl fs k)); rw [blurV_length] at this; exact this
        clear hcell0 hlt0 hl0
        unfold av at HAF
        have HQ := Lib.hid (fun h => confTo_yes (D := D) (k := k) h)
        have HQ' := Lib.hid (fun h => confTo_no (D := D) (k := k) h)
        generalize D k = d at *
        (haveI hne9 := fam_ne w3.heap.size w3; refine wp_region_fam w3.heap.size w3 (Below.refl _ _) (by kernel_rfl) (by kernel_rfl) ?_; (repeat (first | (refine quiet_step_agg (by rfl) 78 (.tmp 43) rfl ad rfl (nums .u8 (rl fs 0)) _ (fun w' hw' => by obtain ⟨nn, rfl⟩ := hw'; exact HF0.out _ nn.below) Try.underlying78 rfl (by rw [nums_length, HL0.out]; exact ainfo_flag) ?_; simp only [Act.put, List.setIfInBounds_toArray, List.set_cons_zero, List.set_cons_succ]) | (refine quiet_step_agg (by rfl) 78 (.tmp 11) rfl ⟨wr.heap.size, 0, none⟩ rfl (nums .u8 (rl fs k)) _ (fun w' hw' => by obtain ⟨nn, rfl⟩ := hw'; exact HFK.out _ nn.below) Try.underlying78 rfl (by rw [nums_length, HLK.out]; exact ainfo_flag) ?_; simp only [Act.put, List.setIfInBounds_toArray, List.set_cons_zero, List.set_cons_succ]) | go_big_quiet_step ((go_at_call 102; exact fam_call (Nat.le_refl _) (HAF.out _))))); refine wpQuiet_nil ?_; intro _ hw'; obtain ⟨nq, hw''⟩ := hw'; subst hw''; clear hne9)
        have HB5 := Lib.hid (HB13.out.trans (nq.below.mono HB13.out.size))
        have HO5 := Lib.hid (pw_own_below HO3.out nq.below)
        generalize nq.at = w5 at *
        by_cases hd3 : d ≤ 3
        · have hd3i : (d : Int) ≤ 3 := by omega
          have HQQ := Lib.hid (HQ.out ⟨hk0, hd3⟩)
          go_wp2_with (at_builtin; refine print_append_num (w0 := W1) (W := w5) (w1.heap.size + 1) rfl (.tmp 50) (.tmp 52) 63 2 .i64 8 rfl Try.underlying63 uinfo_i64 (by omega) _ (confTo D k) k rfl rfl HO5.out (by rw [← hz2]; exact HB5.out) (by rw [← hz2]; exact HB5.out.size) (by omega) ?_; intro v2 w6 hO2 hb2 hg2 hat2)
          go_roundw
          case rel => exact ⟨k + 1, by omega, by go_num, by rw [HQQ.out]; exact hO2, by rw [hz2]; exact hb2⟩
          case measure => first|(simp [intOf]; done)|(simp [intOf]; omega)
        · have hd3i : ¬ (d : Int) ≤ 3 := by omega
          have HQQ := Lib.hid (HQ'.out (fun h => hd3 h.2))
          go_wp2
          go_roundw
          case rel => exact ⟨k + 1, by omega, by go_num, by rw [HQQ.out]; exact HO5.out, HB5.out⟩
          case measure => first|(simp [intOf]; done)|(simp [intOf]; omega)
    · obtain rfl : k = fs.length := by omega
      go_wp2
      go_ret2
      exact ⟨_, rfl, own_weaken (base := w1.heap.size + 1) HO.out (by have := HB1.out.size; omega), HB12.out.trans (HB.out.mono HB12.out.size)⟩
end Go.Proofs.Ytjadhhnajphibaa
namespace Go.Proofs.Ytjadhhnajphibaa

theorem blurV_in (f : List Int) (b : Nat) : 0 ≤ rn (blurV f) b ∧ rn (blurV f) b ≤ 5 := by
  by_cases hb : b < 6
  · have h1 : rn (blurV f) b = (blurAt f b : Int) := by simp [rn, blurV, List.getD_eq_getElem?_getD, hb]
    have h2 : blurAt f b < 6 := bestTo_lt _ (by omega)
    omega
  · have h1 : rn (blurV f) b = 0 := rn_out (by rw [blurV_length]; omega)
    omega
theorem rl_see (fs : List (List Int)) (x : List Int) {j : Nat} (hj : j < x.length) : rl (see fs x) j = blurV (rl fs (rn x j).toNat) := by
  have h : rl (see fs x) j = ((see fs x)[j]?).getD [] := by simp [rl, List.getD_eq_getElem?_getD]
  rw [h]
  simp [see, seeTo, hj]
theorem okS_see (fs : List (List Int)) (x : List Int) : okS (see fs x) = true := by
  refine okS_yes fun j hj => okF_yes fun i _ => ?_
  rw [see_length] at hj
  rw [rl_see fs x hj, decide_eq_false_iff_not]
  have := (blurV_in (rl fs (rn x j).toNat) i).2
  omega
theorem rl_set (xss : List (List Int)) (k i : Nat) (x : List Int) : rl (xss.set k x) i = if k = i ∧ k < xss.length then x else rl xss i := by
  simp only [rl, List.getD_eq_getElem?_getD, List.getElem?_set]
  by_cases h : k = i
  · subst h
    by_cases h2 : k < xss.length
    · simp [h2]
    · simp [h2]
  · simp [h]
/-- one block of what is seen is changed. -/
def seenV (due : List (List Int)) (k j : Nat) (v : Int) : List (List Int) := due.set k ((rl due k).set j v)
theorem seen_len (due : List (List Int)) (k j : Nat) (v : Int) : (seenV due k j v).length = due.length := by simp [seenV]
theorem seen_each {due : List (List Int)} {k j : Nat} {v : Int} (h : ∀ s ∈ due, s.length = 6) (hk : k < due.length) : ∀ s ∈ seenV due k j v, s.length = 6 := by
  intro s hs
  rcases List.mem_or_eq_of_mem_set hs with h1 | h1
  · exact h s h1
  · rw [h1, List.length_set]
    refine h _ ?_
    have : rl due k = due[k] := by simp [rl, List.getD_eq_getElem?_getD, hk]
    rw [this]
    exact List.getElem_mem hk
theorem seen_ok {due : List (List Int)} {k j : Nat} {v : Int} (h : okS due = true) (hv : v ≤ 5) : okS (seenV due k j v) = true := by
  have h1 := allB_iff.1 h
  refine okS_yes fun i hi => ?_
  rw [seen_len] at hi
  unfold seenV
  rw [rl_set]
  split
  · rename_i hc
    obtain ⟨rfl, _⟩ := hc
    have h2 := allB_iff.1 (h1 k hi)
    refine okF_yes fun m hm => ?_
    rw [List.length_set] at hm
    rw [rn_set, decide_eq_false_iff_not]
    split
    · omega
    · have := h2 m hm
      simp at this
      omega
  · exact h1 i hi
theorem sum_one {f : Nat → Nat} {k : Nat} (h : ∀ i, i ≠ k → f i = 0) : ∀ n, sumTo f n ≤ if k < n then f k else 0
  | 0 => by simp [sumTo]
  | n + 1 => by
    have ih := sum_one h n
    rw [sumTo]
    by_cases e : n = k
    · subst e
      simp at ih ⊢
      omega
    · rw [h n e]
      by_cases hk : k < n
      · rw [if_pos hk] at ih
        rw [if_pos (by omega)]
        omega
      · rw [if_neg hk] at ih
        rw [if_neg (by omega)]
        omega
theorem cnt_single {p : Nat → Bool} {j : Nat} (h : ∀ i, i ≠ j → p i = false) : ∀ n, cnt p n ≤ if j < n then 1 else 0
  | 0 => by simp [cnt]
  | n + 1 => by
    have ih := cnt_single h n
    rw [cnt]
    by_cases e : n = j
    · subst e
      simp at ih ⊢
      rw [ih]
      split <;> omega
    · rw [h n e]
      simp only [Bool.false_eq_true, if_false, Nat.add_zero]
      by_cases hk : j < n
      · rw [if_pos hk] at ih
        rw [if_pos (by omega)]
        exact ih
      · rw [if_neg hk] at ih
        rw [if_neg (by omega)]
        exact ih
theorem diffs_set (xs : List Int) (j : Nat) (v : Int) : diffs xs (xs.set j v) ≤ 1 := by
  unfold diffs diffsTo
  have h := cnt_single (p := fun i => rn xs i != rn (xs.set j v) i) (j := j) (fun i hi => by
    rw [rn_set, if_neg (fun h => hi h.1.symm)]
    simp) xs.length
  refine Nat.le_trans h ?_
  split <;> omega
theorem far_seen (due : List (List Int)) (k j : Nat) (v : Int) : farS due (seenV due k j v) ≤ 1 := by
  unfold farS farTo
  have h := sum_one (f := fun i => diffs (rl due i) (rl (seenV due k j v) i)) (k := k) (fun i hi => by
    unfold seenV
    rw [rl_set, if_neg (fun h => hi h.1.symm)]
    exact diffs_self _) due.length
  refine Nat.le_trans h ?_
  split
  · unfold seenV
    rw [rl_set]
    split
    · exact diffs_set _ _ _
    · rw [diffs_self]; omega
  · omega
theorem flat_set : ∀ (due : List (List Int)) (k j : Nat) (v : Int), (∀ s ∈ due, s.length = 6) → k < due.length → j < 6 → flat (seenV due k j v) = (flat due).set (k * 6 + j) v
  | [], k, _, _, _, hk, _ => absurd hk (by simp)
  | d :: due, 0, j, v, h, _, hj => by
    have hd := h d List.mem_cons_self
    simp only [seenV, flat, rl, List.getD_eq_getElem?_getD, List.getElem?_cons_zero, Option.getD_some, List.set_cons_zero, List.flatten_cons, Nat.zero_mul, Nat.zero_add]
    rw [List.set_append_left _ _ (by omega)]
  | d :: due, k + 1, j, v, h, hk, hj => by
    have hd := h d List.mem_cons_self
    have ih := flat_set due k j v (fun s hs => h s (List.mem_cons_of_mem _ hs)) (by simpa using hk) hj
    have e : (k + 1) * 6 + j = d.length + (k * 6 + j) := by rw [hd]; omega
    have e2 : seenV (d :: due) (k + 1) j v = d :: seenV due k j v := by simp [seenV, rl]
    rw [e2, e]
    simp only [flat, List.flatten_cons] at ih ⊢
    rw [ih, List.set_append_right _ _ (by omega)]
    congr 2
    omega
theorem cand_single {D : Nat → Nat} {i : Nat} (h0 : D i = 0) : ∀ {n : Nat}, (∀ w, w < n → w = i ∨ 0 < D w) → candTo D 0 n = if i < n then [(i : Int)] else []
  | 0, _ => by simp [candTo]
  | n + 1, h => by
    have ih := cand_single h0 (n := n) (fun w hw => h w (by omega))
    rcases h n (by omega) with e | e
    · subst e
      rw [candTo_yes (by omega), ih]
      simp
    · have hne : i ≠ n := fun hc => by subst hc; omega
      rw [candTo_no (by omega), ih]
      by_cases hk : i < n
      · rw [if_pos hk, if_pos (by omega)]
      · rw [if_neg hk, if_neg (by omega)]
theorem read_alone {D : Nat → Nat} {n i : Nat} (hi : i < n) (h0 : D i = 0) (h : ∀ w, w < n → w = i ∨ 0 < D w) : rsOut (rsTo D n) = ((i : Int), 0, 0) := by
  obtain ⟨h1, _, _, tl, h4, h5⟩ := rs_cand D n (by omega)
  have h6 := rs_least D n i hi
  rcases hs : rsTo D n with ⟨b, l, c⟩
  rw [hs] at h1 h4 h5 h6
  simp only at h1 h4 h5 h6
  obtain rfl : l = 0 := by omega
  rw [cand_single h0 h, if_pos hi] at h4
  injection h4 with h7 h8
  subst h7 h8
  simp at h5
  subst h5
  rfl
theorem read_two {D : Nat → Nat} {n i w : Nat} (hi : i < n) (h0 : D i = 0) (hw : w < n) (hne : w ≠ i) (h : D w = 0) : rsOut (rsTo D n) = (0, 0, 8) := by
  obtain ⟨h1, _, _, tl, h4, h5⟩ := rs_cand D n (by omega)
  have h6 := rs_least D n i hi
  rcases hs : rsTo D n with ⟨b, l, c⟩
  rw [hs] at h1 h4 h5 h6
  simp only at h1 h4 h5 h6
  obtain rfl : l = 0 := by omega
  have m1 : (i : Int) ∈ b :: tl := h4 ▸ candTo_mem.2 ⟨i, rfl, hi, by omega⟩
  have m2 : (w : Int) ∈ b :: tl := h4 ▸ candTo_mem.2 ⟨w, rfl, hw, by omega⟩
  have h7 : tl ≠ [] := by
    rintro rfl
    simp at m1 m2
    omega
  have h8 : 1 ≤ tl.length := List.length_pos_iff.2 h7
  rw [rsOut, if_pos (by simp only; omega)]
theorem read_code (D : Nat → Nat) (n : Nat) : (rsOut (rsTo D n)).2.2 = 0 ∧ rsOut (rsTo D n) = ((rsTo D n).b, (rsTo D n).l, 0) ∨ (rsOut (rsTo D n)) = (0, 0, 8) := by
  unfold rsOut
  split
  · exact .inr rfl
  · exact .inl ⟨rfl, rfl⟩
/-- all words but one look otherwise, of the first k. -/
def aloneTo (D : Nat → Nat) (i : Nat) (k : Nat) : Bool := allB (fun w => decide (w = i) || decide (0 < D w)) k
theorem aloneTo_iff {D : Nat → Nat} {i k : Nat} : aloneTo D i k = true ↔ ∀ w, w < k → w = i ∨ 0 < D w := by
  unfold aloneTo
  rw [allB_iff]
  simp
theorem aloneTo_succ (D : Nat → Nat) (i k : Nat) : aloneTo D i (k + 1) = (aloneTo D i k && (decide (k = i) || decide (0 < D k))) := by
  simp [aloneTo, allB, List.range_succ]
theorem read_due {D : Nat → Nat} {n i : Nat} (hi : i < n) (h0 : D i = 0) : (aloneTo D i n = true ∧ rsOut (rsTo D n) = ((i : Int), 0, 0)) ∨ (aloneTo D i n = false ∧ rsOut (rsTo D n) = (0, 0, 8)) := by
  rcases hb : aloneTo D i n with _ | _
  · right
    refine ⟨rfl, ?_⟩
    have : ¬ ∀ w, w < n → w = i ∨ 0 < D w := fun h => by rw [aloneTo_iff.2 h] at hb; cases hb
    obtain ⟨w, hw⟩ := Classical.not_forall.1 this
    obtain ⟨h1, h2⟩ := Classical.not_imp.1 hw
    exact read_two hi h0 h1 (fun e => h2 (.inl e)) (by omega)
  · exact .inl ⟨rfl, read_alone hi h0 (aloneTo_iff.1 hb)⟩
end Go.Proofs.Ytjadhhnajphibaa
