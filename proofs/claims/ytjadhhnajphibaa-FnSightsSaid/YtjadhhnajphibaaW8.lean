/- Words that are taken one by one. -/
import Derived.Test.YtjadhhnajphibaaW2
import Derived.Test.YtjadhhnajphibaaW7
set_option linter.unusedVariables false
set_option linter.unusedSimpArgs false
namespace Go.Proofs.Ytjadhhnajphibaa
open Go.RowKit Go.Proofs.YtjadhhnajphibaaW.PrintWords

/-- a word fits to those that have been taken. -/
def fitB (acc : List (List Int)) (x : List Int) (d : Nat) : Bool := allB (fun i => decide (d ≤ diffs (rl acc i) x)) acc.length
/-- the words that have been taken among those of rank less than r. -/
def grTo (q m d : Nat) : Nat → List (List Int)
  | 0 => []
  | r + 1 => if (grTo q m d r).length < 60 ∧ fitB (grTo q m d r) (wd q m r) d = true then grTo q m d r ++ [wd q m r] else grTo q m d r
theorem grTo_le (q m d r : Nat) : (grTo q m d r).length ≤ 60 := by
  induction r with
  | zero => simp [grTo]
  | succ r ih =>
    unfold grTo
    split
    · rename_i h; simp; omega
    · exact ih
theorem grTo_yes {q m d r : Nat} (h : (grTo q m d r).length < 60) (h' : fitB (grTo q m d r) (wd q m r) d = true) : grTo q m d (r + 1) = grTo q m d r ++ [wd q m r] := by rw [grTo, if_pos ⟨h, h'⟩]
theorem grTo_no {q m d r : Nat} (h : ¬ ((grTo q m d r).length < 60 ∧ fitB (grTo q m d r) (wd q m r) d = true)) : grTo q m d (r + 1) = grTo q m d r := by rw [grTo, if_neg h]
theorem grTo_len {q m d r k : Nat} (h : k < (grTo q m d r).length) : (rl (grTo q m d r) k).length = m := by
  induction r with
  | zero => simp [grTo] at h
  | succ r ih =>
    by_cases hc : (grTo q m d r).length < 60 ∧ fitB (grTo q m d r) (wd q m r) d = true
    · rw [grTo_yes hc.1 hc.2] at h ⊢
      by_cases hk : k < (grTo q m d r).length
      · rw [rl_append_left hk]; exact ih hk
      · rw [rl_append_right (by omega)]
        have : k - (grTo q m d r).length = 0 := by simp at h; omega
        rw [this]
        exact wd_length q m r
    · rw [grTo_no hc] at h ⊢
      exact ih h

set_option maxHeartbeats 1000000 in
theorem Greedy1_ok (A0 : Option Addr) (c0 : Nat) (xs : List Int) (A1 : Option Addr) (c1 : Nat) (ys : List Int) (d : Int) (B1 B2 : Nat) (w : World) (h0 : (Kd.int .u8).C w A0 xs.length xs) (h1 : (Kd.int .u8).C w A1 ys.length ys) (hl : xs.length ≤ ys.length)
    (hb1 : w.cell? ⟨B1, 0, none⟩ = some (.slice A1 ys.length c1)) (hb2 : w.cell? ⟨B2, 0, none⟩ = some (.int .i64 d)) :
    Calls Try.prog 59 #[.slice A0 xs.length c0, .pointer (some ⟨B1, 0, none⟩), .pointer (some ⟨B2, 0, none⟩)] w fun e w' => e = .returned (.bool (decide ((diffs xs ys : Int) < d))) ∧ ∃ q, w' = w.drewN q := by
  have hcall : ∀ n, Calls Try.prog 60 #[.slice A0 xs.length c0, .slice A1 ys.length c1] (w.drewN n) fun e w' => e = .returned (.int .i64 (diffs xs ys)) ∧ w.drewN n = w' := fun n => unlike_ok A0 c0 xs A1 c1 ys _ h0 h1 hl
  have HC := Lib.hid hcall
  clear hcall h0 h1 hl
  go_enter Try.func59, Try.ntmps59
  go_wp2
  go_quiet ((go_at_call 60; first | exact quiet_add_same (HC.out _) | exact quiet_same (HC.out _)))
  go_wp2
  go_ret
  exact ⟨rfl, _, rfl⟩

theorem apartV_0 {q m d : Nat} (hq : 2 ≤ q) (hq' : q ≤ 37) (hm : 1 ≤ m) (hm' : m ≤ 8) (hd : 1 ≤ d) (hd' : d ≤ m) : apartV q m d = 0 := by
  unfold apartV
  rw [inB_yes (by omega) (by omega), inB_yes (by omega) (by omega), inB_yes (by omega) (by omega)]
  rfl
theorem pw_small {q m : Nat} (hq : q ≤ 4) (hm : m ≤ 4) : pw q m ≤ 256 := by
  have h1 : q ^ m ≤ 4 ^ m := Nat.pow_le_pow_left hq m
  have h2 : 4 ^ m ≤ 4 ^ 4 := Nat.pow_le_pow_right (by omega) hm
  exact Nat.le_trans h1 h2

set_option maxHeartbeats 4000000 in
theorem GreedyWords_ok (q m d : Nat) (hq : 2 ≤ q) (hq' : q ≤ 4) (hm : 1 ≤ m) (hm' : m ≤ 4) (hd : 1 ≤ d) (hd' : d ≤ m) (w : World) :
    Calls Try.prog 11 #[.int .i64 q, .int .i64 m, .int .i64 d, .int .i64 60] w fun e w' => ∃ v, e = .returned (.tuple #[v, .int .i64 0]) ∧ (Kd.slice 5 (Kd.int .u8)).R 32 w' w.heap.size (fun _ => True) v (grTo q m d (pw q m)) ∧ Below w.heap.size w w' := by
  have hp := pw_small hq' hm'
  have HA := Lib.hid (apartV_0 hq (by omega) hm (by omega) hd hd')
  have hN : ∃ N, pw q m = N := ⟨_, rfl⟩
  obtain ⟨N, hN⟩ := hN
  rw [hN] at hp ⊢
  have HN := Lib.hid hN
  clear hN
  have hap : ∀ W, Calls Try.prog 52 #[.int .i64 q, .int .i64 m, .int .i64 d] W fun e w' => e = .returned (.int .i64 0) ∧ W = w' := fun W => by have := apartCode_ok q m d W; rw [HA.out] at this; exact this
  have hpo : ∀ W, Calls Try.prog 55 #[.int .i64 q, .int .i64 m] W fun e w' => e = .returned (.int .i64 N) ∧ W = w' := fun W => by have := power_ok q m (by omega) (by omega) (by omega) (by omega) W; rw [Int.toNat_natCast, Int.toNat_natCast, HN.out] at this; exact this
  have HAP := Lib.hid hap
  have HPO := Lib.hid hpo
  clear hap hpo
  go_enter Try.func11, Try.ntmps11
  go_wp2_with fail
  refine (HAP.out _).mono ?_; rintro e w' ⟨rfl, rfl⟩
  go_wp2_with fail
  refine (within_ok _ _ _ _).mono ?_; rintro e w' ⟨rfl, rfl⟩
  rw [inB_yes (by omega) (by omega)]
  go_wp2_with fail
  refine (unless_ok _ _ _).mono ?_; rintro e w' ⟨rfl, rfl⟩
  rw [show unlessV true 2 = 0 from rfl]
  go_wp2_with fail
  refine (firstOf2_ok _ _ 0 0 _ (by simp) (by simp)).mono ?_; rintro e w' ⟨rfl, rfl⟩
  rw [show firstV 0 0 = 0 from rfl]
  go_wp2_with fail
  refine (HPO.out _).mono ?_; rintro e w' ⟨rfl, rfl⟩
  go_wp2_with fail
  obtain ⟨W0, hW0⟩ : ∃ W0, W0 = (((w.alloc (.cells #[.int .i64 d] 2)).alloc (.cells #[.int .i64 0, .int .i64 0] 2)).alloc (.cells #[] 32)) := ⟨_, rfl⟩
  rw [← hW0]
  have hs0 : W0.heap.size = w.heap.size + 3 := by rw [hW0]; simp
  have hcd : W0.cell? ⟨w.heap.size, 0, none⟩ = some (.int .i64 d) := by
    rw [hW0, World.cell?_alloc_lt _ _ _ (by simp; omega), World.cell?_alloc_lt _ _ _ (by simp)]
    exact cell_box _ _ _
  have hb0 : Below w.heap.size w W0 := by
    rw [hW0]
    exact ((below_box _ _).trans ((below_box _ _).mono (by rw [size_box]; omega))).trans ((below_box _ _).mono (by rw [size_box, size_box]; omega))
  have hR0 : (Kd.slice 5 (Kd.int .u8)).R 32 W0 (w.heap.size + 1) (fun _ => True) (.slice (some ⟨w.heap.size + 1 + 1, 0, none⟩) 0 0) [] := by
    refine ⟨fun _ _ => trivial, [], ⟨rfl, .inr ⟨_, 0, #[], rfl, by omega, ?_, Nat.le_refl _, Nat.zero_le _, rfl, rfl⟩⟩, reps_nil' _ _⟩
    rw [hW0]
    have := heap_alloc_new ((w.alloc (.cells #[.int .i64 d] 2)).alloc (.cells #[.int .i64 0, .int .i64 0] 2)) (.cells #[] 32)
    rwa [size_box, size_box] at this
  have HS0 := Lib.hid hs0
  have HCD := Lib.hid hcd
  have HB0 := Lib.hid hb0
  have HR0 := Lib.hid hR0
  have hB : w.heap.size + 1 ≤ W0.heap.size := by omega
  clear hs0 hcd hb0 hR0 hW0
  go_loopw [12, 34] (fun v i wr => ∃ k : Nat, k ≤ N ∧ i = .int .i64 k ∧ Hid ((Kd.slice 5 (Kd.int .u8)).R 32 wr (w.heap.size + 1) (fun _ => True) v (grTo q m d k)) ∧ Hid (Below (w.heap.size + 1) W0 wr)) (fun _ i _ => N - (intOf i).toNat)
  case atStart => exact ⟨0, Nat.zero_le _, rfl, HR0, Below.refl _ _⟩
  case round =>
    obtain ⟨k, hk, rfl, HR, HB⟩ := hrel
    have hsz : w.heap.size + 1 ≤ wr.heap.size := Nat.le_trans hB HB.out.size
    by_cases hlt : k < N
    · obtain ⟨A, c, rfl, hlc, hC⟩ := Kd.R_reads HR.out
      have hle := grTo_le q m d k
      generalize hacc : grTo q m d k = acc at *
      have HACC := Lib.hid hacc
      clear hacc
      have HCC := Lib.hid hC
      clear hC
      go_wp2_with fail
      refine (wordAt_ok q m k hq (by omega) (by omega) (by omega) _).mono ?_
      rintro e w1 ⟨v1, rfl, hown, hb1⟩
      obtain ⟨hl1, A1, c1, rfl, hlc1, hC1⟩ := own_C hown
      have hm1 : m ≤ 9223372036854775807 := by omega
      -- behind the word: w2
      obtain ⟨w2, hw2⟩ : ∃ w2, w2 = w1.alloc (.cells #[.slice A1 m c1] 32) := ⟨_, rfl⟩
      have hb2 : Below wr.heap.size wr w2 := by rw [hw2]; exact hb1.trans ((below_box _ _).mono hb1.size)
      have hb12 : Below w1.heap.size w1 w2 := by rw [hw2]; exact below_box _ _
      have HO := Lib.hid (pw_own_below hown hb12)
      have HX := Lib.hid (C_below' hC1 hb12)
      have HCV := Lib.hid (show w2.cell? ⟨w1.heap.size, 0, none⟩ = some (.slice A1 m c1) by rw [hw2]; exact cell_box _ _ _)
      have hsz2 : w1.heap.size < w2.heap.size := by rw [hw2, size_box]; omega
      have hsz1 : wr.heap.size ≤ w1.heap.size := hb1.size
      have HCW := Lib.hid (Kd.C_below HCC.out hb2)
      have HR2 := Lib.hid (Kd.R_below HR.out hb2)
      have HCB := Lib.hid (show w2.cell? ⟨w.heap.size, 0, none⟩ = some (.int .i64 d) from ((HB.out.trans (hb2.mono hsz)).cell (p := ⟨w.heap.size, 0, none⟩) (by show w.heap.size < _; omega)).trans HCD.out)
      have HB2 := Lib.hid (HB.out.trans (hb2.mono hsz))
      have HLEN : Hid (∀ i, i < acc.length → (rl acc i).length = m) := by
        intro i hi
        have hh := HACC.out
        subst hh
        exact grTo_len hi
      have HNE := Lib.hid (show ∀ b, (Value.slice A1 m c1).ownBlock = some b → some b ≠ (Value.slice A acc.length c).ownBlock by
        intro b hb he
        have h1 := own_base hown b hb
        obtain ⟨_, ho⟩ := Kd.R_own HR.out
        have h2 := own_lt ho b he.symm
        omega)
      clear hown hb1 hC1 hb2 hb12
      -- the search among those that have been taken
      obtain ⟨ac, hraw, hrow⟩ := raw_row HCW.out
      have HP : PredB Try.prog 59 #[.pointer (some ⟨w1.heap.size, 0, none⟩), .pointer (some ⟨w.heap.size, 0, none⟩)] acc.length (fun k => .slice (ac k).1 (rl acc k).length (ac k).2) (fun i => decide ((diffs (rl acc i) (wd q m k) : Int) < d)) w2 := by
        intro i W hi hb
        have hX : (Kd.int .u8).C W A1 (wd q m k).length (wd q m k) := by rw [hl1]; exact C_below' HX.out hb
        have hcv : W.cell? ⟨w1.heap.size, 0, none⟩ = some (.slice A1 (wd q m k).length c1) := by rw [hl1]; exact (hb.cell (p := ⟨w1.heap.size, 0, none⟩) hsz2).trans HCV.out
        have hcb := (hb.cell (p := ⟨w.heap.size, 0, none⟩) (by show w.heap.size < _; omega)).trans HCB.out
        refine (Greedy1_ok _ _ _ A1 c1 _ d w1.heap.size w.heap.size W (C_below' (hrow i hi).2 hb) hX (by rw [HLEN.out i hi, hl1]; omega) hcv hcb).mono ?_
        rintro e w' ⟨he, qq, rfl⟩
        exact ⟨he, below_dN (Below.refl _ _) _⟩
      have eg : ∀ args w, (callFunc 59 args).run Try.prog w = .ok (.enter 59 args) w := enters_of Try.func59 (by kernel_rfl) rfl
      have HCF := Lib.hid (containsFuncW_ok _ _ eg A acc.length c _ _ w2 hraw HP)
      have HFIT := Lib.hid (show (!anyB (fun i => decide ((diffs (rl acc i) (wd q m k) : Int) < d)) acc.length) = fitB acc (wd q m k) d by
        rw [allB_not]
        exact allB_congr fun i _ => by rw [Bool.eq_iff_iff]; simp)
      clear hraw HP eg hrow
      generalize hx : wd q m k = x at *
      have HXX := Lib.hid hx
      clear hx
      generalize han : anyB (fun i => decide ((diffs (rl acc i) x : Int) < d)) acc.length = an at HCF HFIT
      clear han
      go_wp2_with fail
      rw [← hw2]
      clear hw2
      refine (sizeW_ok A c acc.length w2 (by omega)).mono ?_
      rintro e w' ⟨rfl, rfl⟩
      by_cases h60 : acc.length < 60
      · have h60i : (acc.length : Int) < 60 := by omega
        rcases an with _ | _
        · go_wp2_with fail
          refine HCF.out.mono ?_
          rintro e w3 ⟨rfl, hb3⟩
          have HB3 := Lib.hid hb3
          have HCV3 := Lib.hid ((hb3.cell (p := ⟨w1.heap.size, 0, none⟩) hsz2).trans HCV.out)
          have hcv3 := HCV3.out
          have hsz3 := hb3.size
          have HR3 := Lib.hid (Kd.R_below HR2.out hb3)
          have HO3 := Lib.hid (own_weaken (base' := w.heap.size + 1) (pw_own_below HO.out hb3) (by omega))
          clear hb3
          go_wp2_with (at_builtin; refine Kd.R_append (Kd.slice 5 (Kd.int .u8)) (w0 := W0) (W := w3) (w.heap.size + 1) rfl (.tmp 51) (.tmp 53) 25 32 (.slice none 0 0) 24 rfl Try.underlying25 uinfo_word rfl (by decide) (by omega) (.slice A acc.length c) acc x [.slice A1 m c1] (fun _ => True) (fun b => some b ≠ (Value.slice A acc.length c).ownBlock) rfl rfl (M_of_own HO3.out HNE.out) (fun b hb => ⟨trivial, hb⟩) (fun _ _ => trivial) HR3.out (HB2.out.trans (HB3.out.mono (by omega))) (by omega) (by omega) ?_; intro v4 w4 hR4 hb4 hg4 hat4)
          go_roundw
          case rel =>
            refine ⟨k + 1, by omega, by go_num, ?_, hb4⟩
            have hfit := HFIT.out
            rw [grTo_yes (by rw [HACC.out]; exact h60) (by rw [HACC.out, HXX.out]; exact hfit.symm), HACC.out, HXX.out]
            exact hR4
          case measure => first|(simp [intOf]; done)|(simp [intOf]; omega)
        · go_wp2_with fail
          refine HCF.out.mono ?_
          rintro e w3 ⟨rfl, hb3⟩
          have HB3 := Lib.hid hb3
          have hsz3 := hb3.size
          have HR3 := Lib.hid (Kd.R_below HR2.out hb3)
          clear hb3
          go_wp2_with fail
          go_roundw
          case rel =>
            refine ⟨k + 1, by omega, by go_num, ?_, HB2.out.trans (HB3.out.mono (by omega))⟩
            have hfit := HFIT.out
            rw [grTo_no (by rw [HACC.out, HXX.out, ← hfit]; simp), HACC.out]
            exact HR3.out
          case measure => first|(simp [intOf]; done)|(simp [intOf]; omega)
      · have h60i : ¬ (acc.length : Int) < 60 := by omega
        go_wp2_with fail
        go_roundw
        case rel =>
          refine ⟨k + 1, by omega, by go_num, ?_, HB2.out⟩
          rw [grTo_no (by rw [HACC.out]; omega), HACC.out]
          exact HR2.out
        case measure => first|(simp [intOf]; done)|(simp [intOf]; omega)
    · obtain rfl : k = N := by omega
      go_wp2
      go_ret2
      exact ⟨_, rfl, Kd.R_lower HR.out (by omega), HB0.out.trans (HB.out.mono (by omega))⟩
end Go.Proofs.Ytjadhhnajphibaa
