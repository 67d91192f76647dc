/- Words that are taken one by one: the reference. -/
import Derived.Test.YtjadhhnajphibaaW8
set_option linter.unusedVariables false
set_option linter.unusedSimpArgs false
namespace Go.Proofs.Ytjadhhnajphibaa
open Go.RowKit Go.Proofs.YtjadhhnajphibaaW.PrintWords

theorem l05Asked_ok (q m : Int) (w : World) : Calls Try.prog 61 #[.int .i64 q, .int .i64 m] w fun e w' => e = .returned (.bool (inB q 2 37 && inB m 1 8)) ∧ w = w' := by
  rcases h1 : inB q 2 37 with _ | _
  · go_enter Try.func61, Try.ntmps61
    go_wp2_with (go_at_call 62; refine (l00In_ok _ _ _ _).mono ?_; rintro e w' ⟨rfl, rfl⟩)
    go_ret
    exact ⟨rfl, rfl⟩
  · go_enter Try.func61, Try.ntmps61
    go_wp2_with (go_at_call 62; refine (l00In_ok _ _ _ _).mono ?_; rintro e w' ⟨rfl, rfl⟩)
    go_ret
    exact ⟨rfl, rfl⟩
theorem grTo_full {q m d r : Nat} (h : ¬ (grTo q m d r).length < 60) : ∀ k, grTo q m d (r + k) = grTo q m d r
  | 0 => rfl
  | k + 1 => by
    have ih := grTo_full h k
    rw [show r + (k + 1) = (r + k) + 1 from rfl, grTo_no (by rw [ih]; exact fun hc => h hc.1), ih]

set_option maxHeartbeats 4000000 in
theorem GreedyWords_spec_ok (q m d : Nat) (hq : 2 ≤ q) (hq' : q ≤ 4) (hm : 1 ≤ m) (hm' : m ≤ 4) (hd : 1 ≤ d) (hd' : d ≤ m) (w : World) :
    Calls Try.prog 12 #[.int .i64 q, .int .i64 m, .int .i64 d, .int .i64 60] w fun e w' => ∃ v, e = .returned (.tuple #[v, .int .i64 0]) ∧ (Kd.slice 5 (Kd.int .u8)).R 32 w' w.heap.size (fun _ => True) v (grTo q m d (pw q m)) ∧ Below w.heap.size w w' := by
  have hp := pw_small hq' hm'
  have hN : ∃ N, pw q m = N := ⟨_, rfl⟩
  obtain ⟨N, hN⟩ := hN
  rw [hN] at hp ⊢
  have HN := Lib.hid hN
  clear hN
  have hpo : ∀ W, Calls Try.prog 63 #[.int .i64 q, .int .i64 m] W fun e w' => e = .returned (.int .i64 N) ∧ W = w' := fun W => by have := l05Power_ok q m (by omega) (by omega) (by omega) (by omega) W; rw [Int.toNat_natCast, Int.toNat_natCast, HN.out] at this; exact this
  have HPO := Lib.hid hpo
  have h1 : inB q 2 37 = true := inB_yes (by omega) (by omega)
  have h2 : inB m 1 8 = true := inB_yes (by omega) (by omega)
  have h3 : inB d 1 m = true := inB_yes (by omega) (by omega)
  have HAS : Hid (∀ W, Calls Try.prog 61 #[.int .i64 q, .int .i64 m] W fun e w' => e = .returned (.bool true) ∧ W = w') := fun W => by have := l05Asked_ok q m W; rw [h1, h2] at this; exact this
  have HI1 : Hid (∀ W, Calls Try.prog 62 #[.int .i64 d, .int .i64 1, .int .i64 m] W fun e w' => e = .returned (.bool true) ∧ W = w') := fun W => by have := l00In_ok d 1 m W; rw [h3] at this; exact this
  have HI2 : Hid (∀ W, Calls Try.prog 62 #[.int .i64 60, .int .i64 0, .int .i64 60] W fun e w' => e = .returned (.bool true) ∧ W = w') := fun W => by have := l00In_ok 60 0 60 W; rw [inB_yes (by omega) (by omega)] at this; exact this
  clear hpo h1 h2 h3
  go_enter Try.func12, Try.ntmps12
  go_wp2_with fail
  refine (HAS.out _).mono ?_; rintro e w' ⟨rfl, rfl⟩
  go_wp2_with fail
  refine (HI1.out _).mono ?_; rintro e w' ⟨rfl, rfl⟩
  go_wp2_with fail
  refine (HI2.out _).mono ?_; rintro e w' ⟨rfl, rfl⟩
  go_wp2_with fail
  refine (HPO.out _).mono ?_; rintro e w' ⟨rfl, rfl⟩
  go_wp2_with fail
  have hR0 : (Kd.slice 5 (Kd.int .u8)).R 32 (w.alloc (.cells #[] 32)) w.heap.size (fun _ => True) (.slice (some ⟨w.heap.size, 0, none⟩) 0 0) [] := by
    refine ⟨fun _ _ => trivial, [], ⟨rfl, .inr ⟨_, 0, #[], rfl, Nat.le_refl _, heap_alloc_new _ _, Nat.le_refl _, Nat.zero_le _, rfl, rfl⟩⟩, reps_nil' _ _⟩
  have HR0 := Lib.hid hR0
  have HB0 := Lib.hid (below_box w (.cells #[] 32))
  clear hR0
  generalize w.alloc (.cells #[] 32) = W0 at *
  go_loopw [11, 12] (fun v i wr => ∃ k : Nat, k ≤ N ∧ i = .int .i64 k ∧ Hid ((Kd.slice 5 (Kd.int .u8)).R 32 wr w.heap.size (fun _ => True) v (grTo q m d k)) ∧ Hid (Below w.heap.size w wr)) (fun _ i _ => N - (intOf i).toNat)
  case atStart => exact ⟨0, Nat.zero_le _, rfl, HR0, HB0⟩
  case round =>
    clear HR0 HB0
    obtain ⟨k, hk, rfl, HR, HB⟩ := hrel
    have hsz : w.heap.size ≤ wr.heap.size := HB.out.size
    by_cases hlt : k < N
    · have hlti : (k : Int) < (N : Int) := by omega
      obtain ⟨A, c, rfl, hlc, hC⟩ := Kd.R_reads HR.out
      have hle := grTo_le q m d k
      by_cases h60 : (grTo q m d k).length < 60
      · have HLEN : Hid (∀ i, i < (grTo q m d k).length → (rl (grTo q m d k) i).length = m) := fun i hi => grTo_len hi
        generalize hacc : grTo q m d k = acc at *
        have HACC := Lib.hid hacc
        clear hacc
        have h60i : (acc.length : Int) < 60 := by omega
        have HCC := Lib.hid hC
        clear hC
        go_wp2_with fail
        refine (l05At_ok q m k hq (by omega) (by omega) (by omega) _).mono ?_
        rintro e w1 ⟨v1, rfl, hown, hb1⟩
        obtain ⟨hl1, A1, c1, rfl, hlc1, hC1⟩ := own_C hown
        have hm1 : m ≤ 9223372036854775807 := by omega
        have HO := Lib.hid hown
        have HX := Lib.hid hC1
        have hsz1 : wr.heap.size ≤ w1.heap.size := hb1.size
        have HCW := Lib.hid (Kd.C_below HCC.out hb1)
        have HR1 := Lib.hid (Kd.R_below HR.out hb1)
        have HB1 := Lib.hid (HB.out.trans (hb1.mono hsz))
        have HNE := Lib.hid (show ∀ b, (Value.slice A1 m c1).ownBlock = some b → some b ≠ (Value.slice A acc.length c).ownBlock by
          intro b hb he
          have h1 := own_base hown b hb
          obtain ⟨_, ho⟩ := Kd.R_own HR.out
          have h2 := own_lt ho b he.symm
          omega)
        clear hown hb1 hC1
        have HL1 := Lib.hid hl1
        clear hl1
        generalize hx : wd q m k = x at *
        have HXX := Lib.hid hx
        clear hx
        go_wp2_with fail
        go_loopw [14, 15] (fun f i wr => ∃ (b : Bool) (j qq : Nat), j ≤ acc.length ∧ f = .bool b ∧ i = .int .i64 j ∧ Hid (b = true → ∀ i, i < j → decide (d ≤ diffs (rl acc i) x) = true) ∧ Hid (b = false → fitB acc x d = false) ∧ wr = w1.drewN qq) (fun _ i _ => acc.length - (intOf i).toNat)
        case atStart => exact ⟨true, 0, 0, Nat.zero_le _, rfl, rfl, fun _ i hi => absurd hi (by omega), fun h => (by cases h), rfl⟩
        case round =>
          obtain ⟨b, j, qq, hj, rfl, rfl, HT, HF, rfl⟩ := hrel
          rcases b with _ | _
          · have hfit := Lib.hid (HF.out rfl)
            by_cases hjl : (j : Int) < (acc.length : Int)
            all_goals
              go_wp2_with fail
              go_roundw
              case rel =>
                refine ⟨k + 1, by omega, by go_num, ?_, below_dN HB1.out _⟩
                rw [grTo_no (by rw [HACC.out, HXX.out, hfit.out]; simp), HACC.out]
                exact Kd.R_below HR1.out (below_dN (Below.refl _ _) _)
              case measure => first | (simp [intOf]; done) | (simp [intOf]; omega)
          · by_cases hjl : j < acc.length
            · have hjli : (j : Int) < (acc.length : Int) := by omega
              obtain ⟨ad, A3, c3, rfl, hx3, hl3, hr3⟩ := at_row HCW.out hjl
              have HC3 : Hid (Calls Try.prog 65 #[.slice A3 (rl acc j).length c3, .slice A1 m c1] (w1.drewN qq) fun e w' => e = .returned (.int .i64 (diffs (rl acc j) x)) ∧ ∃ q, w' = (w1.drewN qq).drewN q) := by
                have hh := HL1.out
                have hX := HX.out
                rw [← hh] at hX ⊢
                exact l05Apart_ok A3 c3 _ A1 c1 _ _ hr3 hX (by rw [HLEN.out j hjl, hh]; omega)
              have hm3 : (rl acc j).length ≤ 9223372036854775807 := hr3.2.1
              clear hr3
              rcases hdd : decide (d ≤ diffs (rl acc j) x) with _ | _
              · have HD := Lib.hid hdd
                go_wp2_with fail
                refine HC3.out.mono ?_
                rintro e w3 ⟨rfl, q3, rfl⟩
                go_wp2_with fail
                go_roundw
                case rel =>
                  exact ⟨false, j + 1, _, by omega, by first | rfl | (rw [HD.out]), by go_num, fun h => (by cases h), fun _ => allB_no hjl HD.out, rfl⟩
                case measure => first | (simp [intOf]; done) | (simp [intOf]; omega)
              · have HD := Lib.hid hdd
                go_wp2_with fail
                refine HC3.out.mono ?_
                rintro e w3 ⟨rfl, q3, rfl⟩
                go_wp2_with fail
                go_roundw
                case rel =>
                  refine ⟨true, j + 1, _, by omega, by first | rfl | (rw [HD.out]), by go_num, fun _ i hi => ?_, fun h => (by cases h), rfl⟩
                  by_cases e : i = j
                  · rw [e]; exact HD.out
                  · exact HT.out (by trivial) i (by omega)
                case measure => first | (simp [intOf]; done) | (simp [intOf]; omega)
            · have ej : j = acc.length := by omega
              subst ej
              have hfit := Lib.hid (show fitB acc x d = true from allB_iff.2 (HT.out rfl))
              have hHR := Lib.hid (Kd.R_below HR1.out (below_dN (Below.refl _ _) qq))
              have hHO := Lib.hid (own_weaken (base' := w.heap.size) (pw_own_below HO.out (below_dN (Below.refl _ _) qq)) (by omega))
              have hHB := Lib.hid (below_dN HB1.out qq)
              have hsz3 : w.heap.size ≤ (w1.drewN qq).heap.size := hHB.out.size
              generalize w1.drewN qq = w3 at *
              go_wp2_with (at_builtin; refine Kd.R_append (Kd.slice 5 (Kd.int .u8)) (w0 := w) (W := w3) w.heap.size rfl (.tmp 72) (.tmp 74) 25 32 (.slice none 0 0) 24 rfl Try.underlying25 uinfo_word rfl (by decide) (by omega) (.slice A acc.length c) acc x [.slice A1 m c1] (fun _ => True) (fun b => some b ≠ (Value.slice A acc.length c).ownBlock) rfl rfl (M_of_own hHO.out HNE.out) (fun b hb => ⟨trivial, hb⟩) (fun _ _ => trivial) hHR.out hHB.out hsz3 (by omega) ?_; intro v4 w4 hR4 hb4 hg4 hat4)
              go_roundw
              case rel =>
                refine ⟨k + 1, by omega, by go_num, ?_, hb4⟩
                rw [grTo_yes (by rw [HACC.out]; exact h60) (by rw [HACC.out, HXX.out]; exact hfit.out), HACC.out, HXX.out]
                exact hR4
              case measure => first | (simp [intOf]; done) | (simp [intOf]; omega)
      · have h60i : ¬ ((grTo q m d k).length : Int) < 60 := by omega
        obtain ⟨e, he⟩ : ∃ e, N = k + e := ⟨N - k, by omega⟩
        have HG := Lib.hid (show grTo q m d N = grTo q m d k by rw [he]; exact grTo_full h60 e)
        clear he hC
        go_wp2
        go_ret2
        refine ⟨_, rfl, ?_, HB.out⟩
        rw [HG.out]
        exact HR.out
    · obtain rfl : k = N := by omega
      go_wp2
      go_ret2
      exact ⟨_, rfl, HR.out, HB.out⟩
end Go.Proofs.Ytjadhhnajphibaa
