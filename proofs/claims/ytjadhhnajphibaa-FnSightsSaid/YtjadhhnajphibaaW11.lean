/- The nearest pair; how far words are apart. -/
import Derived.Test.YtjadhhnajphibaaW7
set_option linter.unusedVariables false
set_option linter.unusedSimpArgs false
namespace Go.Proofs.Ytjadhhnajphibaa
open Go.RowKit Go.Proofs.YtjadhhnajphibaaW.PrintWords

/-- the pair that is the nearest so far, and how far it is apart (-1: none). -/
structure Near where
  a : Int
  b : Int
  l : Int
def nStep (D : Nat → Nat → Int) (i k : Nat) (s : Near) : Near := if s.l < 0 ∨ D i k < s.l then ⟨i, k, D i k⟩ else s
def nIn (D : Nat → Nat → Int) (i : Nat) (s : Near) : Nat → Near
  | 0 => s
  | k + 1 => if i < k then nStep D i k (nIn D i s k) else nIn D i s k
def nOut (D : Nat → Nat → Int) (n : Nat) : Nat → Near
  | 0 => ⟨0, 0, -1⟩
  | i + 1 => nIn D i (nOut D n i) n
theorem nIn_start (D : Nat → Nat → Int) (i : Nat) (s : Near) : ∀ k, k ≤ i + 1 → nIn D i s k = s
  | 0, _ => rfl
  | k + 1, h => by rw [nIn, if_neg (by omega), nIn_start D i s k (by omega)]
theorem nIn_step (D : Nat → Nat → Int) (i k : Nat) (s : Near) (h : i < k) : nIn D i s (k + 1) = nStep D i k (nIn D i s k) := by rw [nIn, if_pos h]
theorem nStep_yes {D : Nat → Nat → Int} {i k : Nat} {s : Near} (h : s.l < 0 ∨ D i k < s.l) : nStep D i k s = ⟨i, k, D i k⟩ := by rw [nStep, if_pos h]
theorem nStep_no {D : Nat → Nat → Int} {i k : Nat} {s : Near} (h : ¬ (s.l < 0 ∨ D i k < s.l)) : nStep D i k s = s := by rw [nStep, if_neg h]

def PairB (P : Program) (g : Nat) (lb : Array Value) (n : Nat) (D : Nat → Nat → Int) (w : World) : Prop :=
  ∀ (i k : Nat) (W : World), i < k → k < n → Below w.heap.size w W → Calls P g (#[.int .i64 i, .int .i64 k] ++ lb) W fun e w' => e = .returned (.int .i64 (D i k)) ∧ Below W.heap.size W w'

set_option maxHeartbeats 4000000 in
theorem nearest_ok (g : Nat) (lb : Array Value) (eg : ∀ args w, (callFunc g args).run Try.prog w = .ok (.enter g args) w) (n : Nat) (hn : n ≤ 1000000) (D : Nat → Nat → Int) (w : World) (hp : PairB Try.prog g lb n D w) :
    Calls Try.prog 70 #[.int .i64 n, .func (.func g) #[] lb] w fun e w' => e = .returned (.tuple #[.int .i64 (nOut D n n).a, .int .i64 (nOut D n n).b, .int .i64 (nOut D n n).l, .bool (decide (0 ≤ (nOut D n n).l))]) ∧ Below w.heap.size w w' := by
  have HP := Lib.hid hp
  clear hp
  go_enter Try.func70, Try.ntmps70
  go_wp2
  go_loopw [8, 9, 10, 15] (fun va vb vl i wr => ∃ (k : Nat) (s : Near), k ≤ n ∧ i = .int .i64 k ∧ va = .int .i64 s.a ∧ vb = .int .i64 s.b ∧ vl = .int .i64 s.l ∧ Hid (s = nOut D n k) ∧ Hid (Below w.heap.size w wr)) (fun _ _ _ i _ => n - (intOf i).toNat)
  case atStart => exact ⟨0, ⟨0, 0, -1⟩, Nat.zero_le _, rfl, rfl, rfl, rfl, rfl, Below.refl _ _⟩
  case round =>
    obtain ⟨i, ⟨a, b, l⟩, hi, rfl, rfl, rfl, rfl, HS, HB⟩ := hrel
    by_cases hlt : i < n
    · have hlti : (i : Int) < (n : Int) := by omega
      go_wp2
      obtain ⟨wo, rfl⟩ : ∃ wo : World, wo = wr := ⟨_, rfl⟩
      go_loopw [8, 9, 10, 12] (fun va vb vl k wr => ∃ (j : Nat) (s : Near), i < j ∧ j ≤ n ∧ k = .int .i64 j ∧ va = .int .i64 s.a ∧ vb = .int .i64 s.b ∧ vl = .int .i64 s.l ∧ Hid (s = nIn D i (nOut D n i) j) ∧ Hid (Below w.heap.size w wr)) (fun _ _ _ k _ => n - (intOf k).toNat)
      case atStart => exact ⟨i + 1, ⟨a, b, l⟩, by omega, by omega, by go_num, rfl, rfl, rfl, by rw [nIn_start _ _ _ _ (Nat.le_refl _)]; exact HS, HB⟩
      case round =>
        obtain ⟨j, ⟨a, b, l⟩, hij, hj, rfl, rfl, rfl, rfl, HSI, HBI⟩ := hrel
        by_cases hjn : j < n
        · have hjni : (j : Int) < (n : Int) := by omega
          have hcall := HP.out i j wr hij hjn HBI.out
          generalize hd : D i j = d at hcall
          have HD := Lib.hid hd
          clear hd
          have HC := Lib.hid hcall
          clear hcall
          by_cases hl0 : l < 0
          · have hst := Lib.hid (nStep_yes (D := D) (i := i) (k := j) (s := ⟨a, b, l⟩) (.inl hl0))
            go_wp2_with (go_at_fn g; refine HC.out.mono ?_; rintro e w' ⟨rfl, hb'⟩)
            go_roundw
            case rel =>
              refine ⟨j + 1, ⟨i, j, d⟩, by omega, by omega, by go_num, rfl, rfl, rfl, ?_, HBI.out.trans (hb'.mono HBI.out.size)⟩
              show _ = _
              rw [nIn_step _ _ _ _ hij, ← HSI.out, hst.out, HD.out]
            case measure => first|(simp [intOf]; done)|(simp [intOf]; omega)
          · by_cases hdl : d < l
            · have hst := Lib.hid (nStep_yes (D := D) (i := i) (k := j) (s := ⟨a, b, l⟩) (.inr (by rw [HD.out]; exact hdl)))
              go_wp2_with (go_at_fn g; refine HC.out.mono ?_; rintro e w' ⟨rfl, hb'⟩)
              go_roundw
              case rel =>
                refine ⟨j + 1, ⟨i, j, d⟩, by omega, by omega, by go_num, rfl, rfl, rfl, ?_, HBI.out.trans (hb'.mono HBI.out.size)⟩
                show _ = _
                rw [nIn_step _ _ _ _ hij, ← HSI.out, hst.out, HD.out]
              case measure => first|(simp [intOf]; done)|(simp [intOf]; omega)
            · have hst := Lib.hid (nStep_no (D := D) (i := i) (k := j) (s := ⟨a, b, l⟩) (by rw [HD.out]; simp only; omega))
              go_wp2_with (go_at_fn g; refine HC.out.mono ?_; rintro e w' ⟨rfl, hb'⟩)
              go_roundw
              case rel =>
                refine ⟨j + 1, ⟨a, b, l⟩, by omega, by omega, by go_num, rfl, rfl, rfl, ?_, HBI.out.trans (hb'.mono HBI.out.size)⟩
                show _ = _
                rw [nIn_step _ _ _ _ hij, ← HSI.out, hst.out]
              case measure => first|(simp [intOf]; done)|(simp [intOf]; omega)
        · obtain rfl : j = n := by omega
          go_wp2
          go_roundw
          case rel => exact ⟨i + 1, ⟨a, b, l⟩, by omega, by go_num, rfl, rfl, rfl, HSI, HBI⟩
          case measure => first|(simp [intOf]; done)|(simp [intOf]; omega)
    · obtain rfl : i = n := by omega
      go_wp2
      refine bodyPost_ret (results_tmp4 rfl _ _ _) rfl ?_
      rw [← HS.out]
      exact ⟨rfl, HB.out⟩
end Go.Proofs.Ytjadhhnajphibaa
