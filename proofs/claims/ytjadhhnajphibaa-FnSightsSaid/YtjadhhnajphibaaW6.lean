/- slices.Concat. -/
import Derived.Test.YtjadhhnajphibaaB2
set_option linter.unusedVariables false
set_option linter.unusedSimpArgs false
namespace Go.Proofs.Ytjadhhnajphibaa
open Go.RowKit Go.Proofs.YtjadhhnajphibaaW.PrintWords

theorem uinfo_word : (Try.prog.info? 32).map (fun i => (i.zero, i.size, i.bytes)) = some (some (.slice none 0 0), 1, 24) := by kernel_rfl
theorem zero_cells (z : Value) (m : Nat) : (Builtin.zeroCells #[z] m).toList = List.replicate m z := by
  apply List.ext_getElem
  · simp [Builtin.zeroCells]
  · intro i h1 h2
    simp [Builtin.zeroCells, Nat.mod_one]
theorem zero_one {z : Value} (h1 : z.oneCell' = true) (m : Nat) : ∀ u ∈ (Builtin.zeroCells #[z] m).toList, u.oneCell' = true := by
  intro u hu
  rw [zero_cells] at hu
  rw [(List.mem_replicate.1 hu).2]
  exact h1

set_option maxHeartbeats 1000000 in
theorem GrowW_ok (n : Nat) (hn : n ≤ 1000000000000) (w : World) : Calls Try.prog 128 #[.slice none 0 0, .int .i64 n] w fun e w' => ∃ v, e = .returned v ∧ w'.ownsRow w.heap.size 32 1 v 0 [] ∧ Below w.heap.size w w' := by
  by_cases h0 : 0 < n
  · go_enter Try.func128, Try.ntmps128
    go_wp2_with (at_builtin; refine own_zeros _ rfl (.tmp 20) (.tmp 21) 25 3 rfl w.heap.size 32 (.slice none 0 0) 1 24 Try.underlying25 Try.underlying3 uinfo_word rfl (by omega) (by omega) (.slice none 0 0) 0 [] rfl (own_nil w _ _ _) .i64 n rfl (zero_one rfl n) (by omega) (Nat.le_refl _) ?_; intro v1 w1 hown hg hat; obtain ⟨A1, c1, rfl, hc1, hcell⟩ := own_cells hown; have HO := Lib.hid (own_cut0 hown); have HG := Lib.hid hg; clear hown hg hat hcell)
    go_ret
    exact ⟨_, rfl, HO.out, (Below.refl _ _).grown HG.out (Nat.le_refl _) (by simp [Value.ownBlock])⟩
  · obtain rfl : n = 0 := by omega
    go_enter Try.func128, Try.ntmps128
    go_wp2
    go_ret
    exact ⟨_, rfl, own_nil w _ _ _, Below.refl _ _⟩

def sumTo (f : Nat → Nat) : Nat → Nat
  | 0 => 0
  | n + 1 => sumTo f n + f n
theorem sumTo_le {f : Nat → Nat} {k n : Nat} (h : k ≤ n) : sumTo f k ≤ sumTo f n := by
  induction n with
  | zero => have : k = 0 := by omega
            subst this; exact Nat.le_refl _
  | succ n ih =>
    by_cases e : k = n + 1
    · subst e; exact Nat.le_refl _
    · exact Nat.le_trans (ih (by omega)) (Nat.le_add_right _ _)
/-- the cells of the first k rows, one behind the other. -/
def catTo (cs : Nat → List Value) : Nat → List Value
  | 0 => []
  | n + 1 => catTo cs n ++ cs n
theorem catTo_length {cs : Nat → List Value} {nk : Nat → Nat} {size : Nat} : ∀ {n : Nat}, (∀ k, k < n → (cs k).length = nk k * size) → (catTo cs n).length = sumTo nk n * size
  | 0, _ => by simp [catTo, sumTo]
  | n + 1, h => by
    rw [catTo, sumTo, List.length_append, catTo_length (fun k hk => h k (by omega)), h n (by omega), Nat.add_mul]

set_option maxHeartbeats 2000000 in
theorem ConcatW_ok (A : Option Addr) (n c : Nat) (ak : Nat → Option Addr) (nk ck : Nat → Nat) (cs : Nat → List Value) (w : World) (hr : Raw w A n (fun k => .slice (ak k) (nk k) (ck k)))
    (hc : ∀ k, k < n → (cs k).length = nk k * 1 ∧ Cells w (ak k) (cs k) ∧ ∀ u ∈ cs k, u.oneCell' = true) (hs : sumTo nk n ≤ 1000000000000) :
    Calls Try.prog 106 #[.slice A n c] w fun e w' => ∃ v, e = .returned v ∧ w'.ownsRow w.heap.size 32 1 v (sumTo nk n) (catTo cs n) ∧ Below w.heap.size w w' := by
  have hm := hr.1
  have HR := Lib.hid hr
  have HC := Lib.hid hc
  clear hr hc
  go_enter Try.func106, Try.ntmps106
  go_wp2
  go_loop [3, 11] (fun x i => ∃ k : Nat, k ≤ n ∧ i = .int .i64 k ∧ x = .int .i64 (sumTo nk k)) (fun _ i => n - (intOf i).toNat)
  case atStart => exact ⟨0, Nat.zero_le _, rfl, rfl⟩
  case round =>
    obtain ⟨k, hk, rfl, rfl⟩ := hrel
    by_cases hlt : k < n
    · have hlti : (k : Int) < (n : Int) := by omega
      have hle := sumTo_le (f := nk) (show k + 1 ≤ n by omega)
      have hsum : sumTo nk (k + 1) = sumTo nk k + nk k := rfl
      have hle1 : sumTo nk k + nk k ≤ 1000000000000 := by omega
      have HS := Lib.hid hsum
      clear hsum hle
      obtain ⟨ad, rfl, hcell⟩ := HR.out.2 k hlt
      go_wp2
      go_round
      case rel => exact ⟨k + 1, by omega, by go_num, by rw [HS.out]; go_num⟩
      case measure => first|(simp [intOf]; done)|(simp [intOf]; omega)
    · obtain rfl : k = n := by omega
      go_wp2_with (go_at_call 128; refine (GrowW_ok _ hs _).mono ?_; rintro e w1 ⟨v1, rfl, hown, hb⟩; have HO := Lib.hid hown; have HB := Lib.hid hb; clear hown hb)
      go_loopw [6, 27] (fun v i wr => ∃ j : Nat, j ≤ k ∧ i = .int .i64 j ∧ Hid (wr.ownsRow w.heap.size 32 1 v (sumTo nk j) (catTo cs j)) ∧ Hid (Below w.heap.size w wr)) (fun _ i _ => k - (intOf i).toNat)
      case atStart => exact ⟨0, Nat.zero_le _, rfl, HO, HB⟩
      case round =>
        clear HO HB
        obtain ⟨j, hj, rfl, HO, HB⟩ := hrel
        by_cases hlt : j < k
        · have hlti : (j : Int) < (k : Int) := by omega
          have hle := sumTo_le (f := nk) (show j + 1 ≤ k by omega)
          have hsum : sumTo nk (j + 1) = sumTo nk j + nk j := rfl
          have hle1 : sumTo nk j + nk j ≤ 1000000000000 := by omega
          clear hsum hle
          obtain ⟨ad, rfl, hcell⟩ := (HR.out.below HB.out).2 j hlt
          obtain ⟨hl, hcc, h1⟩ := HC.out j hlt
          have HL := Lib.hid hl
          have HCC := Lib.hid (hcc.below HB.out)
          have H1 := Lib.hid h1
          clear hl hcc h1
          go_wp2_with (at_builtin; refine own_append _ rfl (.tmp 31) (.tmp 32) 25 rfl w.heap.size 32 (.slice none 0 0) 1 24 Try.underlying25 uinfo_word rfl (by omega) (by omega) _ (sumTo nk j) (catTo cs j) rfl HO.out (ak j) (nk j) (ck j) (cs j) rfl HL.out HCC.out H1.out (by omega) HB.out.size ?_; intro v1 w1 hown hg hat; have hb := HB.out.grown hg HB.out.size (own_base HO.out))
          go_roundw
          case rel => exact ⟨j + 1, by omega, by go_num, hown, hb⟩
          case measure => first|(simp [intOf]; done)|(simp [intOf]; omega)
        · obtain rfl : j = k := by omega
          go_wp2
          go_ret
          exact ⟨_, rfl, HO.out, HB.out⟩

end Go.Proofs.Ytjadhhnajphibaa
