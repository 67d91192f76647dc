/- The word with a rank: two functions that fill a row of their own. -/
import Derived.Test.YtjadhhnajphibaaW1
set_option linter.unusedVariables false
set_option linter.unusedSimpArgs false
namespace Go.Proofs.Ytjadhhnajphibaa
open Go.RowKit Go.Proofs.YtjadhhnajphibaaW.PrintWords

theorem uinfo_u8 : (Try.prog.info? 5).map (fun i => (i.zero, i.size, i.bytes)) = some (some (.int .u8 0), 1, 1) := by kernel_rfl

/-- the word of m letters with a rank. -/
def wd (q m r : Nat) : List Int := (List.range m).map fun i => ((r / q ^ (m - 1 - i) % q : Nat) : Int)
theorem wd_length (q m r : Nat) : (wd q m r).length = m := by simp [wd]
/-- what stands behind the rounds down to k. -/
def wdTo (q m r k : Nat) : List Int := List.replicate k 0 ++ (wd q m r).drop k
theorem wdTo_length {q m r k : Nat} (h : k ≤ m) : (wdTo q m r k).length = m := by simp [wdTo, wd_length]; omega
theorem wdTo_all (q m r : Nat) : wdTo q m r m = List.replicate m 0 := by simp [wdTo, wd_length]
theorem wdTo_none (q m r : Nat) : wdTo q m r 0 = wd q m r := by simp [wdTo]
theorem wdTo_step {q m r k : Nat} (h : k + 1 ≤ m) : (wdTo q m r (k + 1)).set k ((r / q ^ (m - (k + 1)) % q : Nat) : Int) = wdTo q m r k := by
  apply List.ext_getElem
  · simp [wdTo, wd_length]; omega
  · intro i h1 h2
    rw [List.getElem_set]
    by_cases hi : k = i
    · subst hi
      simp [wdTo, List.getElem_append, wd, Nat.sub_sub, Nat.add_comm]
    · rw [if_neg hi]
      simp only [wdTo, List.getElem_append, List.length_replicate, List.getElem_replicate, List.getElem_drop]
      by_cases hik : i < k
      · simp [hik, Nat.lt_succ_of_lt hik]
      · have : ¬ i < k + 1 := by omega
        simp only [hik, this, dif_neg, not_false_iff]
        congr 1
        omega
theorem div_step (r q d : Nat) : r / q ^ d / q = r / q ^ (d + 1) := by rw [Nat.div_div_eq_div_mul, Nat.pow_succ]

set_option maxHeartbeats 1000000 in
theorem wordAt_ok (q m r : Nat) (hq : 2 ≤ q) (hq' : q ≤ 37) (hm' : m ≤ 8) (hr : r ≤ 3512479453921) (w : World) : Calls Try.prog 56 #[.int .i64 q, .int .i64 m, .int .i64 r] w fun e w' =>
    ∃ v, e = .returned v ∧ w'.ownsRow w.heap.size 5 1 v m (nums .u8 (wd q m r)) ∧ Below w.heap.size w w' := by
  have hmk := print_make (P := Try.prog) 32 5 .u8 1 Try.underlying32 uinfo_u8 (by omega) m (by omega)
  have hown := Lib.hid (own_made w w.heap.size 5 .u8 m (Nat.le_refl _) (by omega))
  have hb0 := Lib.hid (below_alloc (Below.refl w.heap.size w) (.cells (madeCells #[.int .u8 0] m) 5))
  generalize hW : w.alloc (.cells (madeCells #[.int .u8 0] m) 5) = W0 at *
  go_enter Try.func56, Try.ntmps56
  go_wp2
  clear hmk hW
  go_loopw [2, 8] (fun x i wr => ∃ k d : Nat, k + d = m ∧ i = .int .i64 ((k : Int) - 1) ∧ x = .int .i64 ((r / q ^ d : Nat) : Int) ∧
      Hid (wr.ownsRow w.heap.size 5 1 (.slice (some ⟨w.heap.size, 0, none⟩) m m) m (nums .u8 (wdTo q m r k))) ∧ Hid (Below w.heap.size w wr)) (fun _ i _ => (intOf i + 1).toNat)
  case atStart => exact ⟨m, 0, by omega, rfl, by simp, by rw [wdTo_all]; exact hown, hb0⟩
  case round =>
    obtain ⟨k, d, hk, rfl, rfl, ho, hb⟩ := hrel
    have HK := Lib.hid hk
    have hk1 : k ≤ m := by omega
    clear hk
    by_cases hlt : 0 < k
    · obtain ⟨j, rfl⟩ : ∃ j, k = j + 1 := ⟨k - 1, by omega⟩
      have hd : r / q ^ d ≤ 3512479453921 := Nat.le_trans (Nat.div_le_self _ _) hr
      have HS := Lib.hid (div_step r q d)
      generalize hx : r / q ^ d = x at *
      have HX := Lib.hid hx
      clear hx
      have hq0 : (x % q : Nat) < q := Nat.mod_lt _ (by omega)
      have ho1 := own_at ho.out (j : Int) (by omega) (by omega)
      rw [Int.toNat_natCast] at ho1
      obtain ⟨hc, hf⟩ := ho1
      have hdq : (0 : Int) ≤ (x : Int) / (q : Int) := Int.ediv_nonneg (by omega) (by omega)
      have hdq1 : (x : Int) / (q : Int) ≤ 3512479453921 := Int.le_trans (Int.ediv_le_self _ (by omega)) (by omega)
      go_wp2
      go_roundw
      case rel =>
        obtain ⟨h1, h2⟩ := own_store ho.out (j : Int) ((x : Int) % (q : Int))
        rw [Int.toNat_natCast] at h1 h2
        have he : (wdTo q m r (j + 1)).set j ((x : Int) % (q : Int)) = wdTo q m r j := by
          have hmd : m - (j + 1) = d := by have := HK.out; omega
          have h3 := wdTo_step (q := q) (m := m) (r := r) (k := j) hk1
          rw [hmd, HX.out] at h3
          rw [← h3]; simp
        rw [he] at h1
        exact ⟨j, d + 1, by have := HK.out; omega, rfl, by rw [← HS.out]; simp, h1, hb.out.grown h2 (Nat.le_of_lt (own_lt ho.out _ rfl)) (by simp)⟩
      case measure => first|(simp [intOf]; done)|(simp [intOf]; omega)
    · obtain rfl : k = 0 := by omega
      rw [wdTo_none] at ho
      go_wp2
      go_ret
      exact ⟨_, rfl, ho.out, hb.out⟩

set_option maxHeartbeats 1000000 in
theorem l05At_ok (q m r : Nat) (hq : 2 ≤ q) (hq' : q ≤ 37) (hm' : m ≤ 8) (hr : r ≤ 3512479453921) (w : World) : Calls Try.prog 64 #[.int .i64 q, .int .i64 m, .int .i64 r] w fun e w' =>
    ∃ v, e = .returned v ∧ w'.ownsRow w.heap.size 5 1 v m (nums .u8 (wd q m r)) ∧ Below w.heap.size w w' := by
  have hmk := print_make (P := Try.prog) 32 5 .u8 1 Try.underlying32 uinfo_u8 (by omega) m (by omega)
  have hown := Lib.hid (own_made w w.heap.size 5 .u8 m (Nat.le_refl _) (by omega))
  have hb0 := Lib.hid (below_alloc (Below.refl w.heap.size w) (.cells (madeCells #[.int .u8 0] m) 5))
  generalize hW : w.alloc (.cells (madeCells #[.int .u8 0] m) 5) = W0 at *
  go_enter Try.func64, Try.ntmps64
  go_wp2
  clear hmk hW
  go_loopw [2, 8] (fun x i wr => ∃ k d : Nat, k + d = m ∧ i = .int .i64 ((k : Int) - 1) ∧ x = .int .i64 ((r / q ^ d : Nat) : Int) ∧
      Hid (wr.ownsRow w.heap.size 5 1 (.slice (some ⟨w.heap.size, 0, none⟩) m m) m (nums .u8 (wdTo q m r k))) ∧ Hid (Below w.heap.size w wr)) (fun _ i _ => (intOf i + 1).toNat)
  case atStart => exact ⟨m, 0, by omega, rfl, by simp, by rw [wdTo_all]; exact hown, hb0⟩
  case round =>
    obtain ⟨k, d, hk, rfl, rfl, ho, hb⟩ := hrel
    have HK := Lib.hid hk
    have hk1 : k ≤ m := by omega
    clear hk
    by_cases hlt : 0 < k
    · obtain ⟨j, rfl⟩ : ∃ j, k = j + 1 := ⟨k - 1, by omega⟩
      have hd : r / q ^ d ≤ 3512479453921 := Nat.le_trans (Nat.div_le_self _ _) hr
      have HS := Lib.hid (div_step r q d)
      generalize hx : r / q ^ d = x at *
      have HX := Lib.hid hx
      clear hx
      have hq0 : (x % q : Nat) < q := Nat.mod_lt _ (by omega)
      have ho1 := own_at ho.out (j : Int) (by omega) (by omega)
      rw [Int.toNat_natCast] at ho1
      obtain ⟨hc, hf⟩ := ho1
      have hdq : (0 : Int) ≤ (x : Int) / (q : Int) := Int.ediv_nonneg (by omega) (by omega)
      have hdq1 : (x : Int) / (q : Int) ≤ 3512479453921 := Int.le_trans (Int.ediv_le_self _ (by omega)) (by omega)
      go_wp2
      go_roundw
      case rel =>
        obtain ⟨h1, h2⟩ := own_store ho.out (j : Int) ((x : Int) % (q : Int))
        rw [Int.toNat_natCast] at h1 h2
        have he : (wdTo q m r (j + 1)).set j ((x : Int) % (q : Int)) = wdTo q m r j := by
          have hmd : m - (j + 1) = d := by have := HK.out; omega
          have h3 := wdTo_step (q := q) (m := m) (r := r) (k := j) hk1
          rw [hmd, HX.out] at h3
          rw [← h3]; simp
        rw [he] at h1
        exact ⟨j, d + 1, by have := HK.out; omega, rfl, by rw [← HS.out]; simp, h1, hb.out.grown h2 (Nat.le_of_lt (own_lt ho.out _ rfl)) (by simp)⟩
      case measure => first|(simp [intOf]; done)|(simp [intOf]; omega)
    · obtain rfl : k = 0 := by omega
      rw [wdTo_none] at ho
      go_wp2
      go_ret
      exact ⟨_, rfl, ho.out, hb.out⟩

end Go.Proofs.Ytjadhhnajphibaa
