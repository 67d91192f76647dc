/- Arguments that came in: rows of arrays, rows of words. -/
import Derived.Test.YtjadhhnajphibaaLNear
import Derived.WalkKit
import Derived.ProofKit
import Derived.OpenShut
import Derived.Deep.Slices
import Derived.Deep.Matrix
import Derived.Lib.SmallJoins
set_option linter.unusedVariables false
set_option linter.unusedSimpArgs false
namespace Go.Proofs.Ytjadhhnajphibaa
open Go.ChangeShapes Go.WideShapes Go.ChangeAt Go.RowKit Go.Deep
open Go.Proofs.YtjadhhnajphibaaW.PrintWords

section
variable {H : Type} {enc : TypeId × Value → H} {P : Program} {w : World} {base : Nat} {spare : Nat → Bool} {held : Bool}
theorem arr_elem {N fuel : Nat} {e q : TypeId} {cs : List Value} {x : DataW H × List MemPlace} (he : P.underlying e = some (.array N q)) (hq : P.underlying q = some (.int .u8)) (ce : P.cellsOf e = N) (cq : P.cellsOf q = 1)
    (h : DataW.trod enc P w base spare held fuel e cs = some x) : ∃ p : List Int, p.length = N ∧ cs = nums .u8 p ∧ ∀ j, 0 ≤ rn p j := by
  obtain ⟨xs, m, rfl, rfl, hl, hxl, hx⟩ := DataW.trod_array he h
  rw [ce] at hl
  rw [cq] at hx
  obtain ⟨f, hf⟩ := choose_lt (α := Int) (n := N) (p := fun j v => cs[j]? = some (.int .u8 v) ∧ (Lit.int .u8 v).wf = true) (fun j hj => by
    have h1 := hx j hj
    have h2 : j < xs.length := by omega
    rw [List.getElem?_eq_getElem h2, Nat.mul_one] at h1
    obtain ⟨n, h3, _, h4⟩ := DataW.trod_int hq h1
    refine ⟨n, ?_, h4⟩
    have h5 := congrArg (fun l : List Value => l[0]?) h3
    simpa [List.getElem?_take, List.getElem?_drop] using h5)
  refine ⟨(List.range N).map f, by simp, ?_, fun j => ?_⟩
  · apply List.ext_getElem?
    intro j
    by_cases hj : j < N
    · rw [(hf j hj).1]
      simp [nums, hj]
    · rw [List.getElem?_eq_none (by omega), List.getElem?_eq_none (by simp [nums]; omega)]
  · by_cases hj : j < N
    · have := bounds_u8 (hf j hj).2
      simp [rn, List.getD_eq_getElem?_getD, hj]
      omega
    · rw [rn_out (by simp; omega)]; omega
theorem open_arrs {N fuel : Nat} (hN : 0 < N) {t e q : TypeId} {v : Value} {x : DataW H × List MemPlace} (ht : P.underlying t = some (.slice e)) (he : P.underlying e = some (.array N q)) (hq : P.underlying q = some (.int .u8)) (ce : P.cellsOf e = N) (cq : P.cellsOf q = 1)
    (h : DataW.trod enc P w base spare held fuel t [v] = some x) : ∃ A c fs, v = .slice A fs.length c ∧ (Karr N).C w A fs.length fs ∧ ∀ k i, 0 ≤ rn (rl fs k) i := by
  rcases open_slice ht h with ⟨hcs, _⟩ | ⟨a, len, cap, m, n, D, Pl, hcs, hb, hl, hm, hmm, rfl, hx⟩
  · obtain rfl : v = .slice none 0 0 := by simpa using hcs
    exact ⟨none, 0, [], rfl, C_none w, fun k i => by simp [rl, rn]⟩
  · obtain rfl : v = .slice (some a) len cap := by simpa using hcs
    have hlm : len ≤ m := by rw [hmm]; split <;> omega
    obtain ⟨f, hf⟩ := choose_lt (α := List Int) (n := len) (p := fun i p => p.length = N ∧ (∀ j u, (nums .u8 p)[j]? = some u → w.cell? (a.add (i * N + j)) = some u) ∧ ∀ j, 0 ≤ rn p j) (fun i hi => by
      obtain ⟨cs', h1, h2⟩ := hx i (by omega)
      rw [ce] at h1
      obtain ⟨p, hp, rfl, hp0⟩ := arr_elem he hq ce cq h2
      obtain ⟨_, h3, h4⟩ := World.cells?_some h1
      refine ⟨p, hp, fun j u hu => ?_, hp0⟩
      have hj : j < N := by
        have := (List.getElem?_eq_some_iff.1 hu).1
        rwa [h3] at this
      rw [← hu, ← h4 j hj, Go.Deep.add_add])
    have hfl : ((List.range len).map f).length = len := by simp
    have hget : ∀ i, i < len → rl ((List.range len).map f) i = f i := fun i hi => by simp [rl, List.getD_eq_getElem?_getD, hi]
    refine ⟨some a, cap, (List.range len).map f, by rw [hfl], ?_, fun k i => ?_⟩
    · rw [hfl]
      refine ⟨hfl, by unfold maxLen at hm; omega, fun _ => ⟨a, rfl, fun j p hj => ?_⟩⟩
      have hjl : j < len := by
        have := (List.getElem?_eq_some_iff.1 hj).1
        rwa [hfl] at this
      have hp : p = f j := by simpa [hjl] using hj.symm
      subst hp
      have hsz : (Karr N).sz = N := by simp [Kd.arr, Kd.int, Kd.scalar]
      refine ⟨nums .u8 (f j), by rw [nums_length, (hf j hjl).1, hsz], ⟨(hf j hjl).1, Kd.reps_scalar _⟩, fun i u hi => ?_⟩
      rw [hsz]
      exact (hf j hjl).2.1 i u hi
    · by_cases hk : k < len
      · rw [hget k hk]; exact (hf k hk).2.2 i
      · rw [show rl ((List.range len).map f) k = [] by simp [rl, List.getD_eq_getElem?_getD, hk]]
        simp [rn]
theorem open_words {fuel : Nat} {t e q : TypeId} {v : Value} {x : DataW H × List MemPlace} (ht : P.underlying t = some (.slice e)) (he : P.underlying e = some (.slice q)) (hq : P.underlying q = some (.int .u8)) (ce : P.cellsOf e = 1) (cq : P.cellsOf q = 1)
    (h : DataW.trod enc P w base (fun _ => true) held fuel t [v] = some x) : ∃ A c ws, v = .slice A ws.length c ∧ (Kd.slice 5 (Kd.int .u8)).C w A ws.length ws ∧ WBytes ws ∧ ∀ j, (rl ws j).length ≤ 9223372036854775807 := by
  rcases open_int_rows ht he hq ce cq h with ⟨hcs, _⟩ | ⟨a, len, cap, B, L, C, Z, hcs, hb, hl, hm, _, hx⟩
  · obtain rfl : v = .slice none 0 0 := by simpa using hcs
    exact ⟨none, 0, [], rfl, C_none w, fun k i => by simp [rl, rn], fun j => by simp [rl]⟩
  · obtain rfl : v = .slice (some a) len cap := by simpa using hcs
    have hwl : ((List.range len).map fun r => (Z r).take (L r)).length = len := by simp
    have hget : ∀ i, i < len → rl ((List.range len).map fun r => (Z r).take (L r)) i = (Z i).take (L i) := fun i hi => by simp [rl, List.getD_eq_getElem?_getD, hi]
    have hlenr : ∀ i, i < len → ((Z i).take (L i)).length = L i := fun i hi => by
      obtain ⟨_, h1, _, h2, _⟩ := hx i (by omega)
      rw [List.length_take]; omega
    refine ⟨some a, cap, (List.range len).map fun r => (Z r).take (L r), by rw [hwl], ?_, fun i j => ?_, fun j => ?_⟩
    · rw [hwl]
      refine C_of_cells (cs := (List.range len).map fun r => Value.slice (B r) (L r) (C r)) hwl (by unfold maxLen at hm; omega) (fun j u hu => ⟨a, rfl, ?_⟩) fun k hk => ?_
      · have hj : j < len := by
          have := (List.getElem?_eq_some_iff.1 hu).1
          simpa using this
        have : u = .slice (B j) (L j) (C j) := by simpa [hj] using hu.symm
        rw [this]
        exact (hx j (by omega)).1
      · obtain ⟨h0, h1, h2, h3, h4, h5, h6⟩ := hx k (by omega)
        rw [hget k hk]
        refine ⟨B k, C k, by rw [hlenr k hk]; simp [hk], by rw [hlenr k hk]; exact h1, ?_⟩
        rcases hB : B k with _ | a'
        · have hC := h5 hB
          have hz : (Z k).take (L k) = [] := by rw [← List.length_eq_zero_iff, hlenr k hk]; omega
          rw [hz]
          exact C_none w
        · refine C_of_nums (by rw [hlenr k hk]; unfold maxLen at h2; omega) fun j u hu => ⟨a', rfl, ?_⟩
          have hj : j < L k := by
            have := (List.getElem?_eq_some_iff.1 hu).1
            rwa [nums_length, hlenr k hk] at this
          have hjz : j < (Z k).length := by omega
          rw [(h6 a' hB).2 j (by omega)]
          simp [nums, List.getElem?_take, hj, List.getElem?_eq_getElem hjz] at hu
          rw [← hu]
          simp [List.getD_eq_getElem?_getD, List.getElem?_eq_getElem hjz]
    · by_cases hi : i < len
      · rw [hget i hi]
        by_cases hj : j < ((Z i).take (L i)).length
        · have hmem : rn ((Z i).take (L i)) j ∈ Z i := by
            have h1 : rn ((Z i).take (L i)) j = ((Z i).take (L i))[j] := by simp [rn, List.getD_eq_getElem?_getD, List.getElem?_eq_getElem hj]
            rw [h1]
            exact List.mem_of_mem_take (List.getElem_mem hj)
          exact bounds_u8 ((hx i (by omega)).2.2.2.2.1 _ hmem)
        · rw [rn_out (by omega)]; omega
      · rw [show rl ((List.range len).map fun r => (Z r).take (L r)) i = [] by simp [rl, List.getD_eq_getElem?_getD, hi]]
        simp [rn]
    · by_cases hj : j < len
      · rw [hget j hj, hlenr j hj]
        obtain ⟨_, h1, h2, _⟩ := hx j (by omega)
        unfold maxLen at h2
        omega
      · rw [show rl ((List.range len).map fun r => (Z r).take (L r)) j = [] by simp [rl, List.getD_eq_getElem?_getD, hj]]
        simp
end
end Go.Proofs.Ytjadhhnajphibaa
