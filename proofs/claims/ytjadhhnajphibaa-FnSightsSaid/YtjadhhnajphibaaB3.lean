/- Arrays of small numbers: read, handed over by value, made. -/
import Derived.Test.YtjadhhnajphibaaB2
import Derived.Deep.MidRow
set_option linter.unusedVariables false
set_option linter.unusedSimpArgs false
namespace Go.Proofs.Ytjadhhnajphibaa
open Go.RowKit Go.Proofs.YtjadhhnajphibaaW.PrintWords

/-- the value of an array of bytes. -/
def av (f : List Int) : Value := .agg (nums .u8 f).toArray
theorem av_cells (f : List Int) : (av f).cells = (nums .u8 f).toArray := rfl
section
variable {P : Program}
theorem run_loadVar_agg (w : World) (a0 : Addr) (ty : TypeId) (cs : List Value) (d : TypeDesc) (hc : ∀ j v, cs[j]? = some v → w.cell? (a0.add j) = some v)
    (hu : P.underlying ty = some d) (hd : d.isRow = true) (hi : (P.info? ty).map (·.size) = some cs.length) :
    (loadVar ty a0).run P w = .ok (.agg cs.toArray) w := by
  have hl : (loadCells a0 cs.length).run P w = .ok cs.toArray w := run_loadCells_list (P := P) w a0 cs hc
  cases hq : P.info? ty with
  | none => simp [hq] at hi
  | some i =>
    have hs : i.size = cs.length := by simpa [hq] using hi
    have hagg : (isAgg ty).run P w = .ok true w := by
      unfold isAgg
      rw [Sem.run_bind, run_underlying hu w]
      cases d <;> simp_all
    simp [loadVar, Sem.run_bind, hagg, sizeOf, typeInfo, hq, hs, hl]
theorem load_agg {ops : Array Oper} {rest : List Oper} {op : Oper} {a : Act} {w : World} {Q : Exit → Act → World → Prop} (hgd : op.guard = none) (ty : TypeId) (x : Operand) (ho : op.op = .load ty x)
    (a0 : Addr) (hx : a.eval x = .pointer (some a0)) (cs : List Value) (d : TypeDesc) (hc : ∀ j v, cs[j]? = some v → w.cell? (a0.add j) = some v)
    (hu : P.underlying ty = some d) (hd : d.isRow = true) (hi : (P.info? ty).map (·.size) = some cs.length)
    (h : wpList P ops Q rest (a.put op.dst (.agg cs.toArray)) w) : wpList P ops Q (op :: rest) a w :=
  wpList_plain hgd fun _ hK => by
    unfold Oper.wp execOp
    simp only [ho, hx, Instr.loadAt, Instr.sureAddr, Sem.run_bind, Sem.run_pure, Result.andThen_ok, run_loadVar_agg w a0 ty cs d hc hu hd hi]
    exact hK _ _ h
end
/-- a block of numbers. -/
def NB (kd : IntKind) (w : World) (g t : Nat) (xs : List Int) : Prop := w.heap[g]? = some (.cells (nums kd xs).toArray t (0, 0))
section
variable {kd : IntKind} {w w1 : World} {g t : Nat} {xs : List Int}
theorem NB.cell (h : NB kd w g t xs) {i : Nat} (hi : i < xs.length) : w.cell? ⟨g, i, none⟩ = some (.int kd (rn xs i)) := by
  rw [blk_cell h i]
  simp [nums, rn, List.getElem?_eq_getElem hi, List.getD_eq_getElem?_getD]
theorem NB.frozen (h : NB kd w g t xs) (i : Nat) : w.frozen? ⟨g, i, none⟩ = false := blk_frozen h i
theorem NB.set (h : NB kd w g t xs) (i : Nat) (x : Int) : NB kd (w.setCell ⟨g, i, none⟩ (.int kd x)) g t (xs.set i x) := by
  have h1 := blk_set h i (.int kd x)
  unfold NB
  rw [h1]
  simp [nums, List.map_set]
theorem NB.far (h : NB kd w g t xs) {p : Addr} (hp : g ≠ p.block) (u : Value) : NB kd (w.setCell p u) g t xs := blk_far h hp u
theorem NB.lt (h : NB kd w g t xs) : g < w.heap.size := blk_lt h
theorem NB.alloc (h : NB kd w g t xs) (o : Obj) : NB kd (w.alloc o) g t xs := blk_alloc h o
theorem NB.drewN (h : NB kd w g t xs) (n : Nat) : NB kd (w.drewN n) g t xs := h
theorem NB.below (h : NB kd w g t xs) (hb : Below w.heap.size w w1) : NB kd w1 g t xs := (hb.block g h.lt).trans h
theorem NB.below' {B : Nat} (h : NB kd w g t xs) (hb : Below B w w1) (hg : g < B) : NB kd w1 g t xs := (hb.block g hg).trans h
theorem NB.new (w : World) (t : Nat) (xs : List Int) : NB kd (w.alloc (.cells (nums kd xs).toArray t)) w.heap.size t xs := heap_alloc_new w _
/-- what one reads of it as a range. -/
theorem NB.range (h : NB kd w g t xs) : ∀ j v, (nums kd xs)[j]? = some v → w.cell? ((⟨g, 0, none⟩ : Addr).add j) = some v := by
  intro j v hv
  rw [add_plain, blk_cell h j]
  simpa using hv
theorem NB.there (h : NB kd w g t xs) : w.there g 0 xs.length := fun j hj => by
  rw [Nat.zero_add]
  exact ⟨by rw [h.cell hj]; rfl, h.frozen j⟩
/-- the whole of it is written. -/
theorem NB.over (h : NB kd w g t xs) {ys : List Int} (hl : ys.length = xs.length) : NB kd (w.setCells g 0 (nums kd ys)) g t ys := by
  obtain ⟨cur, h1, h2, h3⟩ := setCells_row (nums kd ys) 0 w _ h (by simp [nums, hl])
  unfold NB
  rw [h1]
  have : cur = (nums kd ys).toArray := by
    rw [← Array.toList_inj, h3]
    simp [nums, hl]
  rw [this]
end
theorem NB.there_mid {kd : IntKind} {w : World} {g t : Nat} {xs : List Int} (h : NB kd w g t xs) {o n : Nat} (hn : o + n ≤ xs.length) : w.there g o n := fun j hj =>
  ⟨by rw [h.cell (show o + j < xs.length by omega)]; rfl, h.frozen _⟩
theorem NB.mid {kd : IntKind} {w : World} {g t : Nat} {xs : List Int} (h : NB kd w g t xs) {o : Nat} {ys : List Int} (hn : o + ys.length ≤ xs.length) : NB kd (w.setCells g o (nums kd ys)) g t (xs.take o ++ ys ++ xs.drop (o + ys.length)) := by
  obtain ⟨cur, h1, h2, h3⟩ := setCells_row (nums kd ys) o w _ h (by simpa [nums] using hn)
  unfold NB
  rw [h1]
  have : cur = (nums kd (xs.take o ++ ys ++ xs.drop (o + ys.length))).toArray := by
    rw [← Array.toList_inj, h3]
    simp [nums]
  rw [this]
theorem setCells_below {B : Nat} {w W : World} (h : Below B w W) {g : Nat} (hg : B ≤ g) (vs : List Value) (o : Nat) : Below B w (W.setCells g o vs) := by
  obtain ⟨h1, h2, h3, h4⟩ := setCells_same g vs o W
  exact ⟨h1.trans h.os, h2.trans h.tape, h3.trans h.output, by rw [h4]; exact h.size, fun k hk => (setCells_far vs o k (by omega)).trans (h.block k hk)⟩
theorem set_below {B : Nat} {w W : World} (h : Below B w W) {p : Addr} (hg : B ≤ p.block) (v : Value) : Below B w (W.setCell p v) := h.setCell hg v
theorem nums_one (kd : IntKind) (xs : List Int) : ∀ v ∈ nums kd xs, v.oneCell' = true := by
  intro v hv
  obtain ⟨x, _, rfl⟩ := List.mem_map.1 hv
  rfl
theorem nums_zero24 : (#[.int .u8 0, .int .u8 0, .int .u8 0, .int .u8 0, .int .u8 0, .int .u8 0, .int .u8 0, .int .u8 0, .int .u8 0, .int .u8 0, .int .u8 0, .int .u8 0, .int .u8 0, .int .u8 0, .int .u8 0, .int .u8 0, .int .u8 0, .int .u8 0, .int .u8 0, .int .u8 0, .int .u8 0, .int .u8 0, .int .u8 0, .int .u8 0] : Array Value) = (nums .u8 (List.replicate 24 0)).toArray := rfl
theorem nums_zero6 : (#[.int .u8 0, .int .u8 0, .int .u8 0, .int .u8 0, .int .u8 0, .int .u8 0] : Array Value) = (nums .u8 (List.replicate 6 0)).toArray := rfl
theorem take_step {xs ys : List Int} {k : Nat} (hk : k < xs.length) (hl : ys.length = xs.length) : (xs.take k ++ ys.drop k).set k (rn xs k) = xs.take (k + 1) ++ ys.drop (k + 1) := by
  apply List.ext_getElem
  · simp; omega
  · intro i h1 h2
    rw [List.getElem_set]
    by_cases e : k = i
    · subst e
      have h3 : k < min (k + 1) xs.length := by omega
      simp only [List.getElem_append, List.length_take, h3, dif_pos, List.getElem_take]
      simp [rn, List.getD_eq_getElem?_getD, hk]
    · rw [if_neg e]
      simp only [List.getElem_append, List.length_take, List.getElem_take, List.getElem_drop]
      by_cases hik : i < k
      · have h3 : i < min k xs.length := by omega
        have h4 : i < min (k + 1) xs.length := by omega
        simp [h3, h4]
      · have h3 : ¬ i < min k xs.length := by omega
        have h4 : ¬ i < min (k + 1) xs.length := by omega
        simp only [h3, h4, dif_neg, not_false_iff]
        congr 1
        omega

section
variable {P : Program}
theorem run_make_rowN (t e : TypeId) (i : TypeInfo) (z : Value) (ht : P.underlying t = some (.slice e)) (hi : P.info? e = some i) (hz : i.zero = some z)
    (kl kc : IntKind) (n c : Nat) (hnc : n ≤ c) (hbytes : i.bytes * c ≤ 281474976710656) (h63 : c ≤ 9223372036854775807) (w : World) :
    (Instr.makeSlice t (.int kl (n : Int)) (.int kc (c : Int))).run P w = .ok (.slice (some ⟨w.heap.size, 0, none⟩) n c) (w.alloc (.cells (madeCells z.cells (c * i.size)) e)) := by
  have hb : (i.bytes : Int) * (c : Int) ≤ 281474976710656 := by
    have h : ((i.bytes * c : Nat) : Int) ≤ 281474976710656 := by omega
    rwa [Int.natCast_mul] at h
  have hr := run_make (P := P) w t e i z ht hi hz kl kc n c (by omega) (by omega) hb (by omega)
  simp only [Int.toNat_natCast] at hr
  exact hr
theorem made_nums (zs : List Int) (k n : Nat) (hk : zs.length = k) (h0 : ∀ i, rn zs i = 0) : madeCells (nums .u8 zs).toArray (n * k) = (nums .u8 (List.replicate (n * k) 0)).toArray := by
  apply Array.ext
  · simp [size_madeCells, nums]
  · intro i h1 h2
    have hi : i < n * k := by simpa [size_madeCells] using h1
    have hkp : 0 < k := by
      rcases Nat.eq_zero_or_pos k with e | e
      · subst e; simp at hi
      · exact e
    have hm : i % k < zs.length := by rw [hk]; exact Nat.mod_lt _ hkp
    have h3 := h0 (i % k)
    simp only [rn, List.getD_eq_getElem?_getD, List.getElem?_eq_getElem hm, Option.getD_some] at h3
    simp [madeCells, nums, hk]
    rw [List.getElem?_eq_getElem hm, h3]
    rfl
/-- make([][k]byte, n): laid ahead of a walk. -/
theorem make_arr (t e : TypeId) (zs : List Int) (k : Nat) (ht : P.underlying t = some (.slice e)) (hinfo : (P.info? e).map (fun i => (i.zero, i.size, i.bytes)) = some (some (av zs), k, k)) (hzl : zs.length = k) (hz0 : ∀ i, rn zs i = 0) (n : Nat) (hn : k * n ≤ 281474976710656) (hn2 : n ≤ 281474976710656) :
    ∀ W : World, (Instr.makeSlice t (.int .i64 (n : Int)) (.int .i64 (n : Int))).run P W = .ok (.slice (some ⟨W.heap.size, 0, none⟩) n n) (W.alloc (.cells (nums .u8 (List.replicate (n * k) 0)).toArray e)) := by
  obtain ⟨i0, hi, hzz⟩ := Option.map_eq_some_iff.1 hinfo
  simp only [Prod.mk.injEq] at hzz
  obtain ⟨hz, hs, hb⟩ := hzz
  intro W
  rw [run_make_rowN t e i0 (av zs) ht hi hz .i64 .i64 n n (Nat.le_refl _) (by rw [hb]; exact hn) (by omega) W, hs, av_cells, made_nums zs k n hzl hz0]
end
/-- rows of arrays, one behind the other. -/
def flat (fs : List (List Int)) : List Int := fs.flatten
theorem flat_length {fs : List (List Int)} {n : Nat} (h : ∀ f ∈ fs, f.length = n) : (flat fs).length = fs.length * n := by
  induction fs with
  | nil => simp [flat]
  | cons f fs ih =>
    have h1 := ih (fun g hg => h g (List.mem_cons_of_mem _ hg))
    have h2 := h f List.mem_cons_self
    simp only [flat, List.flatten_cons, List.length_append, List.length_cons] at *
    rw [h1, h2, Nat.add_mul, Nat.one_mul, Nat.add_comm]
theorem flat_snoc (fs : List (List Int)) (f : List Int) : flat (fs ++ [f]) = flat fs ++ f := by simp [flat]
theorem flat_seg {fs : List (List Int)} {n : Nat} (h : ∀ f ∈ fs, f.length = n) : ∀ {k : Nat}, k < fs.length → ((flat fs).drop (k * n)).take n = rl fs k := by
  induction fs with
  | nil => intro k hk; simp at hk
  | cons f fs ih =>
    intro k hk
    have hf := h f List.mem_cons_self
    cases k with
    | zero => simp [flat, rl, List.take_left' hf]
    | succ k =>
      have h1 := ih (fun g hg => h g (List.mem_cons_of_mem _ hg)) (k := k) (by simpa using hk)
      have h2 : (k + 1) * n = f.length + k * n := by rw [hf, Nat.add_mul]; omega
      simp only [flat, List.flatten_cons] at *
      rw [h2, List.drop_append, List.drop_of_length_le (by omega), List.nil_append]
      rw [show f.length + k * n - f.length = k * n by omega, h1]
      simp [rl]
theorem lens_of {fs : List (List Int)} {n : Nat} (h : ∀ k, k < fs.length → (rl fs k).length = n) : ∀ f ∈ fs, f.length = n := by
  intro f hf
  obtain ⟨k, hk, rfl⟩ := List.mem_iff_getElem.1 hf
  have := h k hk
  simpa [rl, List.getD_eq_getElem?_getD, hk] using this

/-- arrays of n bytes. -/
abbrev Karr (n : Nat) : Kd (List Int) := Kd.arr n (Kd.int .u8) (by decide)
theorem at_arr {w : World} {n m : Nat} {A : Option Addr} {fs : List (List Int)} (h : (Karr n).C w A m fs) {k : Nat} (hk : k < m) :
    ∃ ad, A = some ad ∧ (rl fs k).length = n ∧ ∀ j v, (nums .u8 (rl fs k))[j]? = some v → w.cell? ((ad.add (k * n)).add j) = some v := by
  obtain ⟨ad, c, e, hl, hK, hc⟩ := Kd.C_get h ([] : List Int) k (by omega) (by omega)
  rw [Int.toNat_natCast] at hK hc
  obtain ⟨h1, h2⟩ := Kd.arr_cells hK
  refine ⟨ad, e, h1, fun j v hv => ?_⟩
  rw [Addr.add_add]
  have h3 : (Karr n).sz = n := by simp [Kd.arr, Kd.int, Kd.scalar]
  rw [h3] at hc
  exact hc j v (by rw [h2]; exact hv)
theorem C_lens {w : World} {n m : Nat} {A : Option Addr} {fs : List (List Int)} (h : (Karr n).C w A m fs) : fs.length = m ∧ ∀ k, k < m → (rl fs k).length = n :=
  ⟨h.1, fun k hk => by obtain ⟨_, _, hl, _⟩ := at_arr h hk; exact hl⟩
/-- a block of arrays is read. -/
theorem NB.arrs {w : World} {g t n : Nat} {fs : List (List Int)} (h : NB .u8 w g t (flat fs)) (hn : ∀ f ∈ fs, f.length = n) (hm : fs.length ≤ 9223372036854775807) : (Karr n).C w (some ⟨g, 0, none⟩) fs.length fs := by
  refine ⟨rfl, hm, fun _ => ⟨_, rfl, fun j p hj => ?_⟩⟩
  have hjl := (List.getElem?_eq_some_iff.1 hj).1
  have hp : rl fs j = p := by simp [rl, List.getD_eq_getElem?_getD, hj]
  have hpl : p.length = n := by rw [← hp]; have := hn (rl fs j) (by simp [rl, List.getD_eq_getElem?_getD, hjl]); exact this
  have hsz : (Karr n).sz = n := by simp [Kd.arr, Kd.int, Kd.scalar]
  refine ⟨nums .u8 p, by rw [nums_length, hpl, hsz], ⟨hpl, Kd.reps_scalar p⟩, fun i u hi => ?_⟩
  rw [hsz]
  have hil : i < p.length := by
    have := (List.getElem?_eq_some_iff.1 hi).1
    rwa [nums_length] at this
  refine h.range (j * n + i) u ?_
  have hseg := flat_seg hn hjl
  rw [hp] at hseg
  rw [← hseg] at hi
  simp only [nums, List.getElem?_map, List.getElem?_take, List.getElem?_drop] at hi ⊢
  rw [if_pos (by omega)] at hi
  exact hi
end Go.Proofs.Ytjadhhnajphibaa
