/- Contracts of functions and plain lemmas that the row stands on: Base: plain words on numbers and lists, and on rows that are read. Appends onto a row of one's own: what comes from wherever; zero values. Rows whose elements are only read. Arrays of small numbers: read, handed over by value, made. Copies of arrays, rows and codes: the laws' own. No conditions beyond those that each theorem names. -/
import Derived.Test.YtjadhhnajphibaaProg
import Derived.Test.YtjadhhnajphibaaWWords
import Derived.Test.YtjadhhnajphibaaWArr
import Derived.Lib.Hide
import Derived.Deep.QuietTactic
import Derived.BigQuiet
import Derived.Deep.LoopGhost
import Derived.Shelf.Abstract
import Derived.Test.YtjadhhnajphibaaWZeros
import Derived.Deep.MidRow
set_option linter.unusedVariables false
set_option linter.unusedSimpArgs false
namespace Go.Proofs.Ytjadhhnajphibaa
open Go.RowKit Go.Proofs.YtjadhhnajphibaaW.PrintWords

/-- how many i < n satisfy p. -/
def cnt (p : Nat → Bool) : Nat → Nat
  | 0 => 0
  | n + 1 => cnt p n + if p n then 1 else 0
theorem cnt_le (p : Nat → Bool) (n : Nat) : cnt p n ≤ n := by
  induction n with
  | zero => simp [cnt]
  | succ n ih => unfold cnt; split <;> omega

/-- element k of a list of numbers, of a list of lists. -/
def rn (xs : List Int) (k : Nat) : Int := xs.getD k 0
def rl {α : Type} (xs : List (List α)) (k : Nat) : List α := xs.getD k []
theorem at_nat {w : World} {kd : IntKind} {A : Option Addr} {n : Nat} {xs : List Int} (h : (Kd.int kd).C w A n xs) {k : Nat} (hk : k < n) : ∃ ad, A = some ad ∧ w.cell? (ad.add k) = some (.int kd (rn xs k)) := by
  obtain ⟨ad, e, hx⟩ := Kd.at_int h k (by omega) (by omega)
  exact ⟨ad, e, by simpa only [rd, rn, Int.toNat_natCast] using hx⟩
theorem at_row {α : Type} {d : Kd α} {w : World} {t : Nat} {A : Option Addr} {n : Nat} {xs : List (List α)} (h : (Kd.slice t d).C w A n xs) {k : Nat} (hk : k < n) :
    ∃ ad A1 c1, A = some ad ∧ w.cell? (ad.add k) = some (.slice A1 (rl xs k).length c1) ∧ (rl xs k).length ≤ c1 ∧ d.C w A1 (rl xs k).length (rl xs k) := by
  obtain ⟨ad, c, e, _, hK, hc⟩ := Kd.C_get h ([] : List α) k (by omega) (by omega)
  obtain ⟨A1, c1, rfl, hl, hr⟩ := hK
  have hx := hc 0 _ rfl
  refine ⟨ad, A1, c1, e, ?_, ?_, ?_⟩
  · simpa only [rl, Int.toNat_natCast, Kd.slice, Nat.mul_one, Nat.add_zero] using hx
  · simpa only [rl, Int.toNat_natCast] using hl
  · simpa only [rl, Int.toNat_natCast] using hr
theorem results_tmp4 {fn : Func} {t u v x : Tmp} (h : fn.results = #[.tmp t, .tmp u, .tmp v, .tmp x]) (tmps : Array Value) (P : Program) (w : World) :
    (results fn tmps).run P w = .ok (.tuple #[tmps.getD t undef, tmps.getD u undef, tmps.getD v undef, tmps.getD x undef]) w := by simp [results, h]
theorem ret_int {k : IntKind} {a b : Int} (h : a = b) : Ending.returned (.int k a) = .returned (.int k b) := by rw [h]
theorem ret_bool {a b : Bool} (h : a = b) : Ending.returned (.bool a) = .returned (.bool b) := by rw [h]

theorem bcell {W w1 : World} (hb : Below W.heap.size W w1) : (∀ b o, b < W.heap.size → w1.cell? ⟨b, o, none⟩ = W.cell? ⟨b, o, none⟩) ∧ (∀ b o, b < W.heap.size → w1.frozen? ⟨b, o, none⟩ = W.frozen? ⟨b, o, none⟩) :=
  ⟨fun b o h => hb.cell (p := ⟨b, o, none⟩) h, fun b o h => hb.frozen (p := ⟨b, o, none⟩) h⟩

theorem quiet_any {P : Program} {f : FuncId} {args : Array Value} {w : World} {a : Nat} {v : Value}
    (h : Calls P f args (w.drewN a) fun e w' => e = .returned v ∧ ∃ m, w' = (w.drewN a).drewN m) :
    Calls P f args (w.drewN a) fun e w'' => e = .returned v ∧ ∃ m, w'' = w.drewN m :=
  h.mono fun _ _ ⟨he, m, hm⟩ => ⟨he, a + m, by rw [hm, World.drewN_drewN]⟩
theorem quiet_add {P : Program} {f : FuncId} {args : Array Value} {w : World} {a n : Nat} {v : Value}
    (h : Calls P f args (w.drewN (a + n)) fun e w' => e = .returned v ∧ ∃ m, w' = (w.drewN (a + n)).drewN m) :
    Calls P f args (w.drewN (a + n)) fun e w'' => e = .returned v ∧ ∃ m, w'' = w.drewN (a + m) :=
  h.mono fun _ _ ⟨he, m, hm⟩ => ⟨he, n + m, by rw [hm, World.drewN_drewN, Nat.add_assoc]⟩
theorem quiet_same {P : Program} {f : FuncId} {args : Array Value} {w : World} {a : Nat} {v : Value}
    (h : Calls P f args (w.drewN a) fun e w' => e = .returned v ∧ w.drewN a = w') :
    Calls P f args (w.drewN a) fun e w'' => e = .returned v ∧ ∃ m, w'' = w.drewN m :=
  h.mono fun _ _ ⟨he, hm⟩ => ⟨he, a, hm.symm⟩
theorem quiet_add_same {P : Program} {f : FuncId} {args : Array Value} {w : World} {a n : Nat} {v : Value}
    (h : Calls P f args (w.drewN (a + n)) fun e w' => e = .returned v ∧ w.drewN (a + n) = w') :
    Calls P f args (w.drewN (a + n)) fun e w'' => e = .returned v ∧ ∃ m, w'' = w.drewN (a + m) :=
  h.mono fun _ _ ⟨he, hm⟩ => ⟨he, n, hm.symm⟩
theorem below_dN {B : Nat} {w W : World} (h : Below B w W) (n : Nat) : Below B w (W.drewN n) := ⟨h.os, h.tape, h.output, h.size, h.block⟩

theorem cell_box (w : World) (v : Value) (t : TypeId) : (w.alloc (.cells #[v] t)).cell? ⟨w.heap.size, 0, none⟩ = some v := by
  rw [World.cell?_alloc_new]; rfl
theorem below_box (w : World) (o : Obj) : Below w.heap.size w (w.alloc o) := below_alloc (Below.refl _ _) o
theorem size_box (w : World) (o : Obj) : (w.alloc o).heap.size = w.heap.size + 1 := by simp

theorem C_below' {α : Type} {d : Kd α} {w w1 : World} {A : Option Addr} {n : Nat} {xs : List α} (h : d.C w A n xs) (hb : Below w.heap.size w w1) : d.C w1 A n xs := Kd.C_below h hb

/-- low ≤ n ≤ high. -/
def inB (n low high : Int) : Bool := decide (low ≤ n ∧ n ≤ high)
theorem inB_yes {n low high : Int} (h1 : low ≤ n) (h2 : n ≤ high) : inB n low high = true := decide_eq_true ⟨h1, h2⟩
theorem inB_no {n low high : Int} (h : ¬ (low ≤ n ∧ n ≤ high)) : inB n low high = false := decide_eq_false h
theorem inB_iff {n low high : Int} : inB n low high = true ↔ low ≤ n ∧ n ≤ high := decide_eq_true_iff
def unlessV (b : Bool) (c : Int) : Int := if b then 0 else c

/-- in how many of the first k places two lists differ. -/
def diffsTo (xs ys : List Int) (k : Nat) : Nat := cnt (fun i => rn xs i != rn ys i) k
theorem diffsTo_le (xs ys : List Int) (k : Nat) : diffsTo xs ys k ≤ k := cnt_le _ _
theorem diffsTo_yes {xs ys : List Int} {k : Nat} (h : (rn xs k != rn ys k) = true) : diffsTo xs ys (k + 1) = diffsTo xs ys k + 1 := by simp [diffsTo, cnt, h]
theorem diffsTo_no {xs ys : List Int} {k : Nat} (h : (rn xs k != rn ys k) = false) : diffsTo xs ys (k + 1) = diffsTo xs ys k := by simp [diffsTo, cnt, h]
def diffs (xs ys : List Int) : Nat := diffsTo xs ys xs.length

/-- some i < n satisfies p; all do; the first one that does (-1 if none does). -/
def anyB (p : Nat → Bool) (n : Nat) : Bool := (List.range n).any p
def allB (p : Nat → Bool) (n : Nat) : Bool := (List.range n).all p
theorem anyB_iff {p : Nat → Bool} {n : Nat} : anyB p n = true ↔ ∃ i, i < n ∧ p i = true := by simp [anyB]
theorem allB_iff {p : Nat → Bool} {n : Nat} : allB p n = true ↔ ∀ i, i < n → p i = true := by simp [allB]
theorem anyB_no {p : Nat → Bool} {n : Nat} (h : ∀ i, i < n → p i = false) : anyB p n = false := by
  rw [Bool.eq_false_iff]
  intro hc
  obtain ⟨i, hi, hp⟩ := anyB_iff.1 hc
  rw [h i hi] at hp
  cases hp
theorem allB_no {p : Nat → Bool} {n i : Nat} (hi : i < n) (h : p i = false) : allB p n = false := by
  rw [Bool.eq_false_iff]
  intro hc
  rw [allB_iff.1 hc i hi] at h
  cases h
theorem allB_not (p : Nat → Bool) (n : Nat) : (!anyB p n) = allB (fun i => !p i) n := by
  rcases h : anyB p n with _ | _
  · refine (allB_iff.2 fun i hi => ?_).symm
    rcases hp : p i with _ | _
    · rfl
    · rw [anyB_iff.2 ⟨i, hi, hp⟩] at h; cases h
  · obtain ⟨i, hi, hp⟩ := anyB_iff.1 h
    exact (allB_no hi (by simp [hp])).symm
theorem allB_congr {p q : Nat → Bool} {n : Nat} (h : ∀ i, i < n → p i = q i) : allB p n = allB q n := by
  rw [Bool.eq_iff_iff, allB_iff, allB_iff]
  exact ⟨fun g i hi => (h i hi) ▸ g i hi, fun g i hi => (h i hi).symm ▸ g i hi⟩
def idx (p : Nat → Bool) : Nat → Int
  | 0 => -1
  | n + 1 => if 0 ≤ idx p n then idx p n else if p n then n else -1
theorem idx_none {p : Nat → Bool} : ∀ {n : Nat}, (∀ i, i < n → p i = false) → idx p n = -1
  | 0, _ => rfl
  | n + 1, h => by
    have h1 := idx_none (p := p) (n := n) (fun i hi => h i (by omega))
    simp [idx, h1, h n (by omega)]
theorem idx_hit {p : Nat → Bool} {k : Nat} (h : ∀ i, i < k → p i = false) (hk : p k = true) : ∀ {n : Nat}, k < n → idx p n = k
  | 0, hn => absurd hn (by omega)
  | n + 1, hn => by
    by_cases e : k = n
    · subst e
      simp [idx, idx_none h, hk]
    · have h1 := idx_hit h hk (n := n) (by omega)
      simp [idx, h1]
theorem idx_any (p : Nat → Bool) (n : Nat) : decide (0 ≤ idx p n) = anyB p n := by
  rcases h : anyB p n with _ | _
  · have h1 : ∀ i, i < n → p i = false := fun i hi => by
      rcases hp : p i with _ | _
      · rfl
      · rw [anyB_iff.2 ⟨i, hi, hp⟩] at h; cases h
    simp [idx_none h1]
  · obtain ⟨i, hi, hp⟩ := anyB_iff.1 h
    have : ∀ m, m ≤ n → (0 ≤ idx p m ∨ ∀ j, j < m → p j = false) := by
      intro m
      induction m with
      | zero => exact fun _ => .inr fun j hj => absurd hj (by omega)
      | succ m ih =>
        intro hm
        rcases ih (by omega) with h1 | h1
        · left; simp [idx, h1]
        · rcases hq : p m with _ | _
          · right
            intro j hj
            by_cases e : j = m
            · rw [e]; exact hq
            · exact h1 j (by omega)
          · left; simp [idx, idx_none h1, hq]
    rcases this n (Nat.le_refl _) with h1 | h1
    · simpa using h1
    · rw [h1 i hi] at hp; cases hp

/-- the elements of a row as values. -/
def Raw (w : World) (A : Option Addr) (n : Nat) (el : Nat → Value) : Prop := n ≤ 9223372036854775807 ∧ ∀ k, k < n → ∃ ad, A = some ad ∧ w.cell? (ad.add k) = some (el k)
theorem Raw.below {w w1 : World} {A : Option Addr} {n : Nat} {el : Nat → Value} (h : Raw w A n el) (hb : Below w.heap.size w w1) : Raw w1 A n el :=
  ⟨h.1, fun k hk => by
    obtain ⟨ad, e, hc⟩ := h.2 k hk
    exact ⟨ad, e, pw_cell_below hb hc⟩⟩
theorem raw_int {w : World} {kd : IntKind} {A : Option Addr} {n : Nat} {xs : List Int} (h : (Kd.int kd).C w A n xs) : Raw w A n (fun k => .int kd (rn xs k)) := ⟨h.2.1, fun k hk => at_nat h hk⟩
theorem raw_row {α : Type} {d : Kd α} {w : World} {t : Nat} {A : Option Addr} {n : Nat} {xs : List (List α)} (h : (Kd.slice t d).C w A n xs) :
    ∃ (ac : Nat → Option Addr × Nat), Raw w A n (fun k => .slice (ac k).1 (rl xs k).length (ac k).2) ∧ ∀ k, k < n → (rl xs k).length ≤ (ac k).2 ∧ d.C w (ac k).1 (rl xs k).length (rl xs k) := by
  have h1 : ∀ k, ∃ ac : Option Addr × Nat, k < n → (∃ ad, A = some ad ∧ w.cell? (ad.add k) = some (.slice ac.1 (rl xs k).length ac.2)) ∧ (rl xs k).length ≤ ac.2 ∧ d.C w ac.1 (rl xs k).length (rl xs k) := by
    intro k
    by_cases hk : k < n
    · obtain ⟨ad, A1, c1, e, hc, hl, hr⟩ := at_row h hk
      exact ⟨(A1, c1), fun _ => ⟨⟨ad, e, hc⟩, hl, hr⟩⟩
    · exact ⟨(none, 0), fun h => absurd h hk⟩
  exact ⟨fun k => Classical.choose (h1 k), ⟨h.2.1, fun k hk => (Classical.choose_spec (h1 k) hk).1⟩, fun k hk => (Classical.choose_spec (h1 k) hk).2⟩

/-- a function value, asked of the elements el of a row of n: it may make memory, and turns none. -/
def PredB (P : Program) (g : Nat) (lb : Array Value) (n : Nat) (el : Nat → Value) (p : Nat → Bool) (w : World) : Prop :=
  ∀ (k : Nat) (W : World), k < n → Below w.heap.size w W → Calls P g (#[el k] ++ lb) W fun e w' => e = .returned (.bool (p k)) ∧ Below W.heap.size W w'
end Go.Proofs.Ytjadhhnajphibaa
namespace Go.Proofs.Ytjadhhnajphibaa
open Go.RowKit Go.Proofs.YtjadhhnajphibaaW.PrintWords

/-- the cells of a row that is read, wherever it lies. -/
def Cells (w : World) (A : Option Addr) (cs : List Value) : Prop := ∀ j u, cs[j]? = some u → ∃ ad, A = some ad ∧ w.cell? (ad.add j) = some u
theorem Cells.below {w w1 : World} {A : Option Addr} {cs : List Value} (h : Cells w A cs) (hb : Below w.heap.size w w1) : Cells w1 A cs := fun j u hu => by
  obtain ⟨ad, e, hc⟩ := h j u hu
  exact ⟨ad, e, pw_cell_below hb hc⟩
theorem Cells.nil (w : World) (A : Option Addr) : Cells w A [] := fun j u hu => by simp at hu
theorem cells_of_raw {w : World} {A : Option Addr} {n : Nat} {el : Nat → Value} (h : Raw w A n el) : Cells w A ((List.range n).map el) := fun j u hu => by
  have hj : j < n := by
    have := (List.getElem?_eq_some_iff.1 hu).1
    simpa using this
  obtain ⟨ad, e, hc⟩ := h.2 j hj
  have : u = el j := by simpa [hj] using hu.symm
  exact ⟨ad, e, by rw [this]; exact hc⟩

section
variable {P : Program} {ops : Array Oper} {rest : List Oper} {o : Oper} {a : Act} {Q : Exit → Act → World → Prop}
theorem run_append_cells (w : World) (base : Nat) (t ty e : TypeId) (i : TypeInfo) (z : Value) (size bytes : Nat) (ht : P.underlying t = some (.slice e)) (hi : P.info? e = some i) (hz : i.zero = some z)
    (hsize : i.size = size) (hby : i.bytes = bytes) (hzs : z.cells.size = size) (hsz : 0 < size)
    (v : Value) (n : Nat) (xs : List Value) (hown : w.ownsRow base e size v n xs) (A : Option Addr) (m c : Nat) (news : List Value) (hl : news.length = m * size) (hr : Cells w A news) (h1 : ∀ u ∈ news, u.oneCell' = true)
    (hbytes : (n + m) * bytes ≤ 140737488355328) (h63 : n + m ≤ maxLen) (hbase : base ≤ w.heap.size) :
    ∃ v' w', (Builtin.append_ #[t, t] ty #[v, .slice A m c]).run P w = .ok v' w' ∧ w'.ownsRow base e size v' (n + m) (xs ++ news) ∧ w.grownBy w' v.ownBlock ∧ (v'.ownBlock = v.ownBlock ∨ v'.ownBlock = some w.heap.size) := by
  rcases A with _ | ad
  · have hn : news = [] := by
      rcases news with _ | ⟨u, us⟩
      · rfl
      · obtain ⟨ad, h, _⟩ := hr 0 u rfl
        cases h
    subst hn
    have hm : m = 0 := by
      rcases Nat.mul_eq_zero.1 hl.symm with h | h
      · exact h
      · omega
    subst hm
    refine ⟨v, w, ?_, by simpa using hown, World.grownBy.refl w _, .inl rfl⟩
    rcases hown.2 with ⟨rfl, rfl⟩ | ⟨g, cap, cur, rfl, _, _, hnc, _⟩
    · simp [Builtin.append_, run_underlying ht, sizeOf, typeInfo, hi, Builtin.lenOf, Builtin.firstCells]
    · simp [Builtin.append_, run_underlying ht, sizeOf, typeInfo, hi, Builtin.lenOf, Builtin.firstCells, hnc, storeCells]
  · have hcells : ∀ j u, news[j]? = some u → w.cell? (ad.add j) = some u := by
      intro j u hu
      obtain ⟨ad', h, hc⟩ := hr j u hu
      injection h with h
      subst h
      exact hc
    obtain ⟨v', w', hrun, h2, h3, _, h5⟩ := run_append_own_at (P := P) w base t ty e i z size bytes ht hi hz hsize hby hzs hsz v n xs hown ad m c news hl hcells h1 h63 hbytes hbase
    exact ⟨v', w', hrun, h2, h3, h5⟩
theorem own_append (w : World) (hgd : o.guard = none) (s x : Operand) (t : TypeId)
    (ho : o.op = .call { callee := .builtin .append, args := #[s, x], argTypes := #[t, t] })
    (base : Nat) (e : TypeId) (z : Value) (size bytes : Nat) (ht : P.underlying t = some (.slice e)) (hinfo : (P.info? e).map (fun i => (i.zero, i.size, i.bytes)) = some (some z, size, bytes)) (hzs : z.cells.size = size) (hsz : 0 < size) (hb0 : 0 < bytes)
    (v : Value) (n : Nat) (xs : List Value) (hs : a.eval s = v) (hown : w.ownsRow base e size v n xs) (A : Option Addr) (m c : Nat) (news : List Value) (hx : a.eval x = .slice A m c) (hl : news.length = m * size) (hr : Cells w A news) (h1 : ∀ u ∈ news, u.oneCell' = true)
    (hbytes : (n + m) * bytes ≤ 140737488355328) (hbase : base ≤ w.heap.size)
    (h : ∀ v' w', w'.ownsRow base e size v' (n + m) (xs ++ news) → w.grownBy w' v.ownBlock → (v'.ownBlock = v.ownBlock ∨ v'.ownBlock = some w.heap.size) → wpList P ops Q rest (a.put o.dst v') w') : wpList P ops Q (o :: rest) a w := by
  obtain ⟨i0, hi, hzz⟩ := Option.map_eq_some_iff.1 hinfo
  simp only [Prod.mk.injEq] at hzz
  obtain ⟨hz0, hz1, hz2⟩ := hzz
  have hlen : n + m ≤ 140737488355328 := Nat.le_trans (Nat.le_mul_of_pos_right _ hb0) hbytes
  obtain ⟨v', w', hrun, h2, h3, h4⟩ := run_append_cells (P := P) w base t o.type e i0 z size bytes ht hi hz0 hz1 hz2 hzs hsz v n xs hown A m c news hl hr h1 hbytes (by simp only [maxLen]; omega) hbase
  refine wpList_plain hgd fun K hK => ?_
  unfold Oper.wp execOp
  simp only [ho, resolve, invoke, builtin, Sem.run_bind, Sem.run_pure, Result.andThen_ok, List.map_toArray, List.map_cons, List.map_nil, hs, hx, hrun]
  exact hK _ _ (h v' w' h2 h3 h4)
theorem own_zeros (w : World) (hgd : o.guard = none) (s x : Operand) (t ti : TypeId)
    (ho : o.op = .call { callee := .builtin .append, args := #[s, x], argTypes := #[t, ti] })
    (base : Nat) (e : TypeId) (z : Value) (size bytes : Nat) (ht : P.underlying t = some (.slice e)) {k : IntKind} (hti : P.underlying ti = some (.int k)) (hinfo : (P.info? e).map (fun i => (i.zero, i.size, i.bytes)) = some (some z, size, bytes)) (hzs : z.cells.size = size) (hsz : 0 < size) (hb0 : 0 < bytes)
    (v : Value) (n : Nat) (xs : List Value) (hs : a.eval s = v) (hown : w.ownsRow base e size v n xs) (kx : IntKind) (m : Nat) (hx : a.eval x = .int kx m) (h1 : ∀ u ∈ (Builtin.zeroCells z.cells m).toList, u.oneCell' = true)
    (hbytes : (n + m) * bytes ≤ 140737488355328) (hbase : base ≤ w.heap.size)
    (h : ∀ v' w', w'.ownsRow base e size v' (n + m) (xs ++ (Builtin.zeroCells z.cells m).toList) → w.grownBy w' v.ownBlock → (v'.ownBlock = v.ownBlock ∨ v'.ownBlock = some w.heap.size) → wpList P ops Q rest (a.put o.dst v') w') : wpList P ops Q (o :: rest) a w := by
  obtain ⟨i0, hi, hzz⟩ := Option.map_eq_some_iff.1 hinfo
  simp only [Prod.mk.injEq] at hzz
  obtain ⟨hz0, hz1, hz2⟩ := hzz
  obtain ⟨v', w', hrun, h2, h3, h4⟩ := run_append_zeros (P := P) w base t ti o.type e i0 z size bytes ht hti hi hz0 hz1 hz2 hzs hsz hb0 v n xs hown kx m h1 hbytes hbase
  refine wpList_plain hgd fun K hK => ?_
  unfold Oper.wp execOp
  simp only [ho, resolve, invoke, builtin, Sem.run_bind, Sem.run_pure, Result.andThen_ok, List.map_toArray, List.map_cons, List.map_nil, hs, hx, hrun]
  exact hK _ _ (h v' w' h2 h3 h4)
end

theorem reps_nil' {α : Type} (R : α → List Value → Prop) (size : Nat) : Reps R size [] [] := ⟨by simp, fun j p h => by simp at h⟩

/-- a row of one's own, cut to nothing. -/
theorem own_cut0 {w : World} {base : Nat} {e : TypeId} {size n c : Nat} {A : Option Addr} {xs : List Value} (h : w.ownsRow base e size (.slice A n c) n xs) : w.ownsRow base e size (.slice A 0 c) 0 [] := by
  refine ⟨by simp, ?_⟩
  rcases h.2 with ⟨h1, h2⟩ | ⟨g, cap, cur, h1, h2, h3, h4, h5, h6, h7⟩
  · injection h1 with h1 h1' h1''
    subst h1 h1''
    exact .inl ⟨rfl, rfl⟩
  · injection h1 with h1 h1' h1''
    subst h1 h1''
    exact .inr ⟨g, c, cur, rfl, h2, h3, Nat.zero_le _, h5, h6, by simp⟩
/-- what an own row's cells are. -/
theorem own_cells {w : World} {base : Nat} {e : TypeId} {size n : Nat} {v : Value} {xs : List Value} (h : w.ownsRow base e size v n xs) : ∃ A c, v = .slice A n c ∧ n ≤ c ∧ Cells w A xs := by
  have hn := h
  rcases h.2 with ⟨rfl, rfl⟩ | ⟨g, cap, cur, rfl, _, _, hc, _⟩
  · have : xs = [] := by simpa using h.1
    subst this
    exact ⟨none, 0, rfl, Nat.le_refl _, Cells.nil _ _⟩
  · exact ⟨_, cap, rfl, hc, fun j u hu => ⟨_, rfl, h.cells (g := g) rfl j u hu⟩⟩
/-- a row of one's own whose elements are rows that are read. -/
theorem C_of_cells {α : Type} {d : Kd α} {w : World} {t : Nat} {A : Option Addr} {n : Nat} {cs : List Value} {xs : List (List α)} (hn : xs.length = n) (hm : n ≤ 9223372036854775807) (hc : Cells w A cs)
    (h : ∀ k, k < n → ∃ A1 c1, cs[k]? = some (.slice A1 (rl xs k).length c1) ∧ (rl xs k).length ≤ c1 ∧ d.C w A1 (rl xs k).length (rl xs k)) : (Kd.slice t d).C w A n xs := by
  refine ⟨hn, hm, fun h0 => ?_⟩
  obtain ⟨A1, c1, hu, _⟩ := h 0 h0
  obtain ⟨ad, rfl, _⟩ := hc 0 _ hu
  refine ⟨ad, rfl, fun j p hj => ?_⟩
  have hjl := (List.getElem?_eq_some_iff.1 hj).1
  have hp : rl xs j = p := by simp [rl, List.getD_eq_getElem?_getD, hj]
  obtain ⟨A1, c1, hu, hl, hr⟩ := h j (by omega)
  rw [hp] at hu hl hr
  refine ⟨[.slice A1 p.length c1], rfl, ⟨A1, c1, rfl, hl, hr⟩, fun i u hi => ?_⟩
  cases i with
  | zero =>
    obtain ⟨ad', e, hcell⟩ := hc j _ hu
    cases e
    have : u = .slice A1 p.length c1 := by simpa using hi.symm
    subst this
    simpa [Kd.slice] using hcell
  | succ i => simp at hi
theorem C_of_nums {w : World} {kd : IntKind} {A : Option Addr} {xs : List Int} (hm : xs.length ≤ 9223372036854775807) (h : Cells w A (nums kd xs)) : (Kd.int kd).C w A xs.length xs := by
  refine ⟨rfl, hm, fun h0 => ?_⟩
  obtain ⟨ad, rfl, _⟩ := h 0 (.int kd (xs[0]'h0)) (by simp [nums, List.getElem?_eq_getElem h0])
  refine ⟨ad, rfl, fun j p hj => ⟨[.int kd p], rfl, rfl, fun i u hi => ?_⟩⟩
  cases i with
  | zero =>
    obtain ⟨ad', e, hc⟩ := h j (.int kd p) (by simp [nums, hj])
    cases e
    have : u = .int kd p := by simpa using hi.symm
    subst this
    simpa [Kd.int, Kd.scalar] using hc
  | succ i => simp at hi
theorem own_C {w : World} {base : Nat} {e : TypeId} {kd : IntKind} {v : Value} {n : Nat} {xs : List Int} (h : w.ownsRow base e 1 v n (nums kd xs)) : xs.length = n ∧ ∃ A c, v = .slice A n c ∧ n ≤ c ∧ (Kd.int kd).C w A n xs := by
  have hl : xs.length = n := by have := h.1; simp [nums] at this; exact this
  have hm : n ≤ 9223372036854775807 := by
    rcases h.2 with ⟨_, h1⟩ | ⟨g', cap', cur, he, _, _, h1, h2, _⟩
    · omega
    · simp only [maxLen] at h2
      omega
  obtain ⟨A, c, hv, hc, hcell⟩ := own_cells h
  subst hl
  exact ⟨rfl, A, c, hv, hc, C_of_nums hm hcell⟩
/-- an own row of numbers as an element that has been made. -/
theorem M_of_own {w : World} {base : Nat} {e : TypeId} {kd : IntKind} {v : Value} {n : Nat} {xs : List Int} {ok : Nat → Prop} (h : w.ownsRow base e 1 v n (nums kd xs)) (hok : ∀ k, v.ownBlock = some k → ok k) : (Kd.slice e (Kd.int kd)).M w base ok xs [v] := by
  have hl : xs.length = n := by have := h.1; simp [nums] at this; exact this
  subst hl
  exact ⟨v, rfl, Kd.R_of_own h hok⟩
end Go.Proofs.Ytjadhhnajphibaa
namespace Go.Proofs.Ytjadhhnajphibaa
open Go.RowKit Go.Proofs.YtjadhhnajphibaaW.PrintWords

/-- the value of an array of bytes. -/
def av (f : List Int) : Value := .agg (nums .u8 f).toArray
theorem av_cells (f : List Int) : (av f).cells = (nums .u8 f).toArray := rfl
section
variable {P : Program}
theorem run_loadVar_agg (w : World) (a0 : Addr) (ty : TypeId) (cs : List Value) (d : TypeDesc) (hc : ∀ j v, cs[j]? = some v → w.cell? (a0.add j) = some v)
    (hu : P.underlying ty = some d) (hd : d.isRow = true) (hi : (P.info? ty).map (·.size) = some cs.length) :
    (loadVar ty a0).run P w = .ok (.agg cs.toArray) w := by
  have hl : (loadCells a0 cs.length).run P w = .ok cs.toArray w := run_loadCells_list (P := P) w a0 cs hc
  cases hq : P.info? ty with
  | none => simp [hq] at hi
  | some i =>
    have hs : i.size = cs.length := by simpa [hq] using hi
    have hagg : (isAgg ty).run P w = .ok true w := by
      unfold isAgg
      rw [Sem.run_bind, run_underlying hu w]
      cases d <;> simp_all
    simp [loadVar, Sem.run_bind, hagg, sizeOf, typeInfo, hq, hs, hl]
theorem load_agg {ops : Array Oper} {rest : List Oper} {op : Oper} {a : Act} {w : World} {Q : Exit → Act → World → Prop} (hgd : op.guard = none) (ty : TypeId) (x : Operand) (ho : op.op = .load ty x)
    (a0 : Addr) (hx : a.eval x = .pointer (some a0)) (cs : List Value) (d : TypeDesc) (hc : ∀ j v, cs[j]? = some v → w.cell? (a0.add j) = some v)
    (hu : P.underlying ty = some d) (hd : d.isRow = true) (hi : (P.info? ty).map (·.size) = some cs.length)
    (h : wpList P ops Q rest (a.put op.dst (.agg cs.toArray)) w) : wpList P ops Q (op :: rest) a w :=
  wpList_plain hgd fun _ hK => by
    unfold Oper.wp execOp
    simp only [ho, hx, Instr.loadAt, Instr.sureAddr, Sem.run_bind, Sem.run_pure, Result.andThen_ok, run_loadVar_agg w a0 ty cs d hc hu hd hi]
    exact hK _ _ h
end
/-- a block of numbers. -/
def NB (kd : IntKind) (w : World) (g t : Nat) (xs : List Int) : Prop := w.heap[g]? = some (.cells (nums kd xs).toArray t (0, 0))
section
variable {kd : IntKind} {w w1 : World} {g t : Nat} {xs : List Int}
theorem NB.cell (h : NB kd w g t xs) {i : Nat} (hi : i < xs.length) : w.cell? ⟨g, i, none⟩ = some (.int kd (rn xs i)) := by
  rw [blk_cell h i]
  simp [nums, rn, List.getElem?_eq_getElem hi, List.getD_eq_getElem?_getD]
theorem NB.frozen (h : NB kd w g t xs) (i : Nat) : w.frozen? ⟨g, i, none⟩ = false := blk_frozen h i
theorem NB.set (h : NB kd w g t xs) (i : Nat) (x : Int) : NB kd (w.setCell ⟨g, i, none⟩ (.int kd x)) g t (xs.set i x) := by
  have h1 := blk_set h i (.int kd x)
  unfold NB
  rw [h1]
  simp [nums, List.map_set]
theorem NB.far (h : NB kd w g t xs) {p : Addr} (hp : g ≠ p.block) (u : Value) : NB kd (w.setCell p u) g t xs := blk_far h hp u
theorem NB.lt (h : NB kd w g t xs) : g < w.heap.size := blk_lt h
theorem NB.alloc (h : NB kd w g t xs) (o : Obj) : NB kd (w.alloc o) g t xs := blk_alloc h o
theorem NB.drewN (h : NB kd w g t xs) (n : Nat) : NB kd (w.drewN n) g t xs := h
theorem NB.below (h : NB kd w g t xs) (hb : Below w.heap.size w w1) : NB kd w1 g t xs := (hb.block g h.lt).trans h
theorem NB.below' {B : Nat} (h : NB kd w g t xs) (hb : Below B w w1) (hg : g < B) : NB kd w1 g t xs := (hb.block g hg).trans h
theorem NB.new (w : World) (t : Nat) (xs : List Int) : NB kd (w.alloc (.cells (nums kd xs).toArray t)) w.heap.size t xs := heap_alloc_new w _
/-- what one reads of it as a range. -/
theorem NB.range (h : NB kd w g t xs) : ∀ j v, (nums kd xs)[j]? = some v → w.cell? ((⟨g, 0, none⟩ : Addr).add j) = some v := by
  intro j v hv
  rw [add_plain, blk_cell h j]
  simpa using hv
theorem NB.there (h : NB kd w g t xs) : w.there g 0 xs.length := fun j hj => by
  rw [Nat.zero_add]
  exact ⟨by rw [h.cell hj]; rfl, h.frozen j⟩
/-- the whole of it is written. -/
theorem NB.over (h : NB kd w g t xs) {ys : List Int} (hl : ys.length = xs.length) : NB kd (w.setCells g 0 (nums kd ys)) g t ys := by
  obtain ⟨cur, h1, h2, h3⟩ := setCells_row (nums kd ys) 0 w _ h (by simp [nums, hl])
  unfold NB
  rw [h1]
  have : cur = (nums kd ys).toArray := by
    rw [← Array.toList_inj, h3]
    simp [nums, hl]
  rw [this]
end
theorem NB.there_mid {kd : IntKind} {w : World} {g t : Nat} {xs : List Int} (h : NB kd w g t xs) {o n : Nat} (hn : o + n ≤ xs.length) : w.there g o n := fun j hj =>
  ⟨by rw [h.cell (show o + j < xs.length by omega)]; rfl, h.frozen _⟩
theorem NB.mid {kd : IntKind} {w : World} {g t : Nat} {xs : List Int} (h : NB kd w g t xs) {o : Nat} {ys : List Int} (hn : o + ys.length ≤ xs.length) : NB kd (w.setCells g o (nums kd ys)) g t (xs.take o ++ ys ++ xs.drop (o + ys.length)) := by
  obtain ⟨cur, h1, h2, h3⟩ := setCells_row (nums kd ys) o w _ h (by simpa [nums] using hn)
  unfold NB
  rw [h1]
  have : cur = (nums kd (xs.take o ++ ys ++ xs.drop (o + ys.length))).toArray := by
    rw [← Array.toList_inj, h3]
    simp [nums]
  rw [this]
theorem setCells_below {B : Nat} {w W : World} (h : Below B w W) {g : Nat} (hg : B ≤ g) (vs : List Value) (o : Nat) : Below B w (W.setCells g o vs) := by
  obtain ⟨h1, h2, h3, h4⟩ := setCells_same g vs o W
  exact ⟨h1.trans h.os, h2.trans h.tape, h3.trans h.output, by rw [h4]; exact h.size, fun k hk => (setCells_far vs o k (by omega)).trans (h.block k hk)⟩
theorem set_below {B : Nat} {w W : World} (h : Below B w W) {p : Addr} (hg : B ≤ p.block) (v : Value) : Below B w (W.setCell p v) := h.setCell hg v
theorem nums_one (kd : IntKind) (xs : List Int) : ∀ v ∈ nums kd xs, v.oneCell' = true := by
  intro v hv
  obtain ⟨x, _, rfl⟩ := List.mem_map.1 hv
  rfl
theorem nums_zero24 : (#[.int .u8 0, .int .u8 0, .int .u8 0, .int .u8 0, .int .u8 0, .int .u8 0, .int .u8 0, .int .u8 0, .int .u8 0, .int .u8 0, .int .u8 0, .int .u8 0, .int .u8 0, .int .u8 0, .int .u8 0, .int .u8 0, .int .u8 0, .int .u8 0, .int .u8 0, .int .u8 0, .int .u8 0, .int .u8 0, .int .u8 0, .int .u8 0] : Array Value) = (nums .u8 (List.replicate 24 0)).toArray := rfl
theorem nums_zero6 : (#[.int .u8 0, .int .u8 0, .int .u8 0, .int .u8 0, .int .u8 0, .int .u8 0] : Array Value) = (nums .u8 (List.replicate 6 0)).toArray := rfl
theorem take_step {xs ys : List Int} {k : Nat} (hk : k < xs.length) (hl : ys.length = xs.length) : (xs.take k ++ ys.drop k).set k (rn xs k) = xs.take (k + 1) ++ ys.drop (k + 1) := by
  apply List.ext_getElem
  · simp; omega
  · intro i h1 h2
    rw [List.getElem_set]
    by_cases e : k = i
    · subst e
      have h3 : k < min (k + 1) xs.length := by omega
      simp only [List.getElem_append, List.length_take, h3, dif_pos, List.getElem_take]
      simp [rn, List.getD_eq_getElem?_getD, hk]
    · rw [if_neg e]
      simp only [List.getElem_append, List.length_take, List.getElem_take, List.getElem_drop]
      by_cases hik : i < k
      · have h3 : i < min k xs.length := by omega
        have h4 : i < min (k + 1) xs.length := by omega
        simp [h3, h4]
      · have h3 : ¬ i < min k xs.length := by omega
        have h4 : ¬ i < min (k + 1) xs.length := by omega
        simp only [h3, h4, dif_neg, not_false_iff]
        congr 1
        omega

section
variable {P : Program}
theorem run_make_rowN (t e : TypeId) (i : TypeInfo) (z : Value) (ht : P.underlying t = some (.slice e)) (hi : P.info? e = some i) (hz : i.zero = some z)
    (kl kc : IntKind) (n c : Nat) (hnc : n ≤ c) (hbytes : i.bytes * c ≤ 281474976710656) (h63 : c ≤ 9223372036854775807) (w : World) :
    (Instr.makeSlice t (.int kl (n : Int)) (.int kc (c : Int))).run P w = .ok (.slice (some ⟨w.heap.size, 0, none⟩) n c) (w.alloc (.cells (madeCells z.cells (c * i.size)) e)) := by
  have hb : (i.bytes : Int) * (c : Int) ≤ 281474976710656 := by
    have h : ((i.bytes * c : Nat) : Int) ≤ 281474976710656 := by omega
    rwa [Int.natCast_mul] at h
  have hr := run_make (P := P) w t e i z ht hi hz kl kc n c (by omega) (by omega) hb (by omega)
  simp only [Int.toNat_natCast] at hr
  exact hr
theorem made_nums (zs : List Int) (k n : Nat) (hk : zs.length = k) (h0 : ∀ i, rn zs i = 0) : madeCells (nums .u8 zs).toArray (n * k) = (nums .u8 (List.replicate (n * k) 0)).toArray := by
  apply Array.ext
  · simp [size_madeCells, nums]
  · intro i h1 h2
    have hi : i < n * k := by simpa [size_madeCells] using h1
    have hkp : 0 < k := by
      rcases Nat.eq_zero_or_pos k with e | e
      · subst e; simp at hi
      · exact e
    have hm : i % k < zs.length := by rw [hk]; exact Nat.mod_lt _ hkp
    have h3 := h0 (i % k)
    simp only [rn, List.getD_eq_getElem?_getD, List.getElem?_eq_getElem hm, Option.getD_some] at h3
    simp [madeCells, nums, hk]
    rw [List.getElem?_eq_getElem hm, h3]
    rfl
/-- make([][k]byte, n): laid ahead of a walk. -/
theorem make_arr (t e : TypeId) (zs : List Int) (k : Nat) (ht : P.underlying t = some (.slice e)) (hinfo : (P.info? e).map (fun i => (i.zero, i.size, i.bytes)) = some (some (av zs), k, k)) (hzl : zs.length = k) (hz0 : ∀ i, rn zs i = 0) (n : Nat) (hn : k * n ≤ 281474976710656) (hn2 : n ≤ 281474976710656) :
    ∀ W : World, (Instr.makeSlice t (.int .i64 (n : Int)) (.int .i64 (n : Int))).run P W = .ok (.slice (some ⟨W.heap.size, 0, none⟩) n n) (W.alloc (.cells (nums .u8 (List.replicate (n * k) 0)).toArray e)) := by
  obtain ⟨i0, hi, hzz⟩ := Option.map_eq_some_iff.1 hinfo
  simp only [Prod.mk.injEq] at hzz
  obtain ⟨hz, hs, hb⟩ := hzz
  intro W
  rw [run_make_rowN t e i0 (av zs) ht hi hz .i64 .i64 n n (Nat.le_refl _) (by rw [hb]; exact hn) (by omega) W, hs, av_cells, made_nums zs k n hzl hz0]
end
/-- rows of arrays, one behind the other. -/
def flat (fs : List (List Int)) : List Int := fs.flatten
theorem flat_length {fs : List (List Int)} {n : Nat} (h : ∀ f ∈ fs, f.length = n) : (flat fs).length = fs.length * n := by
  induction fs with
  | nil => simp [flat]
  | cons f fs ih =>
    have h1 := ih (fun g hg => h g (List.mem_cons_of_mem _ hg))
    have h2 := h f List.mem_cons_self
    simp only [flat, List.flatten_cons, List.length_append, List.length_cons] at *
    rw [h1, h2, Nat.add_mul, Nat.one_mul, Nat.add_comm]
theorem flat_snoc (fs : List (List Int)) (f : List Int) : flat (fs ++ [f]) = flat fs ++ f := by simp [flat]
theorem flat_seg {fs : List (List Int)} {n : Nat} (h : ∀ f ∈ fs, f.length = n) : ∀ {k : Nat}, k < fs.length → ((flat fs).drop (k * n)).take n = rl fs k := by
  induction fs with
  | nil => intro k hk; simp at hk
  | cons f fs ih =>
    intro k hk
    have hf := h f List.mem_cons_self
    cases k with
    | zero => simp [flat, rl, List.take_left' hf]
    | succ k =>
      have h1 := ih (fun g hg => h g (List.mem_cons_of_mem _ hg)) (k := k) (by simpa using hk)
      have h2 : (k + 1) * n = f.length + k * n := by rw [hf, Nat.add_mul]; omega
      simp only [flat, List.flatten_cons] at *
      rw [h2, List.drop_append, List.drop_of_length_le (by omega), List.nil_append]
      rw [show f.length + k * n - f.length = k * n by omega, h1]
      simp [rl]
theorem lens_of {fs : List (List Int)} {n : Nat} (h : ∀ k, k < fs.length → (rl fs k).length = n) : ∀ f ∈ fs, f.length = n := by
  intro f hf
  obtain ⟨k, hk, rfl⟩ := List.mem_iff_getElem.1 hf
  have := h k hk
  simpa [rl, List.getD_eq_getElem?_getD, hk] using this

/-- arrays of n bytes. -/
abbrev Karr (n : Nat) : Kd (List Int) := Kd.arr n (Kd.int .u8) (by decide)
theorem at_arr {w : World} {n m : Nat} {A : Option Addr} {fs : List (List Int)} (h : (Karr n).C w A m fs) {k : Nat} (hk : k < m) :
    ∃ ad, A = some ad ∧ (rl fs k).length = n ∧ ∀ j v, (nums .u8 (rl fs k))[j]? = some v → w.cell? ((ad.add (k * n)).add j) = some v := by
  obtain ⟨ad, c, e, hl, hK, hc⟩ := Kd.C_get h ([] : List Int) k (by omega) (by omega)
  rw [Int.toNat_natCast] at hK hc
  obtain ⟨h1, h2⟩ := Kd.arr_cells hK
  refine ⟨ad, e, h1, fun j v hv => ?_⟩
  rw [Addr.add_add]
  have h3 : (Karr n).sz = n := by simp [Kd.arr, Kd.int, Kd.scalar]
  rw [h3] at hc
  exact hc j v (by rw [h2]; exact hv)
theorem C_lens {w : World} {n m : Nat} {A : Option Addr} {fs : List (List Int)} (h : (Karr n).C w A m fs) : fs.length = m ∧ ∀ k, k < m → (rl fs k).length = n :=
  ⟨h.1, fun k hk => by obtain ⟨_, _, hl, _⟩ := at_arr h hk; exact hl⟩
/-- a block of arrays is read. -/
theorem NB.arrs {w : World} {g t n : Nat} {fs : List (List Int)} (h : NB .u8 w g t (flat fs)) (hn : ∀ f ∈ fs, f.length = n) (hm : fs.length ≤ 9223372036854775807) : (Karr n).C w (some ⟨g, 0, none⟩) fs.length fs := by
  refine ⟨rfl, hm, fun _ => ⟨_, rfl, fun j p hj => ?_⟩⟩
  have hjl := (List.getElem?_eq_some_iff.1 hj).1
  have hp : rl fs j = p := by simp [rl, List.getD_eq_getElem?_getD, hj]
  have hpl : p.length = n := by rw [← hp]; have := hn (rl fs j) (by simp [rl, List.getD_eq_getElem?_getD, hjl]); exact this
  have hsz : (Karr n).sz = n := by simp [Kd.arr, Kd.int, Kd.scalar]
  refine ⟨nums .u8 p, by rw [nums_length, hpl, hsz], ⟨hpl, Kd.reps_scalar p⟩, fun i u hi => ?_⟩
  rw [hsz]
  have hil : i < p.length := by
    have := (List.getElem?_eq_some_iff.1 hi).1
    rwa [nums_length] at this
  refine h.range (j * n + i) u ?_
  have hseg := flat_seg hn hjl
  rw [hp] at hseg
  rw [← hseg] at hi
  simp only [nums, List.getElem?_map, List.getElem?_take, List.getElem?_drop] at hi ⊢
  rw [if_pos (by omega)] at hi
  exact hi
end Go.Proofs.Ytjadhhnajphibaa
namespace Go.Proofs.Ytjadhhnajphibaa
open Go.RowKit Go.Proofs.YtjadhhnajphibaaW.PrintWords

theorem ainfo_flag : (Try.prog.info? 78).map (·.size) = some 24 := by kernel_rfl

theorem ainfo_sight : (Try.prog.info? 72).map (·.size) = some 6 := by kernel_rfl

set_option maxRecDepth 100000 in
set_option maxHeartbeats 2000000 in
theorem toFlag_ok (f : List Int) (hf : f.length = 24) (w : World) :
    Calls Try.prog 113 #[av f] w fun e w' => e = .returned (av f) ∧ Below w.heap.size w w' := by
  unfold av
  have HF := Lib.hid hf
  go_enter Try.func113, Try.ntmps113
  go_wp2
  rw [nums_zero24]
  have hz : (List.replicate 24 (0 : Int)).length = 24 := by simp
  generalize List.replicate 24 (0 : Int) = zs at *
  have H1 := Lib.hid ((((NB.new (kd := .u8) w 77 f).alloc (.cells (nums .u8 zs).toArray 78)).alloc (.cells (nums .u8 zs).toArray 78)))
  have h2 := (NB.new (kd := .u8) (w.alloc (.cells (nums .u8 f).toArray 77)) 78 zs).alloc (.cells (nums .u8 zs).toArray 78)
  have h3 := NB.new (kd := .u8) ((w.alloc (.cells (nums .u8 f).toArray 77)).alloc (.cells (nums .u8 zs).toArray 78)) 78 zs
  rw [size_box] at h2
  rw [size_box, size_box] at h3
  have H2 := Lib.hid h2
  have H3 := Lib.hid h3
  have HB := Lib.hid (show Below w.heap.size w (((w.alloc (.cells (nums .u8 f).toArray 77)).alloc (.cells (nums .u8 zs).toArray 78)).alloc (.cells (nums .u8 zs).toArray 78)) from below_alloc (below_alloc (below_box _ _) _) _)
  clear h2 h3
  generalize ((w.alloc (.cells (nums .u8 f).toArray 77)).alloc (.cells (nums .u8 zs).toArray 78)).alloc (.cells (nums .u8 zs).toArray 78) = W0 at *
  have HZ := Lib.hid hz
  clear hz hf
  go_loopw [4] (fun i wr => ∃ k : Nat, k ≤ 24 ∧ i = .int .i64 k ∧ Hid (NB .u8 wr w.heap.size 77 f) ∧ Hid (NB .u8 wr (w.heap.size + 1) 78 zs) ∧ Hid (NB .u8 wr (w.heap.size + 1 + 1) 78 (f.take k ++ zs.drop k)) ∧ Hid (Below w.heap.size w wr)) (fun i _ => 24 - (intOf i).toNat)
  case atStart => exact ⟨0, by omega, rfl, H1, H2, by simpa using H3, HB⟩
  case round =>
    clear H1 H2 H3 HB
    obtain ⟨k, hk, rfl, H1, H2, H3, HB⟩ := hrel
    by_cases hlt : k < 24
    · have hc1 := H1.out.cell (i := k) (by rw [HF.out]; exact hlt)
      have hl3 : k < (f.take k ++ zs.drop k).length := by simp [HF.out, HZ.out]; omega
      have hc3 := H3.out.cell hl3
      have hf3 := H3.out.frozen k
      clear hl3
      go_wp2
      go_roundw
      case rel =>
        refine ⟨k + 1, by omega, by go_num, H1.out.far (by simp; omega) _, H2.out.far (by simp) _, ?_, set_below HB.out (by simp; omega) _⟩
        rw [← take_step (by rw [HF.out]; exact hlt) (by rw [HF.out, HZ.out])]
        exact H3.out.set k _
      case measure => first|(simp [intOf]; done)|(simp [intOf]; omega)
    · obtain rfl : k = 24 := by omega
      have h3 := H3.out
      rw [List.take_of_length_le (by rw [HF.out]; omega), List.drop_of_length_le (by rw [HZ.out]; omega), List.append_nil] at h3
      have H3' := Lib.hid h3
      clear H3 h3
      go_wp2_with (first | (refine load_agg rfl 78 (.tmp 3) rfl ⟨w.heap.size + 1 + 1, 0, none⟩ rfl (nums .u8 f) _ H3'.out.range Try.underlying78 rfl (by rw [nums_length, HF.out]; exact ainfo_flag) ?_) | (refine wpList_store_mid rfl 78 (.tmp 2) (.tmp 14) rfl (w.heap.size + 1) 0 (nums .u8 f).toArray rfl rfl (by simpa [nums, HF.out, HZ.out] using H2.out.there) (by simp only [List.size_toArray, nums_length, HF.out]; exact ainfo_flag) (all_oneCell_toArray (nums_one _ _)) ?_))
      have hw := H2.out.over (ys := f) (by rw [HF.out, HZ.out])
      exact bodyPost_ret (results_cell_row rfl _ _ (w.heap.size + 1) 78 (nums .u8 f).toArray (0, 0) _ rfl hw Try.underlying78 rfl (by simp only [List.size_toArray, nums_length, HF.out]; exact ainfo_flag)) rfl ⟨rfl, setCells_below HB.out (by omega) _ _⟩

set_option maxRecDepth 100000 in
set_option maxHeartbeats 2000000 in
theorem toSight_ok (f : List Int) (hf : f.length = 6) (w : World) :
    Calls Try.prog 92 #[av f] w fun e w' => e = .returned (av f) ∧ Below w.heap.size w w' := by
  unfold av
  have HF := Lib.hid hf
  go_enter Try.func92, Try.ntmps92
  go_wp2
  rw [nums_zero6]
  have hz : (List.replicate 6 (0 : Int)).length = 6 := by simp
  generalize List.replicate 6 (0 : Int) = zs at *
  have H1 := Lib.hid ((((NB.new (kd := .u8) w 71 f).alloc (.cells (nums .u8 zs).toArray 72)).alloc (.cells (nums .u8 zs).toArray 72)))
  have h2 := (NB.new (kd := .u8) (w.alloc (.cells (nums .u8 f).toArray 71)) 72 zs).alloc (.cells (nums .u8 zs).toArray 72)
  have h3 := NB.new (kd := .u8) ((w.alloc (.cells (nums .u8 f).toArray 71)).alloc (.cells (nums .u8 zs).toArray 72)) 72 zs
  rw [size_box] at h2
  rw [size_box, size_box] at h3
  have H2 := Lib.hid h2
  have H3 := Lib.hid h3
  have HB := Lib.hid (show Below w.heap.size w (((w.alloc (.cells (nums .u8 f).toArray 71)).alloc (.cells (nums .u8 zs).toArray 72)).alloc (.cells (nums .u8 zs).toArray 72)) from below_alloc (below_alloc (below_box _ _) _) _)
  clear h2 h3
  generalize ((w.alloc (.cells (nums .u8 f).toArray 71)).alloc (.cells (nums .u8 zs).toArray 72)).alloc (.cells (nums .u8 zs).toArray 72) = W0 at *
  have HZ := Lib.hid hz
  clear hz hf
  go_loopw [4] (fun i wr => ∃ k : Nat, k ≤ 6 ∧ i = .int .i64 k ∧ Hid (NB .u8 wr w.heap.size 71 f) ∧ Hid (NB .u8 wr (w.heap.size + 1) 72 zs) ∧ Hid (NB .u8 wr (w.heap.size + 1 + 1) 72 (f.take k ++ zs.drop k)) ∧ Hid (Below w.heap.size w wr)) (fun i _ => 6 - (intOf i).toNat)
  case atStart => exact ⟨0, by omega, rfl, H1, H2, by simpa using H3, HB⟩
  case round =>
    clear H1 H2 H3 HB
    obtain ⟨k, hk, rfl, H1, H2, H3, HB⟩ := hrel
    by_cases hlt : k < 6
    · have hc1 := H1.out.cell (i := k) (by rw [HF.out]; exact hlt)
      have hl3 : k < (f.take k ++ zs.drop k).length := by simp [HF.out, HZ.out]; omega
      have hc3 := H3.out.cell hl3
      have hf3 := H3.out.frozen k
      clear hl3
      go_wp2
      go_roundw
      case rel =>
        refine ⟨k + 1, by omega, by go_num, H1.out.far (by simp; omega) _, H2.out.far (by simp) _, ?_, set_below HB.out (by simp; omega) _⟩
        rw [← take_step (by rw [HF.out]; exact hlt) (by rw [HF.out, HZ.out])]
        exact H3.out.set k _
      case measure => first|(simp [intOf]; done)|(simp [intOf]; omega)
    · obtain rfl : k = 6 := by omega
      have h3 := H3.out
      rw [List.take_of_length_le (by rw [HF.out]; omega), List.drop_of_length_le (by rw [HZ.out]; omega), List.append_nil] at h3
      have H3' := Lib.hid h3
      clear H3 h3
      go_wp2_with (first | (refine load_agg rfl 72 (.tmp 3) rfl ⟨w.heap.size + 1 + 1, 0, none⟩ rfl (nums .u8 f) _ H3'.out.range Try.underlying72 rfl (by rw [nums_length, HF.out]; exact ainfo_sight) ?_) | (refine wpList_store_mid rfl 72 (.tmp 2) (.tmp 14) rfl (w.heap.size + 1) 0 (nums .u8 f).toArray rfl rfl (by simpa [nums, HF.out, HZ.out] using H2.out.there) (by simp only [List.size_toArray, nums_length, HF.out]; exact ainfo_sight) (all_oneCell_toArray (nums_one _ _)) ?_))
      have hw := H2.out.over (ys := f) (by rw [HF.out, HZ.out])
      exact bodyPost_ret (results_cell_row rfl _ _ (w.heap.size + 1) 72 (nums .u8 f).toArray (0, 0) _ rfl hw Try.underlying72 rfl (by simp only [List.size_toArray, nums_length, HF.out]; exact ainfo_sight)) rfl ⟨rfl, setCells_below HB.out (by omega) _ _⟩

end Go.Proofs.Ytjadhhnajphibaa
