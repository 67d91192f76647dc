/- Appends onto a row of one's own: what comes from wherever; zero values. Rows whose elements are only read. -/
import Derived.Test.YtjadhhnajphibaaB
import Derived.Test.YtjadhhnajphibaaWZeros
set_option linter.unusedVariables false
set_option linter.unusedSimpArgs false
namespace Go.Proofs.Ytjadhhnajphibaa
open Go.RowKit Go.Proofs.YtjadhhnajphibaaW.PrintWords

/-- the cells of a row that is read, wherever it lies. -/
def Cells (w : World) (A : Option Addr) (cs : List Value) : Prop := ∀ j u, cs[j]? = some u → ∃ ad, A = some ad ∧ w.cell? (ad.add j) = some u
theorem Cells.below {w w1 : World} {A : Option Addr} {cs : List Value} (h : Cells w A cs) (hb : Below w.heap.size w w1) : Cells w1 A cs := fun j u hu => by
  obtain ⟨ad, e, hc⟩ := h j u hu
  exact ⟨ad, e, pw_cell_below hb hc⟩
theorem Cells.nil (w : World) (A : Option Addr) : Cells w A [] := fun j u hu => by simp at hu
theorem cells_of_raw {w : World} {A : Option Addr} {n : Nat} {el : Nat → Value} (h : Raw w A n el) : Cells w A ((List.range n).map el) := fun j u hu => by
  have hj : j < n := by
    have := (List.getElem?_eq_some_iff.1 hu).1
    simpa using this
  obtain ⟨ad, e, hc⟩ := h.2 j hj
  have : u = el j := by simpa [hj] using hu.symm
  exact ⟨ad, e, by rw [this]; exact hc⟩

section
variable {P : Program} {ops : Array Oper} {rest : List Oper} {o : Oper} {a : Act} {Q : Exit → Act → World → Prop}
theorem run_append_cells (w : World) (base : Nat) (t ty e : TypeId) (i : TypeInfo) (z : Value) (size bytes : Nat) (ht : P.underlying t = some (.slice e)) (hi : P.info? e = some i) (hz : i.zero = some z)
    (hsize : i.size = size) (hby : i.bytes = bytes) (hzs : z.cells.size = size) (hsz : 0 < size)
    (v : Value) (n : Nat) (xs : List Value) (hown : w.ownsRow base e size v n xs) (A : Option Addr) (m c : Nat) (news : List Value) (hl : news.length = m * size) (hr : Cells w A news) (h1 : ∀ u ∈ news, u.oneCell' = true)
    (hbytes : (n + m) * bytes ≤ 140737488355328) (h63 : n + m ≤ maxLen) (hbase : base ≤ w.heap.size) :
    ∃ v' w', (Builtin.append_ #[t, t] ty #[v, .slice A m c]).run P w = .ok v' w' ∧ w'.ownsRow base e size v' (n + m) (xs ++ news) ∧ w.grownBy w' v.ownBlock ∧ (v'.ownBlock = v.ownBlock ∨ v'.ownBlock = some w.heap.size) := by
  rcases A with _ | ad
  · have hn : news = [] := by
      rcases news with _ | ⟨u, us⟩
      · rfl
      · obtain ⟨ad, h, _⟩ := hr 0 u rfl
        cases h
    subst hn
    have hm : m = 0 := by
      rcases Nat.mul_eq_zero.1 hl.symm with h | h
      · exact h
      · omega
    subst hm
    refine ⟨v, w, ?_, by simpa using hown, World.grownBy.refl w _, .inl rfl⟩
    rcases hown.2 with ⟨rfl, rfl⟩ | ⟨g, cap, cur, rfl, _, _, hnc, _⟩
    · simp [Builtin.append_, run_underlying ht, sizeOf, typeInfo, hi, Builtin.lenOf, Builtin.firstCells]
    · simp [Builtin.append_, run_underlying ht, sizeOf, typeInfo, hi, Builtin.lenOf, Builtin.firstCells, hnc, storeCells]
  · have hcells : ∀ j u, news[j]? = some u → w.cell? (ad.add j) = some u := by
      intro j u hu
      obtain ⟨ad', h, hc⟩ := hr j u hu
      injection h with h
      subst h
      exact hc
    obtain ⟨v', w', hrun, h2, h3, _, h5⟩ := run_append_own_at (P := P) w base t ty e i z size bytes ht hi hz hsize hby hzs hsz v n xs hown ad m c news hl hcells h1 h63 hbytes hbase
    exact ⟨v', w', hrun, h2, h3, h5⟩
theorem own_append (w : World) (hgd : o.guard = none) (s x : Operand) (t : TypeId)
    (ho : o.op = .call { callee := .builtin .append, args := #[s, x], argTypes := #[t, t] })
    (base : Nat) (e : TypeId) (z : Value) (size bytes : Nat) (ht : P.underlying t = some (.slice e)) (hinfo : (P.info? e).map (fun i => (i.zero, i.size, i.bytes)) = some (some z, size, bytes)) (hzs : z.cells.size = size) (hsz : 0 < size) (hb0 : 0 < bytes)
    (v : Value) (n : Nat) (xs : List Value) (hs : a.eval s = v) (hown : w.ownsRow base e size v n xs) (A : Option Addr) (m c : Nat) (news : List Value) (hx : a.eval x = .slice A m c) (hl : news.length = m * size) (hr : Cells w A news) (h1 : ∀ u ∈ news, u.oneCell' = true)
    (hbytes : (n + m) * bytes ≤ 140737488355328) (hbase : base ≤ w.heap.size)
    (h : ∀ v' w', w'.ownsRow base e size v' (n + m) (xs ++ news) → w.grownBy w' v.ownBlock → (v'.ownBlock = v.ownBlock ∨ v'.ownBlock = some w.heap.size) → wpList P ops Q rest (a.put o.dst v') w') : wpList P ops Q (o :: rest) a w := by
  obtain ⟨i0, hi, hzz⟩ := Option.map_eq_some_iff.1 hinfo
  simp only [Prod.mk.injEq] at hzz
  obtain ⟨hz0, hz1, hz2⟩ := hzz
  have hlen : n + m ≤ 140737488355328 := Nat.le_trans (Nat.le_mul_of_pos_right _ hb0) hbytes
  obtain ⟨v', w', hrun, h2, h3, h4⟩ := run_append_cells (P := P) w base t o.type e i0 z size bytes ht hi hz0 hz1 hz2 hzs hsz v n xs hown A m c news hl hr h1 hbytes (by simp only [maxLen]; omega) hbase
  refine wpList_plain hgd fun K hK => ?_
  unfold Oper.wp execOp
  simp only [ho, resolve, invoke, builtin, Sem.run_bind, Sem.run_pure, Result.andThen_ok, List.map_toArray, List.map_cons, List.map_nil, hs, hx, hrun]
  exact hK _ _ (h v' w' h2 h3 h4)
theorem own_zeros (w : World) (hgd : o.guard = none) (s x : Operand) (t ti : TypeId)
    (ho : o.op = .call { callee := .builtin .append, args := #[s, x], argTypes := #[t, ti] })
    (base : Nat) (e : TypeId) (z : Value) (size bytes : Nat) (ht : P.underlying t = some (.slice e)) {k : IntKind} (hti : P.underlying ti = some (.int k)) (hinfo : (P.info? e).map (fun i => (i.zero, i.size, i.bytes)) = some (some z, size, bytes)) (hzs : z.cells.size = size) (hsz : 0 < size) (hb0 : 0 < bytes)
    (v : Value) (n : Nat) (xs : List Value) (hs : a.eval s = v) (hown : w.ownsRow base e size v n xs) (kx : IntKind) (m : Nat) (hx : a.eval x = .int kx m) (h1 : ∀ u ∈ (Builtin.zeroCells z.cells m).toList, u.oneCell' = true)
    (hbytes : (n + m) * bytes ≤ 140737488355328) (hbase : base ≤ w.heap.size)
    (h : ∀ v' w', w'.ownsRow base e size v' (n + m) (xs ++ (Builtin.zeroCells z.cells m).toList) → w.grownBy w' v.ownBlock → (v'.ownBlock = v.ownBlock ∨ v'.ownBlock = some w.heap.size) → wpList P ops Q rest (a.put o.dst v') w') : wpList P ops Q (o :: rest) a w := by
  obtain ⟨i0, hi, hzz⟩ := Option.map_eq_some_iff.1 hinfo
  simp only [Prod.mk.injEq] at hzz
  obtain ⟨hz0, hz1, hz2⟩ := hzz
  obtain ⟨v', w', hrun, h2, h3, h4⟩ := run_append_zeros (P := P) w base t ti o.type e i0 z size bytes ht hti hi hz0 hz1 hz2 hzs hsz hb0 v n xs hown kx m h1 hbytes hbase
  refine wpList_plain hgd fun K hK => ?_
  unfold Oper.wp execOp
  simp only [ho, resolve, invoke, builtin, Sem.run_bind, Sem.run_pure, Result.andThen_ok, List.map_toArray, List.map_cons, List.map_nil, hs, hx, hrun]
  exact hK _ _ (h v' w' h2 h3 h4)
end

theorem reps_nil' {α : Type} (R : α → List Value → Prop) (size : Nat) : Reps R size [] [] := ⟨by simp, fun j p h => by simp at h⟩

/-- a row of one's own, cut to nothing. -/
theorem own_cut0 {w : World} {base : Nat} {e : TypeId} {size n c : Nat} {A : Option Addr} {xs : List Value} (h : w.ownsRow base e size (.slice A n c) n xs) : w.ownsRow base e size (.slice A 0 c) 0 [] := by
  refine ⟨by simp, ?_⟩
  rcases h.2 with ⟨h1, h2⟩ | ⟨g, cap, cur, h1, h2, h3, h4, h5, h6, h7⟩
  · injection h1 with h1 h1' h1''
    subst h1 h1''
    exact .inl ⟨rfl, rfl⟩
  · injection h1 with h1 h1' h1''
    subst h1 h1''
    exact .inr ⟨g, c, cur, rfl, h2, h3, Nat.zero_le _, h5, h6, by simp⟩
/-- what an own row's cells are. -/
theorem own_cells {w : World} {base : Nat} {e : TypeId} {size n : Nat} {v : Value} {xs : List Value} (h : w.ownsRow base e size v n xs) : ∃ A c, v = .slice A n c ∧ n ≤ c ∧ Cells w A xs := by
  have hn := h
  rcases h.2 with ⟨rfl, rfl⟩ | ⟨g, cap, cur, rfl, _, _, hc, _⟩
  · have : xs = [] := by simpa using h.1
    subst this
    exact ⟨none, 0, rfl, Nat.le_refl _, Cells.nil _ _⟩
  · exact ⟨_, cap, rfl, hc, fun j u hu => ⟨_, rfl, h.cells (g := g) rfl j u hu⟩⟩
/-- a row of one's own whose elements are rows that are read. -/
theorem C_of_cells {α : Type} {d : Kd α} {w : World} {t : Nat} {A : Option Addr} {n : Nat} {cs : List Value} {xs : List (List α)} (hn : xs.length = n) (hm : n ≤ 9223372036854775807) (hc : Cells w A cs)
    (h : ∀ k, k < n → ∃ A1 c1, cs[k]? = some (.slice A1 (rl xs k).length c1) ∧ (rl xs k).length ≤ c1 ∧ d.C w A1 (rl xs k).length (rl xs k)) : (Kd.slice t d).C w A n xs := by
  refine ⟨hn, hm, fun h0 => ?_⟩
  obtain ⟨A1, c1, hu, _⟩ := h 0 h0
  obtain ⟨ad, rfl, _⟩ := hc 0 _ hu
  refine ⟨ad, rfl, fun j p hj => ?_⟩
  have hjl := (List.getElem?_eq_some_iff.1 hj).1
  have hp : rl xs j = p := by simp [rl, List.getD_eq_getElem?_getD, hj]
  obtain ⟨A1, c1, hu, hl, hr⟩ := h j (by omega)
  rw [hp] at hu hl hr
  refine ⟨[.slice A1 p.length c1], rfl, ⟨A1, c1, rfl, hl, hr⟩, fun i u hi => ?_⟩
  cases i with
  | zero =>
    obtain ⟨ad', e, hcell⟩ := hc j _ hu
    cases e
    have : u = .slice A1 p.length c1 := by simpa using hi.symm
    subst this
    simpa [Kd.slice] using hcell
  | succ i => simp at hi
theorem C_of_nums {w : World} {kd : IntKind} {A : Option Addr} {xs : List Int} (hm : xs.length ≤ 9223372036854775807) (h : Cells w A (nums kd xs)) : (Kd.int kd).C w A xs.length xs := by
  refine ⟨rfl, hm, fun h0 => ?_⟩
  obtain ⟨ad, rfl, _⟩ := h 0 (.int kd (xs[0]'h0)) (by simp [nums, List.getElem?_eq_getElem h0])
  refine ⟨ad, rfl, fun j p hj => ⟨[.int kd p], rfl, rfl, fun i u hi => ?_⟩⟩
  cases i with
  | zero =>
    obtain ⟨ad', e, hc⟩ := h j (.int kd p) (by simp [nums, hj])
    cases e
    have : u = .int kd p := by simpa using hi.symm
    subst this
    simpa [Kd.int, Kd.scalar] using hc
  | succ i => simp at hi
theorem own_C {w : World} {base : Nat} {e : TypeId} {kd : IntKind} {v : Value} {n : Nat} {xs : List Int} (h : w.ownsRow base e 1 v n (nums kd xs)) : xs.length = n ∧ ∃ A c, v = .slice A n c ∧ n ≤ c ∧ (Kd.int kd).C w A n xs := by
  have hl : xs.length = n := by have := h.1; simp [nums] at this; exact this
  have hm : n ≤ 9223372036854775807 := by
    rcases h.2 with ⟨_, h1⟩ | ⟨g', cap', cur, he, _, _, h1, h2, _⟩
    · omega
    · simp only [maxLen] at h2
      omega
  obtain ⟨A, c, hv, hc, hcell⟩ := own_cells h
  subst hl
  exact ⟨rfl, A, c, hv, hc, C_of_nums hm hcell⟩
/-- an own row of numbers as an element that has been made. -/
theorem M_of_own {w : World} {base : Nat} {e : TypeId} {kd : IntKind} {v : Value} {n : Nat} {xs : List Int} {ok : Nat → Prop} (h : w.ownsRow base e 1 v n (nums kd xs)) (hok : ∀ k, v.ownBlock = some k → ok k) : (Kd.slice e (Kd.int kd)).M w base ok xs [v] := by
  have hl : xs.length = n := by have := h.1; simp [nums] at this; exact this
  subst hl
  exact ⟨v, rfl, Kd.R_of_own h hok⟩
end Go.Proofs.Ytjadhhnajphibaa
