/- What is seen of a word. -/
import Derived.Test.YtjadhhnajphibaaV3
import Derived.Test.YtjadhhnajphibaaB2
import Derived.Deep.RegionHeld3
import Derived.Deep.AppendLies
import Derived.Deep.DrawnRows
set_option linter.unusedVariables false
set_option linter.unusedSimpArgs false
namespace Go.Proofs.Ytjadhhnajphibaa
open Go.RowKit Go.Proofs.YtjadhhnajphibaaW.PrintWords

/-- what is seen of a word's first letters. -/
def seeTo (fs : List (List Int)) (x : List Int) (k : Nat) : List (List Int) := (List.range k).map fun j => blurV (rl fs (rn x j).toNat)
def see (fs : List (List Int)) (x : List Int) : List (List Int) := seeTo fs x x.length
theorem seeTo_length (fs : List (List Int)) (x : List Int) (k : Nat) : (seeTo fs x k).length = k := by simp [seeTo]
theorem see_length (fs : List (List Int)) (x : List Int) : (see fs x).length = x.length := seeTo_length _ _ _
theorem seeTo_snoc (fs : List (List Int)) (x : List Int) (k : Nat) : seeTo fs x (k + 1) = seeTo fs x k ++ [blurV (rl fs (rn x k).toNat)] := by simp [seeTo, List.range_succ]
theorem see_each (fs : List (List Int)) (x : List Int) : ∀ s ∈ see fs x, s.length = 6 := by
  intro s hs
  simp only [see, seeTo, List.mem_map] at hs
  obtain ⟨j, _, rfl⟩ := hs
  exact blurV_length _
/-- flags whose colours are colours. -/
structure GoodF (fs : List (List Int)) : Prop where
  ok : ∀ k, k < fs.length → okF (rl fs k) = true
  pos : ∀ k i, 0 ≤ rn (rl fs k) i
/-- letters that have flags. -/
def GoodW (fs : List (List Int)) (x : List Int) : Prop := ∀ j, j < x.length → 0 ≤ rn x j ∧ rn x j < fs.length
theorem cell_lt {w : World} {p : Addr} {v : Value} (h : w.cell? p = some v) : p.block < w.heap.size := by
  rcases Nat.lt_or_ge p.block w.heap.size with h1 | h1
  · exact h1
  · simp [World.cell?, Array.getElem?_eq_none h1] at h
theorem six (xs : List Int) (h : xs.length = 6) : (#[.int .u8 (rn xs 0), .int .u8 (rn xs 1), .int .u8 (rn xs 2), .int .u8 (rn xs 3), .int .u8 (rn xs 4), .int .u8 (rn xs 5)] : Array Value) = (nums .u8 xs).toArray := by
  match xs, h with
  | [a, b, c, d, e, f], _ => rfl
theorem new_six (w : World) (t : Nat) (xs : List Int) (h : xs.length = 6) : NB .u8 (w.alloc (.cells #[.int .u8 (rn xs 0), .int .u8 (rn xs 1), .int .u8 (rn xs 2), .int .u8 (rn xs 3), .int .u8 (rn xs 4), .int .u8 (rn xs 5)] t)) w.heap.size t xs := by
  rw [six xs h]; exact NB.new w t xs
theorem nums_append (kd : IntKind) (a b : List Int) : nums kd (a ++ b) = nums kd a ++ nums kd b := by simp [nums]

theorem l01Blur_six (ad : Addr) (f : List Int) (hf : f.length = 24) (h5 : okF f = true) (hp : ∀ i, 0 ≤ rn f i) (w : World) (hb : ad.block < w.heap.size) (h0 : ∀ j v, (nums .u8 f)[j]? = some v → w.cell? (ad.add j) = some v) :
    Calls Try.prog 112 #[.pointer (some ad)] w fun e w' => e = .returned (.agg #[.int .u8 (rn (blurV f) 0), .int .u8 (rn (blurV f) 1), .int .u8 (rn (blurV f) 2), .int .u8 (rn (blurV f) 3), .int .u8 (rn (blurV f) 4), .int .u8 (rn (blurV f) 5)]) ∧ Below w.heap.size w w' := by
  rw [six _ (blurV_length f)]
  exact l01Blur_ok ad f hf h5 hp w hb h0
theorem blur_six (f : List Int) (hf : f.length = 24) (h5 : okF f = true) (hp : ∀ i, 0 ≤ rn f i) (w : World) :
    Calls Try.prog 115 #[av f] w fun e w' => e = .returned (.agg #[.int .u8 (rn (blurV f) 0), .int .u8 (rn (blurV f) 1), .int .u8 (rn (blurV f) 2), .int .u8 (rn (blurV f) 3), .int .u8 (rn (blurV f) 4), .int .u8 (rn (blurV f) 5)]) ∧ Below w.heap.size w w' := by
  rw [six _ (blurV_length f)]
  exact blur_ok f hf h5 hp w
section
variable {P : Program} {ops : Array Oper} {o : Oper} {a : Act} {K : Act → World → Prop} {Q : Exit → Act → World → Prop} {E : Prop}
theorem step_own_append (w : World) (hgd : o.guard = none) (s x : Operand) (t : TypeId)
    (ho : o.op = .call { callee := .builtin .append, args := #[s, x], argTypes := #[t, t] })
    (base : Nat) (e : TypeId) (z : Value) (size bytes : Nat) (ht : P.underlying t = some (.slice e)) (hinfo : (P.info? e).map (fun i => (i.zero, i.size, i.bytes)) = some (some z, size, bytes)) (hzs : z.cells.size = size) (hsz : 0 < size) (hb0 : 0 < bytes)
    (v : Value) (n : Nat) (xs : List Value) (hs : a.eval s = v) (hown : w.ownsRow base e size v n xs) (A : Option Addr) (m c : Nat) (news : List Value) (hx : a.eval x = .slice A m c) (hl : news.length = m * size) (hr : Cells w A news) (h1 : ∀ u ∈ news, u.oneCell' = true)
    (hbytes : (n + m) * bytes ≤ 140737488355328) (hbase : base ≤ w.heap.size)
    (h : ∀ v' w', w'.ownsRow base e size v' (n + m) (xs ++ news) → w.grownBy w' v.ownBlock → (v'.ownBlock = v.ownBlock ∨ v'.ownBlock = some w.heap.size) → K (a.put o.dst v') w') : if Region.wanted o (yielded ops a.tmps) = true then Oper.wp P o a w K Q else E := by
  obtain ⟨i0, hi, hzz⟩ := Option.map_eq_some_iff.1 hinfo
  simp only [Prod.mk.injEq] at hzz
  obtain ⟨hz0, hz1, hz2⟩ := hzz
  have hlen : n + m ≤ 140737488355328 := Nat.le_trans (Nat.le_mul_of_pos_right _ hb0) hbytes
  obtain ⟨v', w', hrun, h2, h3, h4⟩ := run_append_cells (P := P) w base t o.type e i0 z size bytes ht hi hz0 hz1 hz2 hzs hsz v n xs hown A m c news hl hr h1 hbytes (by simp only [maxLen]; omega) hbase
  have hw : Region.wanted o (yielded ops a.tmps) = true := by simp [Region.wanted, hgd]
  rw [if_pos hw]
  unfold Oper.wp execOp
  simp only [ho, resolve, invoke, builtin, Sem.run_bind, Sem.run_pure, Result.andThen_ok, List.map_toArray, List.map_cons, List.map_nil, hs, hx, hrun]
  exact h v' w' h2 h3 h4
end

set_option maxRecDepth 100000 in
set_option maxHeartbeats 4000000 in
theorem l05Sights_ok (gc : Nat) (A : Option Addr) (c : Nat) (fs : List (List Int)) (A1 : Option Addr) (c1 : Nat) (ws : List (List Int)) (i : Nat) (w : World) (hi : i < ws.length) (hil : ws.length ≤ 1048576) (hlw : (rl ws i).length ≤ 1048576)
    (hg : GoodF fs) (hw : GoodW fs (rl ws i)) (hc : w.heap[gc]? = some (.cells #[.slice A fs.length c, .slice A1 ws.length c1] 46 (0, 0)))
    (h0 : (Karr 24).C w A fs.length fs) (h1 : (Kd.slice 5 (Kd.int .u8)).C w A1 ws.length ws) :
    Calls Try.prog 79 #[.pointer (some ⟨gc, 0, none⟩), .int .i64 i] w fun e w' => ∃ v, e = .returned v ∧ w'.ownsRow w.heap.size 72 6 v (rl ws i).length (nums .u8 (flat (see fs (rl ws i)))) ∧ Below w.heap.size w w' := by
  have hm : ws.length ≤ 9223372036854775807 := h1.2.1
  have hm2 : fs.length ≤ 9223372036854775807 := h0.2.1
  have HG := Lib.hid hg
  have HW := Lib.hid hw
  have HC := Lib.hid hc
  have H0 := Lib.hid h0
  have H1 := Lib.hid h1
  clear hg hw hc h0 h1
  go_enter Try.func79, Try.ntmps79
  go_wp2
  have hR0 : (w.alloc (.cells #[] 72)).ownsRow w.heap.size 72 6 (.slice (some ⟨w.heap.size, 0, none⟩) 0 0) 0 (nums .u8 (flat (seeTo fs (rl ws i) 0))) :=
    ⟨rfl, .inr ⟨_, 0, #[], rfl, Nat.le_refl _, heap_alloc_new _ _, Nat.le_refl _, Nat.zero_le _, rfl, rfl⟩⟩
  have HR0 := Lib.hid hR0
  have HB0 := Lib.hid (below_box w (.cells #[] 72))
  clear hR0
  generalize w.alloc (.cells #[] 72) = W0 at *
  have hii : (i : Int) < (ws.length : Int) := by omega
  have hl9 : (rl ws i).length ≤ 9223372036854775807 := by omega
  obtain ⟨ad1, A3, c3, rfl, hx1, hl3, hr3⟩ := at_row H1.out hi
  have HS := Lib.hid (fun W (h : Below w.heap.size w W) => And.intro ((blk_cell ((h.block gc (blk_lt HC.out)).trans HC.out) 0).trans (show _ = some (.slice A fs.length c) from rfl))
    (And.intro ((blk_cell ((h.block gc (blk_lt HC.out)).trans HC.out) 1).trans (show _ = some (.slice (some ad1) ws.length c1) from rfl)) ((h.cell (cell_lt hx1)).trans hx1)))
  have HR3 := Lib.hid hr3
  clear hx1 hr3
  go_loopw [5, 6] (fun v u wr => ∃ k : Nat, k ≤ (rl ws i).length ∧ u = .int .i64 k ∧ Hid (wr.ownsRow w.heap.size 72 6 v k (nums .u8 (flat (seeTo fs (rl ws i) k)))) ∧ Hid (Below w.heap.size w wr)) (fun _ u _ => (rl ws i).length - (intOf u).toNat)
  case atStart => exact ⟨0, Nat.zero_le _, rfl, HR0, HB0⟩
  case round =>
    clear HR0 HB0
    obtain ⟨k, hk, rfl, HO, HB⟩ := hrel
    obtain ⟨x0, x1, x2⟩ := HS.out wr HB.out
    by_cases hlt : k < (rl ws i).length
    · have hlti : (k : Int) < ((rl ws i).length : Int) := by omega
      obtain ⟨ad3, rfl, hx3⟩ := at_nat HR3.out hlt
      have hgw := HW.out k hlt
      obtain ⟨n, hn⟩ : ∃ n : Nat, rn (rl ws i) k = (n : Int) := ⟨(rn (rl ws i) k).toNat, by omega⟩
      have hnl : n < fs.length := by omega
      have hnli : (n : Int) < (fs.length : Int) := by omega
      obtain ⟨ad0, rfl, hl0, hx0⟩ := at_arr H0.out hnl
      have hlt0 : (ad0.add (n * 24)).block < w.heap.size := by
        have := cells_nums hx0 (k := 0) (by omega)
        have := cell_lt this
        rwa [addr_block] at this
      have HBL := Lib.hid (fun W hW => l01Blur_six (ad0.add (n * 24)) (rl fs n) hl0 (HG.out.ok n hnl) (HG.out.pos n) W (Nat.lt_of_lt_of_le hlt0 (Below.size hW)) (fun j v hv => (hW.cell (p := (ad0.add (n * 24)).add j) (by rw [addr_block]; exact hlt0)).trans (hx0 j v hv)))
      have HSN : Hid (seeTo fs (rl ws i) (k + 1) = seeTo fs (rl ws i) k ++ [blurV (rl fs n)]) := by unfold Hid; rw [seeTo_snoc, hn]; rfl
      rw [hn] at hx3
      have HK := Lib.hid (fun W (h : Below w.heap.size w W) => And.intro (HS.out W h).1 (And.intro (HS.out W h).2.1 (And.intro (HS.out W h).2.2 (And.intro ((h.cell (cell_lt hx3)).trans hx3) h))))
      have x3 := (HB.out.cell (cell_lt hx3)).trans hx3
      clear hx0 hl0 hgw hn hx3
      have hdr : Below wr.heap.size wr wr.drew := ⟨rfl, rfl, rfl, Nat.le_refl _, fun _ _ => rfl⟩
      have hbd : Below w.heap.size w wr.drew := HB.out.trans (hdr.mono HB.out.size)
      go_wp2
      go_region_held3 (fun w' => w'.cell? ⟨gc, 0, none⟩ = some (.slice (some ad0) fs.length c) ∧ w'.cell? ⟨gc, 1, none⟩ = some (.slice (some ad1) ws.length c1) ∧ w'.cell? (ad1.add i) = some (.slice (some ad3) (rl ws i).length c3) ∧ w'.cell? (ad3.add k) = some (.int .u8 n) ∧ Below w.heap.size w w')
        ((first | exact HK.out _ hbd | exact HK.out _ hq1 | exact HK.out _ (below_alloc hq1 _) | exact HK.out _ hq2))
        ((first | (go_at_call 112; refine (HBL.out _ hbd).mono ?_; rintro e w1 ⟨rfl, hb1⟩; have hq1 := hbd.trans (hb1.mono hbd.size); have HO1 := Lib.hid (pw_own_below (pw_own_below HO.out hdr) hb1)) | (refine step_own_append _ (by rfl) _ _ _ (by rfl) w.heap.size 72 (av (List.replicate 6 0)) 6 6 Try.underlying50 uinfo_sight (by rfl) (by omega) (by omega) u5 k _ (by rfl) (pw_own_below HO1.out (below_box _ _)) (some ⟨w1.heap.size, 0, none⟩) 1 1 (nums .u8 (blurV (rl fs n))) (by rfl) (by rw [nums_length, blurV_length]) (fun j v hv => ⟨_, rfl, (new_six w1 72 (blurV (rl fs n)) (blurV_length _)).range j v hv⟩) (nums_one _ _) (by omega) (below_alloc hq1 _).size ?_; intro v2 w2 hO2 hg2 hat2; have hq2 := (below_alloc hq1 _).grown hg2 (below_alloc hq1 _).size (own_base HO1.out))))
      go_wp2
      go_roundw
      case rel =>
        refine ⟨k + 1, by omega, by go_num, ?_, hq2⟩
        rw [HSN.out, flat_snoc, nums_append]
        exact hO2
      case measure => first|(simp [intOf]; done)|(simp [intOf]; omega)
    · obtain rfl : k = (rl ws i).length := by omega
      go_wp2
      go_ret
      exact ⟨_, rfl, HO.out, HB.out⟩

set_option maxRecDepth 100000 in
set_option maxHeartbeats 4000000 in
theorem sights_ok (A : Option Addr) (c : Nat) (fs : List (List Int)) (v1 : Value) (A3 : Option Addr) (c3 : Nat) (x : List Int) (w : World) (hlw : x.length ≤ 1048576)
    (hg : GoodF fs) (hw : GoodW fs x) (h0 : (Karr 24).C w A fs.length fs) (h1 : (Kd.int .u8).C w A3 x.length x) :
    Calls Try.prog 83 #[.agg #[.slice A fs.length c, v1], .slice A3 x.length c3] w fun e w' => ∃ v, e = .returned v ∧ w'.ownsRow w.heap.size 72 6 v x.length (nums .u8 (flat (see fs x))) ∧ Below w.heap.size w w' := by
  have hm : x.length ≤ 9223372036854775807 := h1.2.1
  have hm2 : fs.length ≤ 9223372036854775807 := h0.2.1
  have HG := Lib.hid hg
  have HW := Lib.hid hw
  have H0 := Lib.hid h0
  have H1 := Lib.hid h1
  clear hg hw h0 h1
  go_enter Try.func83, Try.ntmps83
  go_wp2
  have hcc : ((w.alloc (.cells #[.slice A fs.length c, v1] 46)).alloc (.cells #[] 72)).heap[w.heap.size]? = some (.cells #[.slice A fs.length c, v1] 46 (0, 0)) := blk_alloc (heap_alloc_new w _) _
  have hR0 : ((w.alloc (.cells #[.slice A fs.length c, v1] 46)).alloc (.cells #[] 72)).ownsRow (w.heap.size + 1) 72 6 (.slice (some ⟨w.heap.size + 1, 0, none⟩) 0 0) 0 (nums .u8 (flat (seeTo fs x 0))) := by
    have h := heap_alloc_new (w.alloc (.cells #[.slice A fs.length c, v1] 46)) (.cells #[] 72)
    rw [size_box] at h
    exact ⟨rfl, .inr ⟨_, 0, #[], rfl, Nat.le_refl _, h, Nat.le_refl _, Nat.zero_le _, rfl, rfl⟩⟩
  have HR0 := Lib.hid hR0
  have HB0 := Lib.hid (below_alloc (below_box w (.cells #[.slice A fs.length c, v1] 46)) (.cells #[] 72))
  have HC0 := Lib.hid hcc
  have hsz0 : w.heap.size + 1 ≤ ((w.alloc (.cells #[.slice A fs.length c, v1] 46)).alloc (.cells #[] 72)).heap.size := by rw [size_box, size_box]; omega
  clear hR0 hcc
  generalize (w.alloc (.cells #[.slice A fs.length c, v1] 46)).alloc (.cells #[] 72) = W0 at *
  go_loopw [5, 7, 11] (fun v _ u wr => ∃ k : Nat, k ≤ x.length ∧ u = .int .i64 k ∧ Hid (wr.ownsRow (w.heap.size + 1) 72 6 v k (nums .u8 (flat (seeTo fs x k)))) ∧ Hid (wr.heap[w.heap.size]? = some (.cells #[.slice A fs.length c, v1] 46 (0, 0))) ∧ w.heap.size + 1 ≤ wr.heap.size ∧ Hid (Below w.heap.size w wr)) (fun _ _ u _ => x.length - (intOf u).toNat)
  case atStart => exact ⟨0, Nat.zero_le _, rfl, HR0, HC0, hsz0, HB0⟩
  case round =>
    clear HR0 HB0 HC0 hsz0
    obtain ⟨k, hk, rfl, HO, HC, hsz, HB⟩ := hrel
    by_cases hlt : k < x.length
    · have hlti : (k : Int) < (x.length : Int) := by omega
      obtain ⟨ad3, rfl, hx3⟩ := at_nat (C_below' H1.out HB.out) hlt
      have hgw := HW.out k hlt
      obtain ⟨n, hn⟩ : ∃ n : Nat, rn x k = (n : Int) := ⟨(rn x k).toNat, by omega⟩
      have hnl : n < fs.length := by omega
      have hnli : (n : Int) < (fs.length : Int) := by omega
      obtain ⟨ad0, rfl, hl0, hx0⟩ := at_arr (C_below' H0.out HB.out) hnl
      have x0 := (blk_cell HC.out 0).trans (show _ = some (.slice (some ad0) fs.length c) from rfl)
      have HX0 := Lib.hid hx0
      have HL0 := Lib.hid hl0
      have HBL := Lib.hid (fun W => blur_six (rl fs n) hl0 (HG.out.ok n hnl) (HG.out.pos n) W)
      have HSN : Hid (seeTo fs x (k + 1) = seeTo fs x k ++ [blurV (rl fs n)]) := by unfold Hid; rw [seeTo_snoc, hn]; rfl
      rw [hn] at hx3
      clear hx0 hl0 hgw hn
      go_wp2_with (first | (refine load_agg rfl 78 (.tmp 19) rfl (ad0.add (n * 24)) rfl (nums .u8 (rl fs n)) _ HX0.out Try.underlying78 rfl (by rw [nums_length, HL0.out]; exact ainfo_flag) ?_) | (go_at_call 115; refine (HBL.out _).mono ?_; rintro e w1 ⟨rfl, hb1⟩; have HO1 := Lib.hid (pw_own_below HO.out hb1); have HC1 := Lib.hid ((hb1.block w.heap.size (by omega)).trans HC.out); have hq1 := HB.out.trans (hb1.mono HB.out.size); have hsz1 := hb1.size) | (at_builtin; refine own_append _ rfl (.tmp 15) (.tmp 22) 50 rfl (w.heap.size + 1) 72 (av (List.replicate 6 0)) 6 6 Try.underlying50 uinfo_sight rfl (by omega) (by omega) _ k _ rfl (pw_own_below HO1.out (below_box _ _)) (some ⟨w1.heap.size, 0, none⟩) 1 1 (nums .u8 (blurV (rl fs n))) rfl (by rw [nums_length, blurV_length]) (fun j v hv => ⟨_, rfl, (new_six w1 72 (blurV (rl fs n)) (blurV_length _)).range j v hv⟩) (nums_one _ _) (by omega) (by simp; omega) ?_; intro v2 w2 hO2 hg2 hat2; have hq2 := (below_alloc hq1 _).grown hg2 (below_alloc hq1 _).size (fun k hk => Nat.le_trans (Nat.le_succ _) (own_base HO1.out k hk))))
      go_roundw
      case rel =>
        refine ⟨k + 1, by omega, by go_num, ?_, ?_, ?_, hq2⟩
        · rw [HSN.out, flat_snoc, nums_append]
          exact hO2
        · exact (hg2.block w.heap.size (by simp; omega) (fun e => by have := own_base HO1.out _ e.symm; omega)).trans (blk_alloc HC1.out _)
        · have := hg2.size
          simp at this
          omega
      case measure => first|(simp [intOf]; done)|(simp [intOf]; omega)
    · obtain rfl : k = x.length := by omega
      go_wp2
      go_ret
      exact ⟨_, rfl, own_weaken HO.out (by omega), HB.out⟩
end Go.Proofs.Ytjadhhnajphibaa
