/- Contracts of functions and plain lemmas that the row stands on: What is seen of a word. How far sights are apart; sights and flags that are valid: the program's. Sights and flags that are valid: the program's. Sights, flags and sets that are valid: the program's. Regions that draw their order and whose callees may make memory: one walk, over a family of worlds. No conditions beyond those that each theorem names. -/
import Derived.Test.YtjadhhnajphibaaGC7
import Derived.Test.YtjadhhnajphibaaGC1
import Derived.Deep.RegionHeld3
import Derived.Deep.AppendLies
import Derived.Deep.DrawnRows
import Derived.Test.YtjadhhnajphibaaGC5
set_option linter.unusedVariables false
set_option linter.unusedSimpArgs false
namespace Go.Proofs.Ytjadhhnajphibaa
open Go.RowKit Go.Proofs.YtjadhhnajphibaaW.PrintWords

/-- what is seen of a word's first letters. -/
def seeTo (fs : List (List Int)) (x : List Int) (k : Nat) : List (List Int) := (List.range k).map fun j => blurV (rl fs (rn x j).toNat)
def see (fs : List (List Int)) (x : List Int) : List (List Int) := seeTo fs x x.length
theorem seeTo_length (fs : List (List Int)) (x : List Int) (k : Nat) : (seeTo fs x k).length = k := by simp [seeTo]
theorem see_length (fs : List (List Int)) (x : List Int) : (see fs x).length = x.length := seeTo_length _ _ _
theorem seeTo_snoc (fs : List (List Int)) (x : List Int) (k : Nat) : seeTo fs x (k + 1) = seeTo fs x k ++ [blurV (rl fs (rn x k).toNat)] := by simp [seeTo, List.range_succ]
theorem see_each (fs : List (List Int)) (x : List Int) : ∀ s ∈ see fs x, s.length = 6 := by
  intro s hs
  simp only [see, seeTo, List.mem_map] at hs
  obtain ⟨j, _, rfl⟩ := hs
  exact blurV_length _
/-- flags whose colours are colours. -/
structure GoodF (fs : List (List Int)) : Prop where
  ok : ∀ k, k < fs.length → okF (rl fs k) = true
  pos : ∀ k i, 0 ≤ rn (rl fs k) i
/-- letters that have flags. -/
def GoodW (fs : List (List Int)) (x : List Int) : Prop := ∀ j, j < x.length → 0 ≤ rn x j ∧ rn x j < fs.length
theorem cell_lt {w : World} {p : Addr} {v : Value} (h : w.cell? p = some v) : p.block < w.heap.size := by
  rcases Nat.lt_or_ge p.block w.heap.size with h1 | h1
  · exact h1
  · simp [World.cell?, Array.getElem?_eq_none h1] at h
theorem six (xs : List Int) (h : xs.length = 6) : (#[.int .u8 (rn xs 0), .int .u8 (rn xs 1), .int .u8 (rn xs 2), .int .u8 (rn xs 3), .int .u8 (rn xs 4), .int .u8 (rn xs 5)] : Array Value) = (nums .u8 xs).toArray := by
  match xs, h with
  | [a, b, c, d, e, f], _ => rfl
theorem new_six (w : World) (t : Nat) (xs : List Int) (h : xs.length = 6) : NB .u8 (w.alloc (.cells #[.int .u8 (rn xs 0), .int .u8 (rn xs 1), .int .u8 (rn xs 2), .int .u8 (rn xs 3), .int .u8 (rn xs 4), .int .u8 (rn xs 5)] t)) w.heap.size t xs := by
  rw [six xs h]; exact NB.new w t xs
theorem nums_append (kd : IntKind) (a b : List Int) : nums kd (a ++ b) = nums kd a ++ nums kd b := by simp [nums]

theorem l01Blur_six (ad : Addr) (f : List Int) (hf : f.length = 24) (h5 : okF f = true) (hp : ∀ i, 0 ≤ rn f i) (w : World) (hb : ad.block < w.heap.size) (h0 : ∀ j v, (nums .u8 f)[j]? = some v → w.cell? (ad.add j) = some v) :
    Calls Try.prog 112 #[.pointer (some ad)] w fun e w' => e = .returned (.agg #[.int .u8 (rn (blurV f) 0), .int .u8 (rn (blurV f) 1), .int .u8 (rn (blurV f) 2), .int .u8 (rn (blurV f) 3), .int .u8 (rn (blurV f) 4), .int .u8 (rn (blurV f) 5)]) ∧ Below w.heap.size w w' := by
  rw [six _ (blurV_length f)]
  exact l01Blur_ok ad f hf h5 hp w hb h0
theorem blur_six (f : List Int) (hf : f.length = 24) (h5 : okF f = true) (hp : ∀ i, 0 ≤ rn f i) (w : World) :
    Calls Try.prog 115 #[av f] w fun e w' => e = .returned (.agg #[.int .u8 (rn (blurV f) 0), .int .u8 (rn (blurV f) 1), .int .u8 (rn (blurV f) 2), .int .u8 (rn (blurV f) 3), .int .u8 (rn (blurV f) 4), .int .u8 (rn (blurV f) 5)]) ∧ Below w.heap.size w w' := by
  rw [six _ (blurV_length f)]
  exact blur_ok f hf h5 hp w
section
variable {P : Program} {ops : Array Oper} {o : Oper} {a : Act} {K : Act → World → Prop} {Q : Exit → Act → World → Prop} {E : Prop}
theorem step_own_append (w : World) (hgd : o.guard = none) (s x : Operand) (t : TypeId)
    (ho : o.op = .call { callee := .builtin .append, args := #[s, x], argTypes := #[t, t] })
    (base : Nat) (e : TypeId) (z : Value) (size bytes : Nat) (ht : P.underlying t = some (.slice e)) (hinfo : (P.info? e).map (fun i => (i.zero, i.size, i.bytes)) = some (some z, size, bytes)) (hzs : z.cells.size = size) (hsz : 0 < size) (hb0 : 0 < bytes)
    (v : Value) (n : Nat) (xs : List Value) (hs : a.eval s = v) (hown : w.ownsRow base e size v n xs) (A : Option Addr) (m c : Nat) (news : List Value) (hx : a.eval x = .slice A m c) (hl : news.length = m * size) (hr : Cells w A news) (h1 : ∀ u ∈ news, u.oneCell' = true)
    (hbytes : (n + m) * bytes ≤ 140737488355328) (hbase : base ≤ w.heap.size)
    (h : ∀ v' w', w'.ownsRow base e size v' (n + m) (xs ++ news) → w.grownBy w' v.ownBlock → (v'.ownBlock = v.ownBlock ∨ v'.ownBlock = some w.heap.size) → K (a.put o.dst v') w') : if Region.wanted o (yielded ops a.tmps) = true then Oper.wp P o a w K Q else E := by
  obtain ⟨i0, hi, hzz⟩ := Option.map_eq_some_iff.1 hinfo
  simp only [Prod.mk.injEq] at hzz
  obtain ⟨hz0, hz1, hz2⟩ := hzz
  have hlen : n + m ≤ 140737488355328 := Nat.le_trans (Nat.le_mul_of_pos_right _ hb0) hbytes
  obtain ⟨v', w', hrun, h2, h3, h4⟩ := run_append_cells (P := P) w base t o.type e i0 z size bytes ht hi hz0 hz1 hz2 hzs hsz v n xs hown A m c news hl hr h1 hbytes (by simp only [maxLen]; omega) hbase
  have hw : Region.wanted o (yielded ops a.tmps) = true := by simp [Region.wanted, hgd]
  rw [if_pos hw]
  unfold Oper.wp execOp
  simp only [ho, resolve, invoke, builtin, Sem.run_bind, Sem.run_pure, Result.andThen_ok, List.map_toArray, List.map_cons, List.map_nil, hs, hx, hrun]
  exact h v' w' h2 h3 h4
end

set_option maxRecDepth 100000 in
set_option maxHeartbeats 4000000 in
theorem l05Sights_ok (gc : Nat) (A : Option Addr) (c : Nat) (fs : List (List Int)) (A1 : Option Addr) (c1 : Nat) (ws : List (List Int)) (i : Nat) (w : World) (hi : i < ws.length) (hil : ws.length ≤ 1048576) (hlw : (rl ws i).length ≤ 1048576)
    (hg : GoodF fs) (hw : GoodW fs (rl ws i)) (hc : w.heap[gc]? = some (.cells #[.slice A fs.length c, .slice A1 ws.length c1] 46 (0, 0)))
    (h0 : (Karr 24).C w A fs.length fs) (h1 : (Kd.slice 5 (Kd.int .u8)).C w A1 ws.length ws) :
    Calls Try.prog 79 #[.pointer (some ⟨gc, 0, none⟩), .int .i64 i] w fun e w' => ∃ v, e = .returned v ∧ w'.ownsRow w.heap.size 72 6 v (rl ws i).length (nums .u8 (flat (see fs (rl ws i)))) ∧ Below w.heap.size w w' := by
  have hm : ws.length ≤ 9223372036854775807 := h1.2.1
  have hm2 : fs.length ≤ 9223372036854775807 := h0.2.1
  have HG := Lib.hid hg
  have HW := Lib.hid hw
  have HC := Lib.hid hc
  have H0 := Lib.hid h0
  have H1 := Lib.hid h1
  clear hg hw hc h0 h1
  go_enter Try.func79, Try.ntmps79
  go_wp2
  have hR0 : (w.alloc (.cells #[] 72)).ownsRow w.heap.size 72 6 (.slice (some ⟨w.heap.size, 0, none⟩) 0 0) 0 (nums .u8 (flat (seeTo fs (rl ws i) 0))) :=
    ⟨rfl, .inr ⟨_, 0, #[], rfl, Nat.le_refl _, heap_alloc_new _ _, Nat.le_refl _, Nat.zero_le _, rfl, rfl⟩⟩
  have HR0 := Lib.hid hR0
  have HB0 := Lib.hid (below_box w (.cells #[] 72))
  clear hR0
  generalize w.alloc (.cells #[] 72) = W0 at *
  have hii : (i : Int) < (ws.length : Int) := by omega
  have hl9 : (rl ws i).length ≤ 9223372036854775807 := by omega
  obtain ⟨ad1, A3, c3, rfl, hx1, hl3, hr3⟩ := at_row H1.out hi
  have HS := Lib.hid (fun W (h : Below w.heap.size w W) => And.intro ((blk_cell ((h.block gc (blk_lt HC.out)).trans HC.out) 0).trans (show _ = some (.slice A fs.length c) from rfl))
    (And.intro ((blk_cell ((h.block gc (blk_lt HC.out)).trans HC.out) 1).trans (show _ = some (.slice (some ad1) ws.length c1) from rfl)) ((h.cell (cell_lt hx1)).trans hx1)))
  have HR3 := Lib.hid hr3
  clear hx1 hr3
  go_loopw [5, 6] (fun v u wr => ∃ k : Nat, k ≤ (rl ws i).length ∧ u = .int .i64 k ∧ Hid (wr.ownsRow w.heap.size 72 6 v k (nums .u8 (flat (seeTo fs (rl ws i) k)))) ∧ Hid (Below w.heap.size w wr)) (fun _ u _ => (rl ws i).length - (intOf u).toNat)
  case atStart => exact ⟨0, Nat.zero_le _, rfl, HR0, HB0⟩
  case round =>
    clear HR0 HB0
    obtain ⟨k, hk, rfl, HO, HB⟩ := hrel
    obtain ⟨x0, x1, x2⟩ := HS.out wr HB.out
    by_cases hlt : k < (rl ws i).length
    · have hlti : (k : Int) < ((rl ws i).length : Int) := by omega
      obtain ⟨ad3, rfl, hx3⟩ := at_nat HR3.out hlt
      have hgw := HW.out k hlt
      obtain ⟨n, hn⟩ : ∃ n : Nat, rn (rl ws i) k = (n : Int) := ⟨(rn (rl ws i) k).toNat, by omega⟩
      have hnl : n < fs.length := by omega
      have hnli : (n : Int) < (fs.length : Int) := by omega
      obtain ⟨ad0, rfl, hl0, hx0⟩ := at_arr H0.out hnl
      have hlt0 : (ad0.add (n * 24)).block < w.heap.size := by
        have := cells_nums hx0 (k := 0) (by omega)
        have := cell_lt this
        rwa [addr_block] at this
      have HBL := Lib.hid (fun W hW => l01Blur_six (ad0.add (n * 24)) (rl fs n) hl0 (HG.out.ok n hnl) (HG.out.pos n) W (Nat.lt_of_lt_of_le hlt0 (Below.size hW)) (fun j v hv => (hW.cell (p := (ad0.add (n * 24)).add j) (by rw [addr_block]; exact hlt0)).trans (hx0 j v hv)))
      have HSN : Hid (seeTo fs (rl ws i) (k + 1) = seeTo fs (rl ws i) k ++ [blurV (rl fs n)]) := by unfold Hid; rw [seeTo_snoc, hn]; rfl
      rw [hn] at hx3
      have HK := Lib.hid (fun W (h : Below w.heap.size w W) => And.intro (HS.out W h).1 (And.intro (HS.out W h).2.1 (And.intro (HS.out W h).2.2 (And.intro ((h.cell (cell_lt hx3)).trans hx3) h))))
      have x3 := (HB.out.cell (cell_lt hx3)).trans hx3
      clear hx0 hl0 hgw hn hx3
      have hdr : Below wr.heap.size wr wr.drew := ⟨rfl, rfl, rfl, Nat.le_refl _, fun _ _ => rfl⟩
      have hbd : Below w.heap.size w wr.drew := HB.out.trans (hdr.mono HB.out.size)
      go_wp2
      go_region_held3 (fun w' => w'.cell? ⟨gc, 0, none⟩ = some (.slice (some ad0) fs.length c) ∧ w'.cell? ⟨gc, 1, none⟩ = some (.slice (some ad1) ws.length c1) ∧ w'.cell? (ad1.add i) = some (.slice (some ad3) (rl ws i).length c3) ∧ w'.cell? (ad3.add k) = some (.int .u8 n) ∧ Below w.heap.size w w')
        ((first | exact HK.out _ hbd | exact HK.out _ hq1 | exact HK.out _ (below_alloc hq1 _) | exact HK.out _ hq2))
        ((first | (go_at_call 112; refine (HBL.out _ hbd).mono ?_; rintro e w1 ⟨rfl, hb1⟩; have hq1 := hbd.trans (hb1.mono hbd.size); have HO1 := Lib.hid (pw_own_below (pw_own_below HO.out hdr) hb1)) | (refine step_own_append _ (by rfl) _ _ _ (by rfl) w.heap.size 72 (av (List.replicate 6 0)) 6 6 Try.underlying50 uinfo_sight (by rfl) (by omega) (by omega) u5 k _ (by rfl) (pw_own_below HO1.out (below_box _ _)) (some ⟨w1.heap.size, 0, none⟩) 1 1 (nums .u8 (blurV (rl fs n))) (by rfl) (by rw [nums_length, blurV_length]) (fun j v hv => ⟨_, rfl, (new_six w1 72 (blurV (rl fs n)) (blurV_length _)).range j v hv⟩) (nums_one _ _) (by omega) (below_alloc hq1 _).size ?_; intro v2 w2 hO2 hg2 hat2; have hq2 := (below_alloc hq1 _).grown hg2 (below_alloc hq1 _).size (own_base HO1.out))))
      go_wp2
      go_roundw
      case rel =>
        refine ⟨k + 1, by omega, by go_num, ?_, hq2⟩
        rw [HSN.out, flat_snoc, nums_append]
        exact hO2
      case measure => first|(simp [intOf]; done)|(simp [intOf]; omega)
    · obtain rfl : k = (rl ws i).length := by omega
      go_wp2
      go_ret
      exact ⟨_, rfl, HO.out, HB.out⟩

set_option maxRecDepth 100000 in
set_option maxHeartbeats 4000000 in
theorem sights_ok (A : Option Addr) (c : Nat) (fs : List (List Int)) (v1 : Value) (A3 : Option Addr) (c3 : Nat) (x : List Int) (w : World) (hlw : x.length ≤ 1048576)
    (hg : GoodF fs) (hw : GoodW fs x) (h0 : (Karr 24).C w A fs.length fs) (h1 : (Kd.int .u8).C w A3 x.length x) :
    Calls Try.prog 83 #[.agg #[.slice A fs.length c, v1], .slice A3 x.length c3] w fun e w' => ∃ v, e = .returned v ∧ w'.ownsRow w.heap.size 72 6 v x.length (nums .u8 (flat (see fs x))) ∧ Below w.heap.size w w' := by
  have hm : x.length ≤ 9223372036854775807 := h1.2.1
  have hm2 : fs.length ≤ 9223372036854775807 := h0.2.1
  have HG := Lib.hid hg
  have HW := Lib.hid hw
  have H0 := Lib.hid h0
  have H1 := Lib.hid h1
  clear hg hw h0 h1
  go_enter Try.func83, Try.ntmps83
  go_wp2
  have hcc : ((w.alloc (.cells #[.slice A fs.length c, v1] 46)).alloc (.cells #[] 72)).heap[w.heap.size]? = some (.cells #[.slice A fs.length c, v1] 46 (0, 0)) := blk_alloc (heap_alloc_new w _) _
  have hR0 : ((w.alloc (.cells #[.slice A fs.length c, v1] 46)).alloc (.cells #[] 72)).ownsRow (w.heap.size + 1) 72 6 (.slice (some ⟨w.heap.size + 1, 0, none⟩) 0 0) 0 (nums .u8 (flat (seeTo fs x 0))) := by
    have h := heap_alloc_new (w.alloc (.cells #[.slice A fs.length c, v1] 46)) (.cells #[] 72)
    rw [size_box] at h
    exact ⟨rfl, .inr ⟨_, 0, #[], rfl, Nat.le_refl _, h, Nat.le_refl _, Nat.zero_le _, rfl, rfl⟩⟩
  have HR0 := Lib.hid hR0
  have HB0 := Lib.hid (below_alloc (below_box w (.cells #[.slice A fs.length c, v1] 46)) (.cells #[] 72))
  have HC0 := Lib.hid hcc
  have hsz0 : w.heap.size + 1 ≤ ((w.alloc (.cells #[.slice A fs.length c, v1] 46)).alloc (.cells #[] 72)).heap.size := by rw [size_box, size_box]; omega
  clear hR0 hcc
  generalize (w.alloc (.cells #[.slice A fs.length c, v1] 46)).alloc (.cells #[] 72) = W0 at *
  go_loopw [5, 7, 11] (fun v _ u wr => ∃ k : Nat, k ≤ x.length ∧ u = .int .i64 k ∧ Hid (wr.ownsRow (w.heap.size + 1) 72 6 v k (nums .u8 (flat (seeTo fs x k)))) ∧ Hid (wr.heap[w.heap.size]? = some (.cells #[.slice A fs.length c, v1] 46 (0, 0))) ∧ w.heap.size + 1 ≤ wr.heap.size ∧ Hid (Below w.heap.size w wr)) (fun _ _ u _ => x.length - (intOf u).toNat)
  case atStart => exact ⟨0, Nat.zero_le _, rfl, HR0, HC0, hsz0, HB0⟩
  case round =>
    clear HR0 HB0 HC0 hsz0
    obtain ⟨k, hk, rfl, HO, HC, hsz, HB⟩ := hrel
    by_cases hlt : k < x.length
    · have hlti : (k : Int) < (x.length : Int) := by omega
      obtain ⟨ad3, rfl, hx3⟩ := at_nat (C_below' H1.out HB.out) hlt
      have hgw := HW.out k hlt
      obtain ⟨n, hn⟩ : ∃ n : Nat, rn x k = (n : Int) := ⟨(rn x k).toNat, by omega⟩
      have hnl : n < fs.length := by omega
      have hnli : (n : Int) < (fs.length : Int) := by omega
      obtain ⟨ad0, rfl, hl0, hx0⟩ := at_arr (C_below' H0.out HB.out) hnl
      have x0 := (blk_cell HC.out 0).trans (show _ = some (.slice (some ad0) fs.length c) from rfl)
      have HX0 := Lib.hid hx0
      have HL0 := Lib.hid hl0
      have HBL := Lib.hid (fun W => blur_six (rl fs n) hl0 (HG.out.ok n hnl) (HG.out.pos n) W)
      have HSN : Hid (seeTo fs x (k + 1) = seeTo fs x k ++ [blurV (rl fs n)]) := by unfold Hid; rw [seeTo_snoc, hn]; rfl
      rw [hn] at hx3
      clear hx0 hl0 hgw hn
      go_wp2_with (first | (refine load_agg rfl 78 (.tmp 19) rfl (ad0.add (n * 24)) rfl (nums .u8 (rl fs n)) _ HX0.out Try.underlying78 rfl (by rw [nums_length, HL0.out]; exact ainfo_flag) ?_) | (go_at_call 115; refine (HBL.out _).mono ?_; rintro e w1 ⟨rfl, hb1⟩; have HO1 := Lib.hid (pw_own_below HO.out hb1); have HC1 := Lib.hid ((hb1.block w.heap.size (by omega)).trans HC.out); have hq1 := HB.out.trans (hb1.mono HB.out.size); have hsz1 := hb1.size) | (at_builtin; refine own_append _ rfl (.tmp 15) (.tmp 22) 50 rfl (w.heap.size + 1) 72 (av (List.replicate 6 0)) 6 6 Try.underlying50 uinfo_sight rfl (by omega) (by omega) _ k _ rfl (pw_own_below HO1.out (below_box _ _)) (some ⟨w1.heap.size, 0, none⟩) 1 1 (nums .u8 (blurV (rl fs n))) rfl (by rw [nums_length, blurV_length]) (fun j v hv => ⟨_, rfl, (new_six w1 72 (blurV (rl fs n)) (blurV_length _)).range j v hv⟩) (nums_one _ _) (by omega) (by simp; omega) ?_; intro v2 w2 hO2 hg2 hat2; have hq2 := (below_alloc hq1 _).grown hg2 (below_alloc hq1 _).size (fun k hk => Nat.le_trans (Nat.le_succ _) (own_base HO1.out k hk))))
      go_roundw
      case rel =>
        refine ⟨k + 1, by omega, by go_num, ?_, ?_, ?_, hq2⟩
        · rw [HSN.out, flat_snoc, nums_append]
          exact hO2
        · exact (hg2.block w.heap.size (by simp; omega) (fun e => by have := own_base HO1.out _ e.symm; omega)).trans (blk_alloc HC1.out _)
        · have := hg2.size
          simp at this
          omega
      case measure => first|(simp [intOf]; done)|(simp [intOf]; omega)
    · obtain rfl : k = x.length := by omega
      go_wp2
      go_ret
      exact ⟨_, rfl, own_weaken HO.out (by omega), HB.out⟩
end Go.Proofs.Ytjadhhnajphibaa
namespace Go.Proofs.Ytjadhhnajphibaa
open Go.RowKit Go.Proofs.YtjadhhnajphibaaW.PrintWords

theorem C_six {w : World} {ad : Addr} {f : List Int} (hf : f.length ≤ 9223372036854775807) (h : ∀ j v, (nums .u8 f)[j]? = some v → w.cell? (ad.add j) = some v) : (Kd.int .u8).C w (some ad) f.length f :=
  C_of_nums hf fun j u hu => ⟨ad, rfl, h j u hu⟩

set_option maxHeartbeats 4000000 in
theorem sightsApart_ok (A0 : Option Addr) (c0 : Nat) (a : List (List Int)) (A1 : Option Addr) (c1 : Nat) (b : List (List Int)) (w : World) (h0 : (Karr 6).C w A0 a.length a) (h1 : (Karr 6).C w A1 b.length b) (hl : a.length ≤ b.length) (hb : a.length ≤ 1000000000000) :
    Calls Try.prog 85 #[.slice A0 a.length c0, .slice A1 b.length c1] w fun e w' => e = .returned (.int .i64 (farS a b)) ∧ ∃ q, w' = w.drewN q := by
  have hm : a.length ≤ 9223372036854775807 := h0.2.1
  have hfl : ∀ i, (rl a i).length ≤ 6 := fun i => by
    rcases Nat.lt_or_ge i a.length with h | h
    · rw [(C_lens h0).2 i h]; omega
    · simp [rl, List.getD_eq_getElem?_getD, List.getElem?_eq_none h]
  have H0 := Lib.hid h0
  have H1 := Lib.hid h1
  have HFL := Lib.hid (farTo_le (b := b) hfl)
  clear h0 h1 hfl
  go_enter Try.func85, Try.ntmps85
  go_wp2
  go_loopw [5, 6, 9] (fun m _ i wr => ∃ k q : Nat, k ≤ a.length ∧ i = .int .i64 k ∧ m = .int .i64 (farTo a b k) ∧ wr = w.drewN q) (fun _ _ i _ => a.length - (intOf i).toNat)
  case atStart => exact ⟨0, 0, Nat.zero_le _, rfl, rfl, rfl⟩
  case round =>
    obtain ⟨k, q, hk, rfl, rfl, rfl⟩ := hrel
    have hfk := HFL.out k
    by_cases hlt : k < a.length
    · obtain ⟨ad0, rfl, hl0, hx0⟩ := at_arr H0.out hlt
      obtain ⟨ad1, rfl, hl1, hx1⟩ := at_arr H1.out (show k < b.length by omega)
      have hlti : (k : Int) < (a.length : Int) := by omega
      have hlti1 : (k : Int) < (b.length : Int) := by omega
      have HC := Lib.hid (fun (W : World) (n : Nat) (hW : W = w.drewN n) => unlike_ok (some (ad0.add (k * 6))) 6 (rl a k) (some (ad1.add (k * 6))) 6 (rl b k) W (by rw [hW]; exact C_six (by omega) hx0) (by rw [hW]; exact C_six (by omega) hx1) (by omega))
      rw [hl0, hl1] at HC
      have HST : Hid (farTo a b (k + 1) = farTo a b k + diffs (rl a k) (rl b k)) := rfl
      have hd : diffs (rl a k) (rl b k) ≤ 6 := by have := cnt_le (fun i => rn (rl a k) i != rn (rl b k) i) (rl a k).length; unfold diffs diffsTo; omega
      clear hx0 hl0 hx1 hl1
      generalize farTo a b k = F at *
      go_wp2
      go_quiet ((go_at_call 60; first | exact quiet_add_same (HC.out _ _ rfl) | exact quiet_same (HC.out _ _ rfl)))
      go_wp2
      go_roundw
      case rel => exact ⟨k + 1, _, by omega, by go_num, by rw [HST.out]; go_num, rfl⟩
      case measure => first|(simp [intOf]; done)|(simp [intOf]; omega)
    · obtain rfl : k = a.length := by omega
      go_wp2
      go_ret
      exact ⟨rfl, _, rfl⟩
end Go.Proofs.Ytjadhhnajphibaa
namespace Go.Proofs.Ytjadhhnajphibaa
open Go.RowKit Go.Proofs.YtjadhhnajphibaaW.PrintWords

set_option maxHeartbeats 1000000 in
theorem indexFunc8_ok (g : Nat) (lb : Array Value) (eg : ∀ args w, (callFunc g args).run Try.prog w = .ok (.enter g args) w) (A : Option Addr) (n c : Nat) (el : Nat → Value) (p : Nat → Bool) (w : World) (hr : Raw w A n el) (hp : PredB Try.prog g lb n el p w) :
    Calls Try.prog 134 #[.slice A n c, .func (.func g) #[] lb] w fun e w' => e = .returned (.int .i64 (idx p n)) ∧ Below w.heap.size w w' := by
  have hm := hr.1
  have HR := Lib.hid hr
  have HP := Lib.hid hp
  clear hr hp
  go_enter Try.func134, Try.ntmps134
  go_wp2
  go_loopw [5, 8] (fun _ i wr => ∃ k : Nat, k ≤ n ∧ i = .int .i64 k ∧ Hid (Below w.heap.size w wr) ∧ Hid (∀ j, j < k → p j = false)) (fun _ i _ => n - (intOf i).toNat)
  case atStart => exact ⟨0, Nat.zero_le _, rfl, Below.refl _ _, fun j hj => absurd hj (by omega)⟩
  case round =>
    obtain ⟨k, hk, rfl, HB, HA⟩ := hrel
    by_cases hlt : k < n
    · have hlti : (k : Int) < (n : Int) := by omega
      have hcall := HP.out k wr hlt HB.out
      obtain ⟨ad, rfl, hc⟩ := (HR.out.below HB.out).2 k hlt
      rcases hq : p k with _ | _
      · rw [hq] at hcall
        have HQ := Lib.hid hq
        clear hq
        go_wp2_with (go_at_fn g; refine hcall.mono ?_; rintro e w' ⟨rfl, hb'⟩)
        go_roundw
        case rel =>
          refine ⟨k + 1, by omega, by go_num, HB.out.trans (hb'.mono HB.out.size), fun j hj => ?_⟩
          by_cases e : j = k
          · rw [e]; exact HQ.out
          · exact HA.out j (by omega)
        case measure => first|(simp [intOf]; done)|(simp [intOf]; omega)
      · rw [hq] at hcall
        have HQ := Lib.hid (idx_hit HA.out hq hlt)
        clear hq
        go_wp2_with (go_at_fn g; refine hcall.mono ?_; rintro e w' ⟨rfl, hb'⟩)
        go_ret
        exact ⟨ret_int HQ.out.symm, HB.out.trans (hb'.mono HB.out.size)⟩
    · obtain rfl : k = n := by omega
      have HQ := Lib.hid (idx_none HA.out)
      go_wp2
      go_ret
      exact ⟨ret_int HQ.out.symm, HB.out⟩

set_option maxHeartbeats 1000000 in
theorem containsFunc8_ok (g : Nat) (lb : Array Value) (eg : ∀ args w, (callFunc g args).run Try.prog w = .ok (.enter g args) w) (A : Option Addr) (n c : Nat) (el : Nat → Value) (p : Nat → Bool) (w : World) (hr : Raw w A n el) (hp : PredB Try.prog g lb n el p w) :
    Calls Try.prog 121 #[.slice A n c, .func (.func g) #[] lb] w fun e w' => e = .returned (.bool (anyB p n)) ∧ Below w.heap.size w w' := by
  have HR := Lib.hid hr
  have HP := Lib.hid hp
  clear hr hp
  have HS := Lib.hid (idx_any p n)
  go_enter Try.func121, Try.ntmps121
  go_wp2_with (go_at_call 134; refine (indexFunc8_ok g lb eg A n c el p w HR.out HP.out).mono ?_; rintro e w' ⟨rfl, hb'⟩)
  go_ret
  exact ⟨ret_bool HS.out, hb'⟩

set_option maxHeartbeats 1000000 in
theorem indexFuncF_ok (g : Nat) (lb : Array Value) (eg : ∀ args w, (callFunc g args).run Try.prog w = .ok (.enter g args) w) (A : Option Addr) (c : Nat) (fs : List (List Int)) (p : Nat → Bool) (w : World) (hr : (Karr 24).C w A fs.length fs) (hp : PredB Try.prog g lb fs.length (fun k => av (rl fs k)) p w) :
    Calls Try.prog 139 #[.slice A fs.length c, .func (.func g) #[] lb] w fun e w' => e = .returned (.int .i64 (idx p fs.length)) ∧ Below w.heap.size w w' := by
  have hm : fs.length ≤ 9223372036854775807 := hr.2.1
  have HR := Lib.hid hr
  have HP := Lib.hid hp
  clear hr hp
  go_enter Try.func139, Try.ntmps139
  go_wp2
  go_loopw [5, 8] (fun _ i wr => ∃ k : Nat, k ≤ fs.length ∧ i = .int .i64 k ∧ Hid (Below w.heap.size w wr) ∧ Hid (∀ j, j < k → p j = false)) (fun _ i _ => fs.length - (intOf i).toNat)
  case atStart => exact ⟨0, Nat.zero_le _, rfl, Below.refl _ _, fun j hj => absurd hj (by omega)⟩
  case round =>
    obtain ⟨k, hk, rfl, HB, HA⟩ := hrel
    by_cases hlt : k < fs.length
    · have hlti : (k : Int) < (fs.length : Int) := by omega
      have hcall := HP.out k wr hlt HB.out
      obtain ⟨ad, rfl, hlk, hck⟩ := at_arr (C_below' HR.out HB.out) hlt
      have HLK := Lib.hid hlk
      have HCK := Lib.hid hck
      unfold av at hcall
      clear hlk hck
      rcases hq : p k with _ | _
      · rw [hq] at hcall
        have HQ := Lib.hid hq
        clear hq
        go_wp2_with (first | (refine load_agg rfl 78 (.tmp 14) rfl (ad.add (k * 24)) rfl (nums .u8 (rl fs k)) _ HCK.out Try.underlying78 rfl (by rw [nums_length, HLK.out]; exact ainfo_flag) ?_) | (go_at_fn g; refine hcall.mono ?_; rintro e w' ⟨rfl, hb'⟩))
        go_roundw
        case rel =>
          refine ⟨k + 1, by omega, by go_num, HB.out.trans (hb'.mono HB.out.size), fun j hj => ?_⟩
          by_cases e : j = k
          · rw [e]; exact HQ.out
          · exact HA.out j (by omega)
        case measure => first|(simp [intOf]; done)|(simp [intOf]; omega)
      · rw [hq] at hcall
        have HQ := Lib.hid (idx_hit HA.out hq hlt)
        clear hq
        go_wp2_with (first | (refine load_agg rfl 78 (.tmp 14) rfl (ad.add (k * 24)) rfl (nums .u8 (rl fs k)) _ HCK.out Try.underlying78 rfl (by rw [nums_length, HLK.out]; exact ainfo_flag) ?_) | (go_at_fn g; refine hcall.mono ?_; rintro e w' ⟨rfl, hb'⟩))
        go_ret
        exact ⟨ret_int HQ.out.symm, HB.out.trans (hb'.mono HB.out.size)⟩
    · obtain rfl : k = fs.length := by omega
      have HQ := Lib.hid (idx_none HA.out)
      go_wp2
      go_ret
      exact ⟨ret_int HQ.out.symm, HB.out⟩

set_option maxHeartbeats 1000000 in
theorem indexFuncS_ok (g : Nat) (lb : Array Value) (eg : ∀ args w, (callFunc g args).run Try.prog w = .ok (.enter g args) w) (A : Option Addr) (c : Nat) (fs : List (List Int)) (p : Nat → Bool) (w : World) (hr : (Karr 6).C w A fs.length fs) (hp : PredB Try.prog g lb fs.length (fun k => av (rl fs k)) p w) :
    Calls Try.prog 133 #[.slice A fs.length c, .func (.func g) #[] lb] w fun e w' => e = .returned (.int .i64 (idx p fs.length)) ∧ Below w.heap.size w w' := by
  have hm : fs.length ≤ 9223372036854775807 := hr.2.1
  have HR := Lib.hid hr
  have HP := Lib.hid hp
  clear hr hp
  go_enter Try.func133, Try.ntmps133
  go_wp2
  go_loopw [5, 8] (fun _ i wr => ∃ k : Nat, k ≤ fs.length ∧ i = .int .i64 k ∧ Hid (Below w.heap.size w wr) ∧ Hid (∀ j, j < k → p j = false)) (fun _ i _ => fs.length - (intOf i).toNat)
  case atStart => exact ⟨0, Nat.zero_le _, rfl, Below.refl _ _, fun j hj => absurd hj (by omega)⟩
  case round =>
    obtain ⟨k, hk, rfl, HB, HA⟩ := hrel
    by_cases hlt : k < fs.length
    · have hlti : (k : Int) < (fs.length : Int) := by omega
      have hcall := HP.out k wr hlt HB.out
      obtain ⟨ad, rfl, hlk, hck⟩ := at_arr (C_below' HR.out HB.out) hlt
      have HLK := Lib.hid hlk
      have HCK := Lib.hid hck
      unfold av at hcall
      clear hlk hck
      rcases hq : p k with _ | _
      · rw [hq] at hcall
        have HQ := Lib.hid hq
        clear hq
        go_wp2_with (first | (refine load_agg rfl 72 (.tmp 14) rfl (ad.add (k * 6)) rfl (nums .u8 (rl fs k)) _ HCK.out Try.underlying72 rfl (by rw [nums_length, HLK.out]; exact ainfo_sight) ?_) | (go_at_fn g; refine hcall.mono ?_; rintro e w' ⟨rfl, hb'⟩))
        go_roundw
        case rel =>
          refine ⟨k + 1, by omega, by go_num, HB.out.trans (hb'.mono HB.out.size), fun j hj => ?_⟩
          by_cases e : j = k
          · rw [e]; exact HQ.out
          · exact HA.out j (by omega)
        case measure => first|(simp [intOf]; done)|(simp [intOf]; omega)
      · rw [hq] at hcall
        have HQ := Lib.hid (idx_hit HA.out hq hlt)
        clear hq
        go_wp2_with (first | (refine load_agg rfl 72 (.tmp 14) rfl (ad.add (k * 6)) rfl (nums .u8 (rl fs k)) _ HCK.out Try.underlying72 rfl (by rw [nums_length, HLK.out]; exact ainfo_sight) ?_) | (go_at_fn g; refine hcall.mono ?_; rintro e w' ⟨rfl, hb'⟩))
        go_ret
        exact ⟨ret_int HQ.out.symm, HB.out.trans (hb'.mono HB.out.size)⟩
    · obtain rfl : k = fs.length := by omega
      have HQ := Lib.hid (idx_none HA.out)
      go_wp2
      go_ret
      exact ⟨ret_int HQ.out.symm, HB.out⟩

set_option maxHeartbeats 1000000 in
theorem containsFuncF_ok (g : Nat) (lb : Array Value) (eg : ∀ args w, (callFunc g args).run Try.prog w = .ok (.enter g args) w) (A : Option Addr) (c : Nat) (fs : List (List Int)) (p : Nat → Bool) (w : World) (hr : (Karr 24).C w A fs.length fs) (hp : PredB Try.prog g lb fs.length (fun k => av (rl fs k)) p w) :
    Calls Try.prog 124 #[.slice A fs.length c, .func (.func g) #[] lb] w fun e w' => e = .returned (.bool (anyB p fs.length)) ∧ Below w.heap.size w w' := by
  have HR := Lib.hid hr
  have HP := Lib.hid hp
  clear hr hp
  have HS := Lib.hid (idx_any p fs.length)
  go_enter Try.func124, Try.ntmps124
  go_wp2_with (go_at_call 139; refine (indexFuncF_ok g lb eg A c fs p w HR.out HP.out).mono ?_; rintro e w' ⟨rfl, hb'⟩)
  go_ret
  exact ⟨ret_bool HS.out, hb'⟩

set_option maxHeartbeats 1000000 in
theorem containsFuncS_ok (g : Nat) (lb : Array Value) (eg : ∀ args w, (callFunc g args).run Try.prog w = .ok (.enter g args) w) (A : Option Addr) (c : Nat) (fs : List (List Int)) (p : Nat → Bool) (w : World) (hr : (Karr 6).C w A fs.length fs) (hp : PredB Try.prog g lb fs.length (fun k => av (rl fs k)) p w) :
    Calls Try.prog 119 #[.slice A fs.length c, .func (.func g) #[] lb] w fun e w' => e = .returned (.bool (anyB p fs.length)) ∧ Below w.heap.size w w' := by
  have HR := Lib.hid hr
  have HP := Lib.hid hp
  clear hr hp
  have HS := Lib.hid (idx_any p fs.length)
  go_enter Try.func119, Try.ntmps119
  go_wp2_with (go_at_call 133; refine (indexFuncS_ok g lb eg A c fs p w HR.out HP.out).mono ?_; rintro e w' ⟨rfl, hb'⟩)
  go_ret
  exact ⟨ret_bool HS.out, hb'⟩

end Go.Proofs.Ytjadhhnajphibaa
namespace Go.Proofs.Ytjadhhnajphibaa
open Go.RowKit Go.Proofs.YtjadhhnajphibaaW.PrintWords

theorem five_six (x : Int) : decide (6 ≤ x) = decide (5 < x) := by rw [Bool.eq_iff_iff]; simp; omega
theorem okF_any {f : List Int} : (!anyB (fun i => decide (6 ≤ rn f i)) f.length) = okF f := by
  rw [allB_not]
  exact allB_congr fun i _ => by rw [five_six]

theorem areSights11_ok (c : Int) (w : World) : Calls Try.prog 122 #[.int .u8 c] w fun e w' => e = .returned (.bool (decide (6 ≤ c))) ∧ w = w' := by
  go_enter Try.func122, Try.ntmps122
  go_wp2
  go_ret
  exact ⟨rfl, rfl⟩

theorem validFlag1_ok (c : Int) (w : World) : Calls Try.prog 127 #[.int .u8 c] w fun e w' => e = .returned (.bool (decide (6 ≤ c))) ∧ w = w' := by
  go_enter Try.func127, Try.ntmps127
  go_wp2
  go_ret
  exact ⟨rfl, rfl⟩


theorem raw_box {w : World} {g t : Nat} {xs : List Int} (h : NB .u8 w g t xs) (hm : xs.length ≤ 9223372036854775807) : Raw w (some ⟨g, 0, none⟩) xs.length (fun k => .int .u8 (rn xs k)) := raw_int (h.nums_read hm)

set_option maxRecDepth 100000 in
set_option maxHeartbeats 2000000 in
theorem areSights1_ok (f : List Int) (hf : f.length = 6) (w : World) : Calls Try.prog 120 #[av f] w fun e w' => e = .returned (.bool (!okF f)) ∧ Below w.heap.size w w' := by
  have HB := Lib.hid (NB.new (kd := .u8) w 72 f)
  have hr := raw_box HB.out (by omega)
  have HP : Hid (PredB Try.prog 122 #[] f.length (fun k => .int .u8 (rn f k)) (fun i => decide (6 ≤ rn f i)) (w.alloc (.cells (nums .u8 f).toArray 72))) := by
    intro k W hk hb
    exact (areSights11_ok (rn f k) W).mono fun e w' ⟨he, hw⟩ => ⟨he, by rw [← hw]; exact Below.refl _ _⟩
  have eg : ∀ args w, (callFunc 122 args).run Try.prog w = .ok (.enter 122 args) w := enters_of Try.func122 (by kernel_rfl) rfl
  have hc := containsFunc8_ok _ _ eg (some ⟨w.heap.size, 0, none⟩) f.length f.length _ _ _ hr HP.out
  rw [hf] at hc
  have HC := Lib.hid hc
  have HS := Lib.hid (okF_any (f := f))
  have HBX := Lib.hid (below_box w (.cells (nums .u8 f).toArray 72))
  have hsz := size_box w (.cells (nums .u8 f).toArray 72)
  have HF := Lib.hid hf
  rw [hf] at HS
  clear hr HP eg hc hf
  unfold av
  go_enter Try.func120, Try.ntmps120
  go_wp2_with (go_at_call 121; refine HC.out.mono ?_; rintro e w' ⟨rfl, hb'⟩)
  go_ret
  exact ⟨ret_bool (by rw [← HS.out, Bool.not_not]), HBX.out.trans (hb'.mono (by rw [hsz]; omega))⟩

set_option maxRecDepth 100000 in
set_option maxHeartbeats 2000000 in
theorem ValidFlag_ok (f : List Int) (hf : f.length = 24) (w : World) : Calls Try.prog 103 #[av f] w fun e w' => e = .returned (.bool (okF f)) ∧ Below w.heap.size w w' := by
  have HB := Lib.hid (NB.new (kd := .u8) w 78 f)
  have hr := raw_box HB.out (by omega)
  have HP : Hid (PredB Try.prog 127 #[] f.length (fun k => .int .u8 (rn f k)) (fun i => decide (6 ≤ rn f i)) (w.alloc (.cells (nums .u8 f).toArray 78))) := by
    intro k W hk hb
    exact (validFlag1_ok (rn f k) W).mono fun e w' ⟨he, hw⟩ => ⟨he, by rw [← hw]; exact Below.refl _ _⟩
  have eg : ∀ args w, (callFunc 127 args).run Try.prog w = .ok (.enter 127 args) w := enters_of Try.func127 (by kernel_rfl) rfl
  have hc := containsFunc8_ok _ _ eg (some ⟨w.heap.size, 0, none⟩) f.length f.length _ _ _ hr HP.out
  rw [hf] at hc
  have HC := Lib.hid hc
  have HS := Lib.hid (okF_any (f := f))
  have HBX := Lib.hid (below_box w (.cells (nums .u8 f).toArray 78))
  have hsz := size_box w (.cells (nums .u8 f).toArray 78)
  have HF := Lib.hid hf
  rw [hf] at HS
  clear hr HP eg hc hf
  unfold av
  go_enter Try.func103, Try.ntmps103
  go_wp2_with (go_at_call 121; refine HC.out.mono ?_; rintro e w' ⟨rfl, hb'⟩)
  go_ret
  exact ⟨ret_bool (HS.out), HBX.out.trans (hb'.mono (by rw [hsz]; omega))⟩


set_option maxRecDepth 100000 in
set_option maxHeartbeats 2000000 in
theorem setCode1_ok (f : List Int) (hf : f.length = 24) (w : World) : Calls Try.prog 125 #[av f] w fun e w' => e = .returned (.bool (!okF f)) ∧ Below w.heap.size w w' := by
  have HB := Lib.hid (NB.new (kd := .u8) w 78 f)
  have HC := Lib.hid (ValidFlag_ok f hf (w.alloc (.cells (nums .u8 f).toArray 78)))
  have HBX := Lib.hid (below_box w (.cells (nums .u8 f).toArray 78))
  have HF := Lib.hid hf
  have hsz := size_box w (.cells (nums .u8 f).toArray 78)
  clear hf
  unfold av at HC
  unfold av
  go_enter Try.func125, Try.ntmps125
  go_wp2_with (first | (refine load_agg rfl 78 (.tmp 1) rfl ⟨w.heap.size, 0, none⟩ rfl (nums .u8 f) _ HB.out.range Try.underlying78 rfl (by rw [nums_length, HF.out]; exact ainfo_flag) ?_) | (go_at_call 103; refine HC.out.mono ?_; rintro e w' ⟨rfl, hb'⟩))
  go_ret
  exact ⟨rfl, HBX.out.trans (hb'.mono (by rw [hsz]; omega))⟩

def okFs (fs : List (List Int)) : Bool := allB (fun i => okF (rl fs i)) fs.length
theorem badFlags_ok (A : Option Addr) (c : Nat) (fs : List (List Int)) (w : World) (h0 : (Karr 24).C w A fs.length fs) (eg : ∀ args w, (callFunc 125 args).run Try.prog w = .ok (.enter 125 args) w := enters_of Try.func125 (by kernel_rfl) rfl) :
    Calls Try.prog 124 #[.slice A fs.length c, .func (.func 125) #[] #[]] w fun e w' => e = .returned (.bool (!okFs fs)) ∧ Below w.heap.size w w' := by
  have HP : PredB Try.prog 125 #[] fs.length (fun k => av (rl fs k)) (fun i => !okF (rl fs i)) w := by
    intro k W hk hb
    exact setCode1_ok (rl fs k) ((C_lens h0).2 k hk) W
  have hc := containsFuncF_ok _ _ eg A c fs _ _ h0 HP
  have hs : anyB (fun i => !okF (rl fs i)) fs.length = !okFs fs := by
    have h1 : (!anyB (fun i => !okF (rl fs i)) fs.length) = okFs fs := by
      rw [allB_not]
      unfold okFs
      exact allB_congr fun i _ => by rw [Bool.not_not]
    rw [← h1, Bool.not_not]
  rwa [hs] at hc

theorem badSights_ok (A : Option Addr) (c : Nat) (fs : List (List Int)) (w : World) (h0 : (Karr 6).C w A fs.length fs) (eg : ∀ args w, (callFunc 120 args).run Try.prog w = .ok (.enter 120 args) w := enters_of Try.func120 (by kernel_rfl) rfl) :
    Calls Try.prog 119 #[.slice A fs.length c, .func (.func 120) #[] #[]] w fun e w' => e = .returned (.bool (!okS fs)) ∧ Below w.heap.size w w' := by
  have HP : PredB Try.prog 120 #[] fs.length (fun k => av (rl fs k)) (fun i => !okF (rl fs i)) w := by
    intro k W hk hb
    exact areSights1_ok (rl fs k) ((C_lens h0).2 k hk) W
  have hc := containsFuncS_ok _ _ eg A c fs _ _ h0 HP
  have hs : anyB (fun i => !okF (rl fs i)) fs.length = !okS fs := by
    have h1 : (!anyB (fun i => !okF (rl fs i)) fs.length) = okS fs := by
      rw [allB_not]
      unfold okS
      exact allB_congr fun i _ => by rw [Bool.not_not]
    rw [← h1, Bool.not_not]
  rwa [hs] at hc


set_option maxHeartbeats 2000000 in
theorem areSights_ok (A : Option Addr) (c : Nat) (ss : List (List Int)) (w : World) (h0 : (Karr 6).C w A ss.length ss) :
    Calls Try.prog 93 #[.slice A ss.length c] w fun e w' => e = .returned (.bool (okS ss)) ∧ Below w.heap.size w w' := by
  have HC := Lib.hid (badSights_ok A c ss w h0)
  clear h0
  go_enter Try.func93, Try.ntmps93
  go_wp2_with (go_at_call 119; refine HC.out.mono ?_; rintro e w' ⟨rfl, hb'⟩)
  go_ret
  exact ⟨rfl, hb'⟩

theorem sizeFlag_ok (A0 : Option Addr) (c0 n : Nat) (w : World) (hn : n ≤ 9223372036854775807) : Calls Try.prog 99 #[.slice A0 n c0] w fun e w' => e = .returned (.int .i64 n) ∧ w = w' := by
  go_enter Try.func99, Try.ntmps99
  go_wp2
  go_ret
  exact ⟨rfl, rfl⟩

def setV (fs : List (List Int)) (least : Int) : Int := if okFs fs then (if 40 < fs.length then 3 else unlessV (inB least 0 6) 2) else 1
set_option maxHeartbeats 2000000 in
theorem setCode_ok (A : Option Addr) (c : Nat) (fs : List (List Int)) (least : Int) (w : World) (h0 : (Karr 24).C w A fs.length fs) :
    Calls Try.prog 97 #[.slice A fs.length c, .int .i64 least] w fun e w' => e = .returned (.int .i64 (setV fs least)) ∧ Below w.heap.size w w' := by
  have hm : fs.length ≤ 9223372036854775807 := h0.2.1
  have HC := Lib.hid (badFlags_ok A c fs w h0)
  have HV : Hid (setV fs least = if okFs fs then (if 40 < fs.length then 3 else unlessV (inB least 0 6) 2) else 1) := rfl
  clear h0
  rcases ho : okFs fs with _ | _
  · have HS := Lib.hid (show setV fs least = 1 by rw [HV.out, ho]; rfl)
    rw [ho] at HC
    clear ho
    go_enter Try.func97, Try.ntmps97
    go_wp2_with (go_at_call 124; refine HC.out.mono ?_; rintro e w' ⟨rfl, hb'⟩)
    go_ret
    exact ⟨ret_int HS.out.symm, hb'⟩
  · rw [ho] at HC
    by_cases h4 : 40 < fs.length
    · have HS := Lib.hid (show setV fs least = 3 by rw [HV.out, ho]; simp [h4])
      have h4i : (40 : Int) < (fs.length : Int) := by omega
      clear ho
      go_enter Try.func97, Try.ntmps97
      go_wp2_with (go_at_call 124; refine HC.out.mono ?_; rintro e w' ⟨rfl, hb'⟩)
      go_ret
      exact ⟨ret_int HS.out.symm, hb'⟩
    · have HS := Lib.hid (show setV fs least = unlessV (inB least 0 6) 2 by rw [HV.out, ho]; simp [h4])
      have h4i : ¬ (40 : Int) < (fs.length : Int) := by omega
      clear ho
      go_enter Try.func97, Try.ntmps97
      go_wp2_with (first | (go_at_call 124; refine HC.out.mono ?_; rintro e w' ⟨rfl, hb'⟩) | (go_at_call 54; refine (within_ok _ _ _ _).mono ?_; rintro e w' ⟨rfl, rfl⟩) | (go_at_call 53; refine (unless_ok _ _ _).mono ?_; rintro e w' ⟨rfl, rfl⟩))
      go_ret
      exact ⟨ret_int HS.out.symm, hb'⟩
end Go.Proofs.Ytjadhhnajphibaa
namespace Go.Proofs.Ytjadhhnajphibaa
open Go.RowKit Go.Proofs.YtjadhhnajphibaaW.PrintWords

/-- the worlds that come of w, what lies below B being as it was. -/
def Fam (B : Nat) (w : World) : Type := { W : World // Below B w W }
def Fam.at {B : Nat} {w : World} (n : Fam B w) : World := n.1
theorem Fam.below {B : Nat} {w : World} (n : Fam B w) : Below B w n.at := n.2
theorem fam_ne (B : Nat) (w : World) : Nonempty (Fam B w) := ⟨⟨w, Below.refl _ _⟩⟩
theorem fam_mk {B : Nat} {w W : World} (h : Below B w W) : ∃ n : Fam B w, W = n.at := ⟨⟨W, h⟩, rfl⟩
theorem wp_region_fam {P : Program} {id : Nat} {Q : Exit → Act → World → Prop} {a : Act} {w : World} {l : List Oper} (B : Nat) (w0 : World) (hb : Below B w0 w) (hm : P.follows .mixedOrders = true) (hB : Region.lexB .any l.toArray = true)
    (h : wpQuiet P l.toArray (fun w' => ∃ n : Fam B w0, w' = n.at) (fun a' => ∀ w', (∃ n : Fam B w0, w' = n.at) → Q .normal a' w') l a) : (Code.region id l.toArray true).wp P Q a w :=
  wp_region_quiet (C := fun w' => ∃ n : Fam B w0, w' = n.at) hm hB (fam_mk (below_one hb)) (by simpa using h)
theorem fam_call {P : Program} {f : FuncId} {args : Array Value} {B : Nat} {w0 : World} {n : Fam B w0} {v : Value} (hB : B ≤ w0.heap.size)
    (h : Calls P f args n.at fun e w' => e = .returned v ∧ Below n.at.heap.size n.at w') : Calls P f args n.at fun e w'' => e = .returned v ∧ ∃ m : Fam B w0, w'' = m.at :=
  h.mono fun _ _ ⟨he, hb⟩ => ⟨he, fam_mk (n.below.trans (hb.mono (Nat.le_trans hB n.below.size)))⟩
theorem fam_same {P : Program} {f : FuncId} {args : Array Value} {B : Nat} {w0 : World} {n : Fam B w0} {v : Value}
    (h : Calls P f args n.at fun e w' => e = .returned v ∧ n.at = w') : Calls P f args n.at fun e w'' => e = .returned v ∧ ∃ m : Fam B w0, w'' = m.at :=
  h.mono fun _ _ ⟨he, hb⟩ => ⟨he, n, hb.symm⟩
theorem fam_drew {P : Program} {f : FuncId} {args : Array Value} {B : Nat} {w0 : World} {n : Fam B w0} {v : Value}
    (h : Calls P f args n.at fun e w' => e = .returned v ∧ ∃ q, w' = n.at.drewN q) : Calls P f args n.at fun e w'' => e = .returned v ∧ ∃ m : Fam B w0, w'' = m.at :=
  h.mono fun _ _ ⟨he, q, hq⟩ => ⟨he, by rw [hq]; exact fam_mk (below_dN n.below q)⟩
theorem fam_cell {B : Nat} {w0 : World} {p : Addr} {v : Value} (hB : w0.heap.size ≤ B) (h : w0.cell? p = some v) (n : Fam B w0) : n.at.cell? p = some v :=
  (n.below.cell (Nat.lt_of_lt_of_le (cell_lt h) hB)).trans h
theorem fam_C {α : Type} {d : Kd α} {w0 : World} {A : Option Addr} {m : Nat} {xs : List α} (h : d.C w0 A m xs) (n : Fam w0.heap.size w0) : d.C n.at A m xs := C_below' h n.below
end Go.Proofs.Ytjadhhnajphibaa
