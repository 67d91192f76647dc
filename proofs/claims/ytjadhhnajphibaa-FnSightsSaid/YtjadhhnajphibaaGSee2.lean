/- Contracts of functions and plain lemmas that the row stands on: Flags that are made of colours: the reference's. Flags that are drawn: the reference's. A flag that is drawn. No conditions beyond those that each theorem names. -/
import Derived.Test.YtjadhhnajphibaaGSee1
import Derived.Test.YtjadhhnajphibaaS1
set_option linter.unusedVariables false
set_option linter.unusedSimpArgs false
namespace Go.Proofs.Ytjadhhnajphibaa
open Go.RowKit Go.Proofs.YtjadhhnajphibaaW.PrintWords

/-- the 24 colours of a flag. -/
def Fl (xs : List Int) : Prop := xs.length = 24 ∧ ∀ i, 0 ≤ rn xs i ∧ rn xs i ≤ 5
theorem Fl.len {xs : List Int} (h : Fl xs) : xs.length = 24 := h.1
theorem rn_set (xs : List Int) (k i : Nat) (v : Int) : rn (xs.set k v) i = if k = i ∧ k < xs.length then v else rn xs i := by
  simp only [rn, List.getD_eq_getElem?_getD, List.getElem?_set]
  by_cases h : k = i
  · subst h
    by_cases h2 : k < xs.length
    · simp [h2]
    · simp [h2]
  · simp [h]
theorem Fl.set {xs : List Int} (h : Fl xs) (k : Nat) {v : Int} (h0 : 0 ≤ v) (h5 : v ≤ 5) : Fl (xs.set k v) := by
  refine ⟨by rw [List.length_set]; exact h.1, fun i => ?_⟩
  rw [rn_set]
  split
  · exact ⟨h0, h5⟩
  · exact h.2 i
theorem Fl.zero : Fl (List.replicate 24 0) := ⟨by simp, fun i => by rw [rn_rep]; omega⟩
theorem Fl.ok {xs : List Int} (h : Fl xs) : okF xs = true := okF_yes fun j _ => by
  rw [decide_eq_false_iff_not]
  have := (h.2 j).2
  omega
theorem results_cell_tmp {P : Program} {fn : Func} {p q : Tmp} {ty : TypeId} (h : fn.results = #[.cell p ty, .tmp q]) (tmps : Array Value) (w : World) (g : Nat) (t : TypeId) (cs : Array Value) (fr : Nat × Nat) (d : TypeDesc)
    (hp : tmps.getD p undef = .pointer (some ⟨g, 0, none⟩)) (hg : w.heap[g]? = some (.cells cs t fr))
    (hu : P.underlying ty = some d) (hd : (match d with | .struct _ | .array _ _ => true | _ => false) = true) (hi : (P.info? ty).map (·.size) = some cs.size) :
    (results fn tmps).run P w = .ok (.tuple #[.agg cs, tmps.getD q undef]) w := by
  have hp' : tmps[p]?.getD undef = .pointer (some ⟨g, 0, none⟩) := by simpa using hp
  simp [results, h, hp', asAddr, run_loadVar_row w g t ty cs fr d hg hu hd hi]

theorem zero_there (W : World) (t b : Nat) (h : W.heap.size = b) : (W.alloc (.cells #[.int .u8 0, .int .u8 0, .int .u8 0, .int .u8 0, .int .u8 0, .int .u8 0, .int .u8 0, .int .u8 0, .int .u8 0, .int .u8 0, .int .u8 0, .int .u8 0, .int .u8 0, .int .u8 0, .int .u8 0, .int .u8 0, .int .u8 0, .int .u8 0, .int .u8 0, .int .u8 0, .int .u8 0, .int .u8 0, .int .u8 0, .int .u8 0] t)).there b 0 24 := by
  subst h
  rw [nums_zero24]
  have h1 := (NB.new (kd := .u8) W t (List.replicate 24 0)).there
  simpa using h1
theorem zero_over (W : World) (t b : Nat) (h : W.heap.size = b) : NB .u8 ((W.alloc (.cells #[.int .u8 0, .int .u8 0, .int .u8 0, .int .u8 0, .int .u8 0, .int .u8 0, .int .u8 0, .int .u8 0, .int .u8 0, .int .u8 0, .int .u8 0, .int .u8 0, .int .u8 0, .int .u8 0, .int .u8 0, .int .u8 0, .int .u8 0, .int .u8 0, .int .u8 0, .int .u8 0, .int .u8 0, .int .u8 0, .int .u8 0, .int .u8 0] t)).setCells b 0 (#[.int .u8 0, .int .u8 0, .int .u8 0, .int .u8 0, .int .u8 0, .int .u8 0, .int .u8 0, .int .u8 0, .int .u8 0, .int .u8 0, .int .u8 0, .int .u8 0, .int .u8 0, .int .u8 0, .int .u8 0, .int .u8 0, .int .u8 0, .int .u8 0, .int .u8 0, .int .u8 0, .int .u8 0, .int .u8 0, .int .u8 0, .int .u8 0] : Array Value).toList) b t (List.replicate 24 0) := by
  subst h
  rw [nums_zero24]
  exact (NB.new (kd := .u8) W t (List.replicate 24 0)).over rfl
theorem zero_all : (#[.int .u8 0, .int .u8 0, .int .u8 0, .int .u8 0, .int .u8 0, .int .u8 0, .int .u8 0, .int .u8 0, .int .u8 0, .int .u8 0, .int .u8 0, .int .u8 0, .int .u8 0, .int .u8 0, .int .u8 0, .int .u8 0, .int .u8 0, .int .u8 0, .int .u8 0, .int .u8 0, .int .u8 0, .int .u8 0, .int .u8 0, .int .u8 0] : Array Value).all (·.oneCell') = true := by
  rw [nums_zero24]
  exact all_oneCell_toArray (nums_one _ _)
theorem zero_store {ops : Array Oper} {rest : List Oper} {op : Oper} {a : Act} {Q : Exit → Act → World → Prop} (hgd : op.guard = none) (x y : Operand) (ho : op.op = .store 78 x y)
    (W : World) (b : Nat) (hb : W.heap.size + 1 = b) (hx : a.eval x = .pointer (some ⟨b, 0, none⟩)) (hy : a.eval y = .agg #[.int .u8 0, .int .u8 0, .int .u8 0, .int .u8 0, .int .u8 0, .int .u8 0, .int .u8 0, .int .u8 0, .int .u8 0, .int .u8 0, .int .u8 0, .int .u8 0, .int .u8 0, .int .u8 0, .int .u8 0, .int .u8 0, .int .u8 0, .int .u8 0, .int .u8 0, .int .u8 0, .int .u8 0, .int .u8 0, .int .u8 0, .int .u8 0])
    (h : ∀ (W' : World) (zs : List Int), Hid (Fl zs) → Hid (NB .u8 W' W.heap.size 78 zs) → Hid (NB .u8 W' b 78 zs) → Hid (Below W.heap.size W W') → wpList Try.prog ops Q rest (a.put op.dst undef) W') :
    wpList Try.prog ops Q (op :: rest) a ((W.alloc (.cells #[.int .u8 0, .int .u8 0, .int .u8 0, .int .u8 0, .int .u8 0, .int .u8 0, .int .u8 0, .int .u8 0, .int .u8 0, .int .u8 0, .int .u8 0, .int .u8 0, .int .u8 0, .int .u8 0, .int .u8 0, .int .u8 0, .int .u8 0, .int .u8 0, .int .u8 0, .int .u8 0, .int .u8 0, .int .u8 0, .int .u8 0, .int .u8 0] 78)).alloc (.cells #[.int .u8 0, .int .u8 0, .int .u8 0, .int .u8 0, .int .u8 0, .int .u8 0, .int .u8 0, .int .u8 0, .int .u8 0, .int .u8 0, .int .u8 0, .int .u8 0, .int .u8 0, .int .u8 0, .int .u8 0, .int .u8 0, .int .u8 0, .int .u8 0, .int .u8 0, .int .u8 0, .int .u8 0, .int .u8 0, .int .u8 0, .int .u8 0] 78)) := by
  have hs := size_box W (.cells #[.int .u8 0, .int .u8 0, .int .u8 0, .int .u8 0, .int .u8 0, .int .u8 0, .int .u8 0, .int .u8 0, .int .u8 0, .int .u8 0, .int .u8 0, .int .u8 0, .int .u8 0, .int .u8 0, .int .u8 0, .int .u8 0, .int .u8 0, .int .u8 0, .int .u8 0, .int .u8 0, .int .u8 0, .int .u8 0, .int .u8 0, .int .u8 0] 78)
  rw [hb] at hs
  refine wpList_store_mid hgd 78 x y ho b 0 _ hx hy (zero_there _ _ _ hs) ainfo_flag zero_all (h _ (List.replicate 24 0) Fl.zero ?_ (zero_over _ _ _ hs) (setCells_below (below_alloc (below_box _ _) _) (by omega) _ _))
  refine (setCells_far _ 0 _ (by omega)).trans ?_
  have hn0 := (NB.new (kd := .u8) W 78 (List.replicate 24 0)).alloc (.cells (nums .u8 (List.replicate 24 0)).toArray 78)
  rw [← nums_zero24] at hn0
  exact hn0

theorem l01Colour_ok (a : Int) (w : World) : Calls Try.prog 140 #[.int .i64 a] w fun e w' => e = .returned (.bool (inB a 0 5)) ∧ w = w' := by
  go_enter Try.func140, Try.ntmps140
  go_wp2_with (go_at_call 62; refine (l00In_ok _ _ _ _).mono ?_; rintro e w' ⟨rfl, rfl⟩)
  go_ret
  exact ⟨rfl, rfl⟩

set_option maxRecDepth 100000 in
set_option maxHeartbeats 4000000 in
theorem PlainFlag_ok (a : Int) (h0 : 0 ≤ a) (h5 : a ≤ 5) (w : World) : Calls Try.prog 136 #[.int .i64 a] w fun e w' => ∃ xs, Fl xs ∧ e = .returned (.tuple #[av xs, .int .i64 0]) ∧ Below w.heap.size w w' := by
  have HI := Lib.hid (inB_yes h0 h5)
  unfold av
  go_enter Try.func136, Try.ntmps136
  go_wp2_with (first | (refine zero_store rfl (.tmp 4) (.tmp 6) rfl w (w.heap.size + 1) rfl rfl rfl ?_; intro W0 zs HZ H0 H1 HB0) | (go_at_call 140; refine (l01Colour_ok _ _).mono ?_; rintro e w' ⟨rfl, rfl⟩; rw [HI.out]))
  go_loopw [5] (fun i wr => ∃ (k : Nat) (xs : List Int), k ≤ 24 ∧ i = .int .i64 k ∧ Hid (Fl xs) ∧ Hid (NB .u8 wr w.heap.size 78 zs) ∧ Hid (NB .u8 wr (w.heap.size + 1) 78 xs) ∧ Hid (Below w.heap.size w wr)) (fun i _ => 24 - (intOf i).toNat)
  case atStart => exact ⟨0, _, by omega, rfl, HZ, H0, H1, HB0⟩
  case round =>
    clear H0 H1 HB0
    obtain ⟨k, xs, hk, rfl, HF, H0, HN, HB⟩ := hrel
    by_cases hlt : k < 24
    · have hlti : (k : Int) < 24 := by omega
      have hc := HN.out.cell (i := k) (by rw [HF.out.len]; exact hlt)
      have hf := HN.out.frozen k
      go_wp2
      go_roundw
      case rel => exact ⟨k + 1, _, by omega, by go_num, HF.out.set k h0 h5, H0.out.far (by simp) _, HN.out.set k _, set_below HB.out (by simp) _⟩
      case measure => first|(simp [intOf]; done)|(simp [intOf]; omega)
    · obtain rfl : k = 24 := by omega
      go_wp2_with (first | (refine load_agg rfl 78 (.tmp 4) rfl ⟨w.heap.size + 1, 0, none⟩ rfl (nums .u8 xs) _ HN.out.range Try.underlying78 rfl (by rw [nums_length, HF.out.len]; exact ainfo_flag) ?_) | (refine wpList_store_mid rfl 78 (.tmp 2) (.tmp 19) rfl w.heap.size 0 (nums .u8 xs).toArray rfl rfl (by simpa [nums, HF.out.len, HZ.out.len] using H0.out.there) (by simp only [List.size_toArray, nums_length, HF.out.len]; exact ainfo_flag) (all_oneCell_toArray (nums_one _ _)) ?_)); have hw := H0.out.over (ys := xs) (by rw [HF.out.len, HZ.out.len]); exact bodyPost_ret (results_cell_tmp rfl _ _ w.heap.size 78 (nums .u8 xs).toArray (0, 0) _ rfl hw Try.underlying78 rfl (by simp only [List.size_toArray, nums_length, HF.out.len]; exact ainfo_flag)) rfl ⟨xs, HF.out, rfl, setCells_below HB.out (by omega) _ _⟩

set_option maxRecDepth 100000 in
set_option maxHeartbeats 8000000 in
theorem l01Made_ok (a b kd : Int) (h0 : 0 ≤ a) (h5 : a ≤ 5) (h0' : 0 ≤ b) (h5' : b ≤ 5) (w : World) : Calls Try.prog 135 #[.int .i64 a, .int .i64 b, .int .i64 kd] w fun e w' => ∃ xs, Fl xs ∧ e = .returned (.tuple #[av xs, .int .i64 0]) ∧ Below w.heap.size w w' := by
  have HI := Lib.hid (inB_yes h0 h5)
  have HI' := Lib.hid (inB_yes h0' h5')
  unfold av
  go_enter Try.func135, Try.ntmps135
  go_wp2_with (first | (refine zero_store rfl (.tmp 8) (.tmp 13) rfl w (w.heap.size + 1) rfl rfl rfl ?_; intro W0 zs HZ H0 H1 HB0) | (go_at_call 140; refine (l01Colour_ok _ _).mono ?_; rintro e w' ⟨rfl, rfl⟩; first | rw [HI.out] | rw [HI'.out]))
  go_loopw [9, 10, 11, 12] (fun i _ _ _ wr => ∃ (k : Nat) (xs : List Int), k ≤ 24 ∧ i = .int .i64 k ∧ Hid (Fl xs) ∧ Hid (NB .u8 wr w.heap.size 78 zs) ∧ Hid (NB .u8 wr (w.heap.size + 1) 78 xs) ∧ Hid (Below w.heap.size w wr)) (fun i _ _ _ _ => 24 - (intOf i).toNat)
  case atStart => exact ⟨0, _, by omega, rfl, HZ, H0, H1, HB0⟩
  case round =>
    clear H0 H1 HB0
    obtain ⟨k, xs, hk, rfl, HF, H0, HN, HB⟩ := hrel
    by_cases hlt : k < 24
    · have hlti : (k : Int) < 24 := by omega
      have hl0 : k < xs.length := by rw [HF.out.len]; exact hlt
      have hc := HN.out.cell hl0
      have hf := HN.out.frozen k
      clear hl0
      obtain ⟨x, hx⟩ : ∃ x : Nat, (k : Int) % 6 = x := ⟨k % 6, by omega⟩
      obtain ⟨y, hy⟩ : ∃ y : Nat, (k : Int) / 6 = y := ⟨k / 6, by omega⟩
      have hx5 : x ≤ 5 := by omega
      have hy3 : y ≤ 3 := by omega
      rcases k0 : (kd == 0) with _ | _
      rotate_left
      · rcases e1 : ((x : Int) == 2) with _ | _
        · rcases e2 : ((x : Int) == 3) with _ | _
          · rcases e3 : ((y : Int) == 1) with _ | _
            · rcases e4 : ((y : Int) == 2) with _ | _
              · go_wp2
                go_roundw
                case rel => first | exact ⟨k + 1, _, by omega, by go_num, HF.out.set k h0 h5, H0.out.far (by simp) _, HN.out.set k _, set_below HB.out (by simp) _⟩ | exact ⟨k + 1, _, by omega, by go_num, (HF.out.set k h0 h5).set k h0' h5', (H0.out.far (by simp) _).far (by simp) _, (HN.out.set k _).set k _, set_below (set_below HB.out (by simp) _) (by simp) _⟩
                case measure => first|(simp [intOf]; done)|(simp [intOf]; omega)
              · go_wp2
                go_roundw
                case rel => first | exact ⟨k + 1, _, by omega, by go_num, HF.out.set k h0 h5, H0.out.far (by simp) _, HN.out.set k _, set_below HB.out (by simp) _⟩ | exact ⟨k + 1, _, by omega, by go_num, (HF.out.set k h0 h5).set k h0' h5', (H0.out.far (by simp) _).far (by simp) _, (HN.out.set k _).set k _, set_below (set_below HB.out (by simp) _) (by simp) _⟩
                case measure => first|(simp [intOf]; done)|(simp [intOf]; omega)
            · go_wp2
              go_roundw
              case rel => first | exact ⟨k + 1, _, by omega, by go_num, HF.out.set k h0 h5, H0.out.far (by simp) _, HN.out.set k _, set_below HB.out (by simp) _⟩ | exact ⟨k + 1, _, by omega, by go_num, (HF.out.set k h0 h5).set k h0' h5', (H0.out.far (by simp) _).far (by simp) _, (HN.out.set k _).set k _, set_below (set_below HB.out (by simp) _) (by simp) _⟩
              case measure => first|(simp [intOf]; done)|(simp [intOf]; omega)
          · go_wp2
            go_roundw
            case rel => first | exact ⟨k + 1, _, by omega, by go_num, HF.out.set k h0 h5, H0.out.far (by simp) _, HN.out.set k _, set_below HB.out (by simp) _⟩ | exact ⟨k + 1, _, by omega, by go_num, (HF.out.set k h0 h5).set k h0' h5', (H0.out.far (by simp) _).far (by simp) _, (HN.out.set k _).set k _, set_below (set_below HB.out (by simp) _) (by simp) _⟩
            case measure => first|(simp [intOf]; done)|(simp [intOf]; omega)
        · go_wp2
          go_roundw
          case rel => first | exact ⟨k + 1, _, by omega, by go_num, HF.out.set k h0 h5, H0.out.far (by simp) _, HN.out.set k _, set_below HB.out (by simp) _⟩ | exact ⟨k + 1, _, by omega, by go_num, (HF.out.set k h0 h5).set k h0' h5', (H0.out.far (by simp) _).far (by simp) _, (HN.out.set k _).set k _, set_below (set_below HB.out (by simp) _) (by simp) _⟩
          case measure => first|(simp [intOf]; done)|(simp [intOf]; omega)
      · rcases k1 : (kd == 1) with _ | _
        rotate_left
        · rcases e1 : ((x : Int) == 0) with _ | _
          · rcases e2 : ((x : Int) == 5) with _ | _
            · rcases e3 : ((y : Int) == 0) with _ | _
              · rcases e4 : ((y : Int) == 3) with _ | _
                · go_wp2
                  go_roundw
                  case rel => first | exact ⟨k + 1, _, by omega, by go_num, HF.out.set k h0 h5, H0.out.far (by simp) _, HN.out.set k _, set_below HB.out (by simp) _⟩ | exact ⟨k + 1, _, by omega, by go_num, (HF.out.set k h0 h5).set k h0' h5', (H0.out.far (by simp) _).far (by simp) _, (HN.out.set k _).set k _, set_below (set_below HB.out (by simp) _) (by simp) _⟩
                  case measure => first|(simp [intOf]; done)|(simp [intOf]; omega)
                · go_wp2
                  go_roundw
                  case rel => first | exact ⟨k + 1, _, by omega, by go_num, HF.out.set k h0 h5, H0.out.far (by simp) _, HN.out.set k _, set_below HB.out (by simp) _⟩ | exact ⟨k + 1, _, by omega, by go_num, (HF.out.set k h0 h5).set k h0' h5', (H0.out.far (by simp) _).far (by simp) _, (HN.out.set k _).set k _, set_below (set_below HB.out (by simp) _) (by simp) _⟩
                  case measure => first|(simp [intOf]; done)|(simp [intOf]; omega)
              · go_wp2
                go_roundw
                case rel => first | exact ⟨k + 1, _, by omega, by go_num, HF.out.set k h0 h5, H0.out.far (by simp) _, HN.out.set k _, set_below HB.out (by simp) _⟩ | exact ⟨k + 1, _, by omega, by go_num, (HF.out.set k h0 h5).set k h0' h5', (H0.out.far (by simp) _).far (by simp) _, (HN.out.set k _).set k _, set_below (set_below HB.out (by simp) _) (by simp) _⟩
                case measure => first|(simp [intOf]; done)|(simp [intOf]; omega)
            · go_wp2
              go_roundw
              case rel => first | exact ⟨k + 1, _, by omega, by go_num, HF.out.set k h0 h5, H0.out.far (by simp) _, HN.out.set k _, set_below HB.out (by simp) _⟩ | exact ⟨k + 1, _, by omega, by go_num, (HF.out.set k h0 h5).set k h0' h5', (H0.out.far (by simp) _).far (by simp) _, (HN.out.set k _).set k _, set_below (set_below HB.out (by simp) _) (by simp) _⟩
              case measure => first|(simp [intOf]; done)|(simp [intOf]; omega)
          · go_wp2
            go_roundw
            case rel => first | exact ⟨k + 1, _, by omega, by go_num, HF.out.set k h0 h5, H0.out.far (by simp) _, HN.out.set k _, set_below HB.out (by simp) _⟩ | exact ⟨k + 1, _, by omega, by go_num, (HF.out.set k h0 h5).set k h0' h5', (H0.out.far (by simp) _).far (by simp) _, (HN.out.set k _).set k _, set_below (set_below HB.out (by simp) _) (by simp) _⟩
            case measure => first|(simp [intOf]; done)|(simp [intOf]; omega)
        · rcases k2 : (kd == 2) with _ | _
          · go_wp2
            go_roundw
            case rel => first | exact ⟨k + 1, _, by omega, by go_num, HF.out.set k h0 h5, H0.out.far (by simp) _, HN.out.set k _, set_below HB.out (by simp) _⟩ | exact ⟨k + 1, _, by omega, by go_num, (HF.out.set k h0 h5).set k h0' h5', (H0.out.far (by simp) _).far (by simp) _, (HN.out.set k _).set k _, set_below (set_below HB.out (by simp) _) (by simp) _⟩
            case measure => first|(simp [intOf]; done)|(simp [intOf]; omega)
          · rcases e1 : (((x : Int) + (y : Int)) % 2 == 1) with _ | _
            · go_wp2
              go_roundw
              case rel => first | exact ⟨k + 1, _, by omega, by go_num, HF.out.set k h0 h5, H0.out.far (by simp) _, HN.out.set k _, set_below HB.out (by simp) _⟩ | exact ⟨k + 1, _, by omega, by go_num, (HF.out.set k h0 h5).set k h0' h5', (H0.out.far (by simp) _).far (by simp) _, (HN.out.set k _).set k _, set_below (set_below HB.out (by simp) _) (by simp) _⟩
              case measure => first|(simp [intOf]; done)|(simp [intOf]; omega)
            · go_wp2
              go_roundw
              case rel => first | exact ⟨k + 1, _, by omega, by go_num, HF.out.set k h0 h5, H0.out.far (by simp) _, HN.out.set k _, set_below HB.out (by simp) _⟩ | exact ⟨k + 1, _, by omega, by go_num, (HF.out.set k h0 h5).set k h0' h5', (H0.out.far (by simp) _).far (by simp) _, (HN.out.set k _).set k _, set_below (set_below HB.out (by simp) _) (by simp) _⟩
              case measure => first|(simp [intOf]; done)|(simp [intOf]; omega)
    · obtain rfl : k = 24 := by omega
      go_wp2_with (first | (refine load_agg rfl 78 (.tmp 8) rfl ⟨w.heap.size + 1, 0, none⟩ rfl (nums .u8 xs) _ HN.out.range Try.underlying78 rfl (by rw [nums_length, HF.out.len]; exact ainfo_flag) ?_) | (refine wpList_store_mid rfl 78 (.tmp 6) (.tmp 80) rfl w.heap.size 0 (nums .u8 xs).toArray rfl rfl (by simpa [nums, HF.out.len, HZ.out.len] using H0.out.there) (by simp only [List.size_toArray, nums_length, HF.out.len]; exact ainfo_flag) (all_oneCell_toArray (nums_one _ _)) ?_)); have hw := H0.out.over (ys := xs) (by rw [HF.out.len, HZ.out.len]); exact bodyPost_ret (results_cell_tmp rfl _ _ w.heap.size 78 (nums .u8 xs).toArray (0, 0) _ rfl hw Try.underlying78 rfl (by simp only [List.size_toArray, nums_length, HF.out.len]; exact ainfo_flag)) rfl ⟨xs, HF.out, rfl, setCells_below HB.out (by omega) _ _⟩
end Go.Proofs.Ytjadhhnajphibaa
namespace Go.Proofs.Ytjadhhnajphibaa
open Go.RowKit Go.Proofs.YtjadhhnajphibaaW.PrintWords

set_option maxRecDepth 100000 in
set_option maxHeartbeats 8000000 in
theorem StripesOf_ok (A : Option Addr) (c : Nat) (cs : List Int) (up : Bool) (w : World) (hC : (Kd.int .i64).C w A 3 cs) (hx : ∀ i, i < 3 → 0 ≤ rn cs i ∧ rn cs i ≤ 5) :
    Calls Try.prog 137 #[.slice A 3 c, .bool up] w fun e w' => ∃ xs, Fl xs ∧ e = .returned (.tuple #[av xs, .int .i64 0]) ∧ Below w.heap.size w w' := by
  have HC := Lib.hid hC
  have HX := Lib.hid hx
  clear hC hx
  unfold av
  rcases up with _ | _
  · have HI : Hid (inB 3 1 4 = true) := rfl
    go_enter Try.func137, Try.ntmps137
    go_wp2_with (first | (refine zero_store rfl (.tmp 6) (.tmp 13) rfl w (w.heap.size + 1) rfl rfl rfl ?_; intro W0 zs HZ H0 H1 HB0) | (go_at_call 62; refine (l00In_ok _ _ _ _).mono ?_; rintro e w' ⟨rfl, rfl⟩; rw [HI.out]))
    have HCW := Lib.hid (C_below' HC.out HB0.out)
    go_loop [9, 10] (fun ok i => ∃ k : Nat, k ≤ 3 ∧ i = .int .i64 k ∧ ok = .bool true) (fun _ i => 3 - (intOf i).toNat)
    case atStart => exact ⟨0, by omega, rfl, rfl⟩
    case round =>
      obtain ⟨k, hk, rfl, rfl⟩ := hrel
      by_cases hlt : k < 3
      · obtain ⟨ad, rfl, hx0⟩ := at_nat HCW.out hlt
        have hlti : (k : Int) < 3 := by omega
        have HV := Lib.hid (inB_yes (HX.out k hlt).1 (HX.out k hlt).2)
        go_wp2_with (go_at_call 140; refine (l01Colour_ok _ _).mono ?_; rintro e w' ⟨rfl, rfl⟩; rw [HV.out])
        go_round
        case rel => exact ⟨k + 1, by omega, by go_num, rfl⟩
        case measure => first|(simp [intOf]; done)|(simp [intOf]; omega)
      · have hlti : ¬ (k : Int) < 3 := by omega
        go_wp2
        go_loopw [11, 12] (fun i _ wr => ∃ (k : Nat) (xs : List Int), k ≤ 24 ∧ i = .int .i64 k ∧ Hid (Fl xs) ∧ Hid (NB .u8 wr w.heap.size 78 zs) ∧ Hid (NB .u8 wr (w.heap.size + 1) 78 xs) ∧ Hid (Below w.heap.size w wr)) (fun i _ _ => 24 - (intOf i).toNat)
        case atStart => exact ⟨0, _, by omega, rfl, HZ, H0, H1, HB0⟩
        case round =>
          clear H0 H1 HB0
          obtain ⟨k, xs, hk, rfl, HF, H0, HN, HB⟩ := hrel
          by_cases hlt : k < 24
          · have hlti : (k : Int) < 24 := by omega
            have hl0 : k < xs.length := by rw [HF.out.len]; exact hlt
            have hc := HN.out.cell hl0
            have hf := HN.out.frozen k
            obtain ⟨y, hy⟩ : ∃ y : Nat, (k : Int) / 6 = y := ⟨k / 6, by omega⟩
            have hyb : y ≤ 3 := by omega
            obtain ⟨j, hj⟩ : ∃ j : Nat, (y : Int) * 3 / 4 = j := ⟨y * 3 / 4, by omega⟩
            have hj3 : j < 3 := by omega
            have hj3i : (j : Int) < 3 := by omega
            obtain ⟨ad, rfl, hx0⟩ := at_nat (C_below' HC.out HB.out) hj3
            obtain ⟨hv0, hv5⟩ := HX.out j hj3
            generalize rn cs j = v at *
            clear hl0
            go_wp2
            go_roundw
            case rel => exact ⟨k + 1, _, by omega, by go_num, HF.out.set k hv0 hv5, H0.out.far (by simp) _, HN.out.set k _, set_below HB.out (by simp) _⟩
            case measure => first|(simp [intOf]; done)|(simp [intOf]; omega)
          · obtain rfl : k = 24 := by omega
            go_wp2_with (first | (refine load_agg rfl 78 (.tmp 6) rfl ⟨w.heap.size + 1, 0, none⟩ rfl (nums .u8 xs) _ HN.out.range Try.underlying78 rfl (by rw [nums_length, HF.out.len]; exact ainfo_flag) ?_) | (refine wpList_store_mid rfl 78 (.tmp 4) (.tmp 56) rfl w.heap.size 0 (nums .u8 xs).toArray rfl rfl (by simpa [nums, HF.out.len, HZ.out.len] using H0.out.there) (by simp only [List.size_toArray, nums_length, HF.out.len]; exact ainfo_flag) (all_oneCell_toArray (nums_one _ _)) ?_)); have hw := H0.out.over (ys := xs) (by rw [HF.out.len, HZ.out.len]); exact bodyPost_ret (results_cell_tmp rfl _ _ w.heap.size 78 (nums .u8 xs).toArray (0, 0) _ rfl hw Try.underlying78 rfl (by simp only [List.size_toArray, nums_length, HF.out.len]; exact ainfo_flag)) rfl ⟨xs, HF.out, rfl, setCells_below HB.out (by omega) _ _⟩

  · have HI : Hid (inB 3 1 6 = true) := rfl
    go_enter Try.func137, Try.ntmps137
    go_wp2_with (first | (refine zero_store rfl (.tmp 6) (.tmp 13) rfl w (w.heap.size + 1) rfl rfl rfl ?_; intro W0 zs HZ H0 H1 HB0) | (go_at_call 62; refine (l00In_ok _ _ _ _).mono ?_; rintro e w' ⟨rfl, rfl⟩; rw [HI.out]))
    have HCW := Lib.hid (C_below' HC.out HB0.out)
    go_loop [9, 10] (fun ok i => ∃ k : Nat, k ≤ 3 ∧ i = .int .i64 k ∧ ok = .bool true) (fun _ i => 3 - (intOf i).toNat)
    case atStart => exact ⟨0, by omega, rfl, rfl⟩
    case round =>
      obtain ⟨k, hk, rfl, rfl⟩ := hrel
      by_cases hlt : k < 3
      · obtain ⟨ad, rfl, hx0⟩ := at_nat HCW.out hlt
        have hlti : (k : Int) < 3 := by omega
        have HV := Lib.hid (inB_yes (HX.out k hlt).1 (HX.out k hlt).2)
        go_wp2_with (go_at_call 140; refine (l01Colour_ok _ _).mono ?_; rintro e w' ⟨rfl, rfl⟩; rw [HV.out])
        go_round
        case rel => exact ⟨k + 1, by omega, by go_num, rfl⟩
        case measure => first|(simp [intOf]; done)|(simp [intOf]; omega)
      · have hlti : ¬ (k : Int) < 3 := by omega
        go_wp2
        go_loopw [11, 12] (fun i _ wr => ∃ (k : Nat) (xs : List Int), k ≤ 24 ∧ i = .int .i64 k ∧ Hid (Fl xs) ∧ Hid (NB .u8 wr w.heap.size 78 zs) ∧ Hid (NB .u8 wr (w.heap.size + 1) 78 xs) ∧ Hid (Below w.heap.size w wr)) (fun i _ _ => 24 - (intOf i).toNat)
        case atStart => exact ⟨0, _, by omega, rfl, HZ, H0, H1, HB0⟩
        case round =>
          clear H0 H1 HB0
          obtain ⟨k, xs, hk, rfl, HF, H0, HN, HB⟩ := hrel
          by_cases hlt : k < 24
          · have hlti : (k : Int) < 24 := by omega
            have hl0 : k < xs.length := by rw [HF.out.len]; exact hlt
            have hc := HN.out.cell hl0
            have hf := HN.out.frozen k
            obtain ⟨y, hy⟩ : ∃ y : Nat, (k : Int) % 6 = y := ⟨k % 6, by omega⟩
            have hyb : y ≤ 5 := by omega
            obtain ⟨j, hj⟩ : ∃ j : Nat, (y : Int) * 3 / 6 = j := ⟨y * 3 / 6, by omega⟩
            have hj3 : j < 3 := by omega
            have hj3i : (j : Int) < 3 := by omega
            obtain ⟨ad, rfl, hx0⟩ := at_nat (C_below' HC.out HB.out) hj3
            obtain ⟨hv0, hv5⟩ := HX.out j hj3
            generalize rn cs j = v at *
            clear hl0
            go_wp2
            go_roundw
            case rel => exact ⟨k + 1, _, by omega, by go_num, HF.out.set k hv0 hv5, H0.out.far (by simp) _, HN.out.set k _, set_below HB.out (by simp) _⟩
            case measure => first|(simp [intOf]; done)|(simp [intOf]; omega)
          · obtain rfl : k = 24 := by omega
            go_wp2_with (first | (refine load_agg rfl 78 (.tmp 6) rfl ⟨w.heap.size + 1, 0, none⟩ rfl (nums .u8 xs) _ HN.out.range Try.underlying78 rfl (by rw [nums_length, HF.out.len]; exact ainfo_flag) ?_) | (refine wpList_store_mid rfl 78 (.tmp 4) (.tmp 56) rfl w.heap.size 0 (nums .u8 xs).toArray rfl rfl (by simpa [nums, HF.out.len, HZ.out.len] using H0.out.there) (by simp only [List.size_toArray, nums_length, HF.out.len]; exact ainfo_flag) (all_oneCell_toArray (nums_one _ _)) ?_)); have hw := H0.out.over (ys := xs) (by rw [HF.out.len, HZ.out.len]); exact bodyPost_ret (results_cell_tmp rfl _ _ w.heap.size 78 (nums .u8 xs).toArray (0, 0) _ rfl hw Try.underlying78 rfl (by simp only [List.size_toArray, nums_length, HF.out.len]; exact ainfo_flag)) rfl ⟨xs, HF.out, rfl, setCells_below HB.out (by omega) _ _⟩

end Go.Proofs.Ytjadhhnajphibaa
namespace Go.Proofs.Ytjadhhnajphibaa
open Go.RowKit Go.Proofs.YtjadhhnajphibaaW.PrintWords

theorem grown_far {w W W' : World} {g b : Nat} (hG : w.grownBy W (some g)) (h : W.grownBy W' (some b)) (hb : w.heap.size ≤ b) : w.grownBy W' (some g) := by
  refine ⟨h.os.trans hG.os, h.tape.trans hG.tape, h.output.trans hG.output, Nat.le_trans hG.size h.size, fun j hj hne => ?_⟩
  rw [h.block j (Nat.lt_of_lt_of_le hj hG.size) (fun e => by injection e with e; omega)]
  exact hG.block j hj hne
theorem grown_new {w W W' : World} {g : Nat} (hG : w.grownBy W (some g)) (h : Below W.heap.size W W') : w.grownBy W' (some g) := hG.trans (grown_of_below h (some g))
theorem NB.grown {kd : IntKind} {w w1 : World} {g b t : Nat} {xs : List Int} (h : NB kd w b t xs) (hg : w.grownBy w1 (some g)) (hne : b ≠ g) : NB kd w1 b t xs :=
  (hg.block b h.lt (fun e => by injection e with e; exact hne e)).trans h
theorem grown_setCells {w : World} (b o : Nat) (vs : List Value) : w.grownBy (w.setCells b o vs) (some b) := by
  obtain ⟨h1, h2, h3, h4⟩ := setCells_same b vs o w
  exact ⟨h1, h2, h3, by rw [h4]; exact Nat.le_refl _, fun j _ hne => setCells_far vs o j (fun e => hne (by rw [e]))⟩
theorem new_store {ops : Array Oper} {rest : List Oper} {op : Oper} {a : Act} {Q : Exit → Act → World → Prop} (hgd : op.guard = none) (x y : Operand) (ho : op.op = .store 78 x y)
    (W : World) (xs : List Int) (hF : xs.length = 24) (hx : a.eval x = .pointer (some ⟨W.heap.size, 0, none⟩)) (hy : a.eval y = av xs)
    (h : ∀ (W' : World), Hid (NB .u8 W' W.heap.size 78 xs) → Hid (Below W.heap.size W W') → wpList Try.prog ops Q rest (a.put op.dst undef) W') :
    wpList Try.prog ops Q (op :: rest) a (W.alloc (.cells #[.int .u8 0, .int .u8 0, .int .u8 0, .int .u8 0, .int .u8 0, .int .u8 0, .int .u8 0, .int .u8 0, .int .u8 0, .int .u8 0, .int .u8 0, .int .u8 0, .int .u8 0, .int .u8 0, .int .u8 0, .int .u8 0, .int .u8 0, .int .u8 0, .int .u8 0, .int .u8 0, .int .u8 0, .int .u8 0, .int .u8 0, .int .u8 0] 78)) := by
  rw [nums_zero24]
  have hn := NB.new (kd := .u8) W 78 (List.replicate 24 0)
  refine wpList_store_mid hgd 78 x y ho W.heap.size 0 (nums .u8 xs).toArray hx hy (by simpa [nums, hF] using hn.there) (by simp only [List.size_toArray, nums_length, hF]; exact ainfo_flag) (all_oneCell_toArray (nums_one _ _)) (h _ ?_ (setCells_below (below_box _ _) (Nat.le_refl _) _ _))
  exact hn.over (by rw [hF]; simp)
theorem old_store {ops : Array Oper} {rest : List Oper} {op : Oper} {a : Act} {Q : Exit → Act → World → Prop} {W : World} (hgd : op.guard = none) (x y : Operand) (ho : op.op = .store 78 x y)
    (b : Nat) (ys xs : List Int) (hN : NB .u8 W b 78 ys) (hl : ys.length = 24) (hF : xs.length = 24) (hx : a.eval x = .pointer (some ⟨b, 0, none⟩)) (hy : a.eval y = av xs)
    (h : ∀ (W' : World), Hid (NB .u8 W' b 78 xs) → Hid (W.grownBy W' (some b)) → wpList Try.prog ops Q rest (a.put op.dst undef) W') :
    wpList Try.prog ops Q (op :: rest) a W := by
  refine wpList_store_mid hgd 78 x y ho b 0 (nums .u8 xs).toArray hx hy (by simpa [nums, hF, hl] using hN.there) (by simp only [List.size_toArray, nums_length, hF]; exact ainfo_flag) (all_oneCell_toArray (nums_one _ _)) (h _ ?_ (grown_setCells _ _ _))
  exact hN.over (by rw [hF, hl])

theorem flag_box (w : World) : NB .u8 (w.alloc (.cells #[.int .u8 0, .int .u8 0, .int .u8 0, .int .u8 0, .int .u8 0, .int .u8 0, .int .u8 0, .int .u8 0, .int .u8 0, .int .u8 0, .int .u8 0, .int .u8 0, .int .u8 0, .int .u8 0, .int .u8 0, .int .u8 0, .int .u8 0, .int .u8 0, .int .u8 0, .int .u8 0, .int .u8 0, .int .u8 0, .int .u8 0, .int .u8 0] 78)) w.heap.size 78 (List.replicate 24 0) := by
  rw [nums_zero24]
  exact NB.new (kd := .u8) w 78 (List.replicate 24 0)

set_option maxHeartbeats 2000000 in
theorem one_ok (w0 w : World) (g n : Nat) (m : Int) (hm : m ≤ 9223372036854775807) (hn : n ≤ 100000000000000) (hs : Src w0 w g n) (hb : Below w0.heap.size w0 w) :
    Calls Try.prog 138 #[.pointer (some ⟨g, 0, none⟩), .int .i64 m] w fun e w' => ∃ b : Bool, e = .returned (.bool b) ∧ Src w0 w' g (n + 2) ∧ w.grownBy w' (some g) := by
  have HP := Lib.hid (pick_ok w0 w g n m hm hn hs hb)
  clear hs hb
  go_enter Try.func138, Try.ntmps138
  go_wp2_with fail
  refine HP.out.mono ?_
  rintro e w1 ⟨r, rfl, hr0, -, -, hs1, hg1⟩
  have HS := Lib.hid hs1
  have HG := Lib.hid hg1
  clear hs1 hg1
  go_wp2
  go_ret
  exact ⟨_, rfl, HS.out, HG.out⟩

set_option maxRecDepth 100000 in
set_option maxHeartbeats 8000000 in
theorem l01Drawn_ok (w0 w : World) (g n : Nat) (hn : n ≤ 10000000000000) (hs : Src w0 w g n) (hb : Below w0.heap.size w0 w) :
    Calls Try.prog 123 #[.pointer (some ⟨g, 0, none⟩)] w fun e w' => ∃ xs, Fl xs ∧ e = .returned (av xs) ∧ Src w0 w' g (n + 100) ∧ w.grownBy w' (some g) := by
  have HS := Lib.hid hs
  have HB := Lib.hid hb
  have hge : w0.heap.size ≤ g := hs.ge
  have hlt0 : g < w.heap.size := hs.lt
  have hsz0 := hb.size
  clear hs hb
  go_enter Try.func123, Try.ntmps123
  go_wp2_with fail
  have hb0 := below_box w (.cells #[.int .u8 0, .int .u8 0, .int .u8 0, .int .u8 0, .int .u8 0, .int .u8 0, .int .u8 0, .int .u8 0, .int .u8 0, .int .u8 0, .int .u8 0, .int .u8 0, .int .u8 0, .int .u8 0, .int .u8 0, .int .u8 0, .int .u8 0, .int .u8 0, .int .u8 0, .int .u8 0, .int .u8 0, .int .u8 0, .int .u8 0, .int .u8 0] 78)
  have HSW0 := Lib.hid (HS.out.below hb0)
  have HGW0 := Lib.hid (grown_of_below hb0 (some g))
  have HBW0 := Lib.hid (HB.out.trans (hb0.mono hsz0))
  have HZW0 := Lib.hid (flag_box w)
  have HZ := Lib.hid Fl.zero
  clear hb0
  generalize List.replicate 24 (0 : Int) = zs at *
  generalize w.alloc (.cells #[.int .u8 0, .int .u8 0, .int .u8 0, .int .u8 0, .int .u8 0, .int .u8 0, .int .u8 0, .int .u8 0, .int .u8 0, .int .u8 0, .int .u8 0, .int .u8 0, .int .u8 0, .int .u8 0, .int .u8 0, .int .u8 0, .int .u8 0, .int .u8 0, .int .u8 0, .int .u8 0, .int .u8 0, .int .u8 0, .int .u8 0, .int .u8 0] 78) = W0 at *
  go_wp2_with fail
  refine (pick_ok w0 W0 g _ 6 (by omega) (by omega) HSW0.out HBW0.out).mono ?_
  rintro e w1 ⟨a, rfl, ha0, ha1, -, hs, hg⟩
  have ha2 := ha1 (by omega)
  have HSw1 := Lib.hid hs
  have HGw1 := Lib.hid (HGW0.out.trans hg)
  have HBw1 := Lib.hid (grown_below HB.out HGw1.out (by intro k hk; injection hk with hk; omega))
  have HZw1 := Lib.hid (HZW0.out.grown hg (by omega))
  clear hs hg ha1

  go_wp2_with fail
  refine (pick_ok w0 w1 g _ 6 (by omega) (by omega) HSw1.out HBw1.out).mono ?_
  rintro e w2 ⟨b, rfl, hb0, hb1, -, hs, hg⟩
  have hb2 := hb1 (by omega)
  have HSw2 := Lib.hid hs
  have HGw2 := Lib.hid (HGw1.out.trans hg)
  have HBw2 := Lib.hid (grown_below HB.out HGw2.out (by intro k hk; injection hk with hk; omega))
  have HZw2 := Lib.hid (HZw1.out.grown hg (by omega))
  clear hs hg hb1

  go_wp2_with fail
  refine (pick_ok w0 w2 g _ 4 (by omega) (by omega) HSw2.out HBw2.out).mono ?_
  rintro e w3 ⟨k, rfl, hk0, hk1, -, hs, hg⟩
  have hk2 := hk1 (by omega)
  have HSw3 := Lib.hid hs
  have HGw3 := Lib.hid (HGw2.out.trans hg)
  have HBw3 := Lib.hid (grown_below HB.out HGw3.out (by intro k hk; injection hk with hk; omega))
  have HZw3 := Lib.hid (HZw2.out.grown hg (by omega))
  clear hs hg hk1

  go_wp2_with fail
  refine (l01Made_ok a b k ha0 (by omega) hb0 (by omega) w3).mono ?_
  rintro e w5 ⟨xs, hF, rfl, hb5⟩
  have HF := Lib.hid hF
  have HSw5 := Lib.hid (HSw3.out.below hb5)
  have HGw5 := Lib.hid (grown_new HGw3.out hb5)
  have HZw5 := Lib.hid (HZw3.out.below hb5)
  have hw5 : w.heap.size ≤ w5.heap.size := HGw5.out.size
  have hw5l : w.heap.size < w5.heap.size := HZw5.out.lt
  clear hb5 hF
  go_wp2_with (refine new_store rfl (.tmp 5) (.tmp 19) rfl w5 xs HF.out.len rfl rfl ?_; intro w6 HNw6 hb6; have HSw6 := Lib.hid (HSw5.out.below hb6.out); have HGw6 := Lib.hid (grown_new HGw5.out hb6.out); have HBw6 := Lib.hid (grown_below HB.out HGw6.out (by intro k hk; injection hk with hk; omega)); have HZw6 := Lib.hid (HZw5.out.below hb6.out); clear hb6)
  refine (pick_ok w0 w6 g _ 5 (by omega) (by omega) HSw6.out HBw6.out).mono ?_
  rintro e w7 ⟨r, rfl, hr0, -, -, hs, hg⟩
  have HSw7 := Lib.hid hs
  have HGw7 := Lib.hid (HGw6.out.trans hg)
  have HBw7 := Lib.hid (grown_below HB.out HGw7.out (by intro k hk; injection hk with hk; omega))
  have HZw7 := Lib.hid (HZw6.out.grown hg (by omega))
  have HNw7 := Lib.hid (HNw6.out.grown hg (by omega))
  clear hs hg hr0
  rcases e0 : (r == 0) with _ | _
  rotate_left
  · go_wp2_with fail
    refine (PlainFlag_ok a ha0 (by omega) w7).mono ?_
    rintro e w8 ⟨ys, hFy, rfl, hb8⟩
    have HFwt := Lib.hid hFy
    have HS8 := Lib.hid (HSw7.out.below hb8)
    have HG8 := Lib.hid (grown_new HGw7.out hb8)
    have HZ8 := Lib.hid (HZw7.out.below hb8)
    have HN8 := Lib.hid (HNw7.out.below hb8)
    clear hb8 hFy
    go_wp2_with (refine old_store rfl (.tmp 5) (.tmp 28) rfl w5.heap.size xs ys HN8.out HF.out.len HFwt.out.len rfl rfl ?_; intro wt HNwt HW)
    have HSwt := Lib.hid (HS8.out.grown HW.out (fun e => by injection e with e; omega))
    have HGwt := Lib.hid (grown_far HG8.out HW.out hw5)
    have HBwt := Lib.hid (grown_below HB.out HGwt.out (by intro k hk; injection hk with hk; omega))
    have HZwt : Hid (NB .u8 wt w.heap.size 78 zs) := (HW.out.block _ HZ8.out.lt (fun e => by injection e with e; omega)).trans HZ8.out
    clear HW
    go_wp2_with fail
    refine (pick_ok w0 wt g _ 4 (by omega) (by omega) HSwt.out HBwt.out).mono ?_
    rintro e wu ⟨r4, rfl, hr40, hr41, -, hs, hg⟩
    have hr42 := hr41 (by omega)
    obtain ⟨q4, rfl⟩ : ∃ q4 : Nat, r4 = q4 := ⟨r4.toNat, by omega⟩
    have HSU := Lib.hid (hs.more (m := n + 60 + (4 - q4) * 6) (by omega))
    have HGU := Lib.hid (HGwt.out.trans hg)
    have HZU := Lib.hid (HZwt.out.grown hg (by omega))
    have HNU := Lib.hid (HNwt.out.grown hg (by omega))
    have HFU := HFwt
    clear hs hg hr41 hr40
    go_wp2
    go_loopw [7, 8] (fun t _ wr => ∃ (q : Nat) (xs : List Int), q ≤ 4 ∧ t = .int .i64 q ∧ Hid (Fl xs) ∧ Hid (NB .u8 wr w.heap.size 78 zs) ∧ Hid (NB .u8 wr w5.heap.size 78 xs) ∧ Hid (Src w0 wr g (n + 60 + (4 - q) * 6)) ∧ Hid (w.grownBy wr (some g))) (fun t _ _ => (intOf t).toNat)
    case atStart => exact ⟨q4, _, by omega, rfl, HFU, HZU, HNU, HSU, HGU⟩
    case round =>
      clear HSU HGU HZU HNU HFU
      obtain ⟨q, xs, hq, rfl, HF, H0, HN, HSr, HGr⟩ := hrel
      have HBr := Lib.hid (grown_below HB.out HGr.out (by intro k hk; injection hk with hk; omega))
      by_cases hlt : 0 < q
      · have hlti : (0 : Int) < (q : Int) := by omega
        go_wp2_with fail
        refine (pick_ok w0 wr g _ 24 (by omega) (by omega) HSr.out HBr.out).mono ?_
        rintro e w8 ⟨i, rfl, hi0, hi1, -, hs, hg⟩
        have hi2 := hi1 (by omega)
        obtain ⟨i, rfl⟩ : ∃ i' : Nat, i = i' := ⟨i.toNat, by omega⟩
        have HS8 := Lib.hid hs
        have HG8 := Lib.hid (HGr.out.trans hg)
        have HB8 := Lib.hid (grown_below HB.out HG8.out (by intro k hk; injection hk with hk; omega))
        have H08 := Lib.hid (H0.out.grown hg (by omega))
        have HN8 := Lib.hid (HN.out.grown hg (by omega))
        clear hs hg hi1 HBr
        go_wp2_with fail
        refine (pick_ok w0 w8 g _ 6 (by omega) (by omega) HS8.out HB8.out).mono ?_
        rintro e w9 ⟨v, rfl, hv0, hv1, -, hs, hg⟩
        have hv2 := hv1 (by omega)
        have HS9 := Lib.hid (hs.more (m := n + 60 + (4 - (q - 1)) * 6) (by omega))
        have HG9 := Lib.hid (HG8.out.trans hg)
        have H09 := Lib.hid (H08.out.grown hg (by omega))
        have HN9 := Lib.hid (HN8.out.grown hg (by omega))
        have hil : i < xs.length := by rw [HF.out.len]; omega
        have hc := HN9.out.cell hil
        have hf := HN9.out.frozen i
        have hi24 : (i : Int) < 24 := by omega
        clear hs hg hv1 hil
        go_wp2
        go_roundw
        case rel => exact ⟨q - 1, _, by omega, by go_num, HF.out.set i hv0 (by omega), H09.out.far (by simp; omega) _, HN9.out.set i _, HS9.out.grown (grown_set _ _ _ _) (fun e => by injection e with e; omega), grown_far HG9.out (grown_set _ _ _ _) (by omega)⟩
        case measure => first|(simp [intOf]; done)|(simp [intOf]; omega)
      · obtain rfl : q = 0 := by omega
        go_wp2_with (first | (refine load_agg rfl 78 (.tmp 5) rfl ⟨w5.heap.size, 0, none⟩ rfl (nums .u8 xs) _ HN.out.range Try.underlying78 rfl (by rw [nums_length, HF.out.len]; exact ainfo_flag) ?_) | (refine old_store rfl (.tmp 2) (.tmp 56) rfl w.heap.size zs xs H0.out HZ.out.len HF.out.len rfl rfl ?_; intro W' HW HWG))
        exact bodyPost_ret (results_cell_row rfl _ _ w.heap.size 78 (nums .u8 xs).toArray (0, 0) _ rfl HW.out Try.underlying78 rfl (by simp only [List.size_toArray, nums_length, HF.out.len]; exact ainfo_flag)) rfl ⟨xs, HF.out, rfl, (HSr.out.grown HWG.out (fun e => by injection e with e; omega)).more (by omega), grown_far HGr.out HWG.out (Nat.le_refl _)⟩

  · rcases e1 : (r == 1) with _ | _
    · have HSwt := HSw7
      have HGwt := HGw7
      have HBwt := HBw7
      have HZwt := HZw7
      have HNwt := HNw7
      have HFwt := HF
      generalize w7 = wt at *
      go_wp2_with fail
      refine (pick_ok w0 wt g _ 4 (by omega) (by omega) HSwt.out HBwt.out).mono ?_
      rintro e wu ⟨r4, rfl, hr40, hr41, -, hs, hg⟩
      have hr42 := hr41 (by omega)
      obtain ⟨q4, rfl⟩ : ∃ q4 : Nat, r4 = q4 := ⟨r4.toNat, by omega⟩
      have HSU := Lib.hid (hs.more (m := n + 60 + (4 - q4) * 6) (by omega))
      have HGU := Lib.hid (HGwt.out.trans hg)
      have HZU := Lib.hid (HZwt.out.grown hg (by omega))
      have HNU := Lib.hid (HNwt.out.grown hg (by omega))
      have HFU := HFwt
      clear hs hg hr41 hr40
      go_wp2
      go_loopw [7, 8] (fun t _ wr => ∃ (q : Nat) (xs : List Int), q ≤ 4 ∧ t = .int .i64 q ∧ Hid (Fl xs) ∧ Hid (NB .u8 wr w.heap.size 78 zs) ∧ Hid (NB .u8 wr w5.heap.size 78 xs) ∧ Hid (Src w0 wr g (n + 60 + (4 - q) * 6)) ∧ Hid (w.grownBy wr (some g))) (fun t _ _ => (intOf t).toNat)
      case atStart => exact ⟨q4, _, by omega, rfl, HFU, HZU, HNU, HSU, HGU⟩
      case round =>
        clear HSU HGU HZU HNU HFU
        obtain ⟨q, xs, hq, rfl, HF, H0, HN, HSr, HGr⟩ := hrel
        have HBr := Lib.hid (grown_below HB.out HGr.out (by intro k hk; injection hk with hk; omega))
        by_cases hlt : 0 < q
        · have hlti : (0 : Int) < (q : Int) := by omega
          go_wp2_with fail
          refine (pick_ok w0 wr g _ 24 (by omega) (by omega) HSr.out HBr.out).mono ?_
          rintro e w8 ⟨i, rfl, hi0, hi1, -, hs, hg⟩
          have hi2 := hi1 (by omega)
          obtain ⟨i, rfl⟩ : ∃ i' : Nat, i = i' := ⟨i.toNat, by omega⟩
          have HS8 := Lib.hid hs
          have HG8 := Lib.hid (HGr.out.trans hg)
          have HB8 := Lib.hid (grown_below HB.out HG8.out (by intro k hk; injection hk with hk; omega))
          have H08 := Lib.hid (H0.out.grown hg (by omega))
          have HN8 := Lib.hid (HN.out.grown hg (by omega))
          clear hs hg hi1 HBr
          go_wp2_with fail
          refine (pick_ok w0 w8 g _ 6 (by omega) (by omega) HS8.out HB8.out).mono ?_
          rintro e w9 ⟨v, rfl, hv0, hv1, -, hs, hg⟩
          have hv2 := hv1 (by omega)
          have HS9 := Lib.hid (hs.more (m := n + 60 + (4 - (q - 1)) * 6) (by omega))
          have HG9 := Lib.hid (HG8.out.trans hg)
          have H09 := Lib.hid (H08.out.grown hg (by omega))
          have HN9 := Lib.hid (HN8.out.grown hg (by omega))
          have hil : i < xs.length := by rw [HF.out.len]; omega
          have hc := HN9.out.cell hil
          have hf := HN9.out.frozen i
          have hi24 : (i : Int) < 24 := by omega
          clear hs hg hv1 hil
          go_wp2
          go_roundw
          case rel => exact ⟨q - 1, _, by omega, by go_num, HF.out.set i hv0 (by omega), H09.out.far (by simp; omega) _, HN9.out.set i _, HS9.out.grown (grown_set _ _ _ _) (fun e => by injection e with e; omega), grown_far HG9.out (grown_set _ _ _ _) (by omega)⟩
          case measure => first|(simp [intOf]; done)|(simp [intOf]; omega)
        · obtain rfl : q = 0 := by omega
          go_wp2_with (first | (refine load_agg rfl 78 (.tmp 5) rfl ⟨w5.heap.size, 0, none⟩ rfl (nums .u8 xs) _ HN.out.range Try.underlying78 rfl (by rw [nums_length, HF.out.len]; exact ainfo_flag) ?_) | (refine old_store rfl (.tmp 2) (.tmp 56) rfl w.heap.size zs xs H0.out HZ.out.len HF.out.len rfl rfl ?_; intro W' HW HWG))
          exact bodyPost_ret (results_cell_row rfl _ _ w.heap.size 78 (nums .u8 xs).toArray (0, 0) _ rfl HW.out Try.underlying78 rfl (by simp only [List.size_toArray, nums_length, HF.out.len]; exact ainfo_flag)) rfl ⟨xs, HF.out, rfl, (HSr.out.grown HWG.out (fun e => by injection e with e; omega)).more (by omega), grown_far HGr.out HWG.out (Nat.le_refl _)⟩

    · go_wp2_with fail
      refine (pick_ok w0 w7 g _ 6 (by omega) (by omega) HSw7.out HBw7.out).mono ?_
      rintro e w8 ⟨d, rfl, hd0, hd1, -, hs, hg⟩
      have hd2 := hd1 (by omega)
      have HSw8 := Lib.hid hs
      have HGw8 := Lib.hid (HGw7.out.trans hg)
      have HBw8 := Lib.hid (grown_below HB.out HGw8.out (by intro k hk; injection hk with hk; omega))
      have HZw8 := Lib.hid (HZw7.out.grown hg (by omega))
      have HNw8 := Lib.hid (HNw7.out.grown hg (by omega))
      clear hs hg hd1
      go_wp2_with fail
      have hb8 : Below w8.heap.size w8 (w8.alloc (.cells #[.int .i64 a, .int .i64 b, .int .i64 d] 2)) := below_box _ _
      have hn8 : NB .i64 (w8.alloc (.cells #[.int .i64 a, .int .i64 b, .int .i64 d] 2)) w8.heap.size 2 [a, b, d] := NB.new w8 2 [a, b, d]
      have hw8 : w.heap.size ≤ w8.heap.size := HGw8.out.size
      have HSA := Lib.hid (HSw8.out.below hb8)
      have HGA := Lib.hid (grown_new HGw8.out hb8)
      have HBA := Lib.hid (grown_below HB.out HGA.out (by intro k hk; injection hk with hk; omega))
      have HZA := Lib.hid (HZw8.out.below hb8)
      have HNA := Lib.hid (HNw8.out.below hb8)
      have HLA := Lib.hid hn8
      clear hb8 hn8
      generalize w8.alloc (.cells #[.int .i64 a, .int .i64 b, .int .i64 d] 2) = WA at *
      refine (one_ok w0 WA g _ 2 (by omega) (by omega) HSA.out HBA.out).mono ?_
      rintro e w9 ⟨up, rfl, hs, hg⟩
      have HS9 := Lib.hid hs
      have HG9 := Lib.hid (HGA.out.trans hg)
      have HZ9 := Lib.hid (HZA.out.grown hg (by omega))
      have HN9 := Lib.hid (HNA.out.grown hg (by omega))
      have hl9 := HLA.out.grown hg (by omega)
      have HL9 := Lib.hid (hl9.nums_read (by simp))
      clear hs hg hl9
      go_wp2_with fail
      refine (StripesOf_ok (some ⟨w8.heap.size, 0, none⟩) 3 [a, b, d] up w9 HL9.out ?_).mono ?_
      · intro i hi
        match i, hi with
        | 0, _ => exact ⟨ha0, by show a ≤ 5; omega⟩
        | 1, _ => exact ⟨hb0, by show b ≤ 5; omega⟩
        | 2, _ => exact ⟨hd0, by show d ≤ 5; omega⟩
      rintro e w10 ⟨ys, hFy, rfl, hb10⟩
      have HFwt := Lib.hid hFy
      have HS10 := Lib.hid (HS9.out.below hb10)
      have HG10 := Lib.hid (grown_new HG9.out hb10)
      have HZ10 := Lib.hid (HZ9.out.below hb10)
      have HN10 := Lib.hid (HN9.out.below hb10)
      clear hb10 hFy
      go_wp2_with (refine old_store rfl (.tmp 5) (.tmp 41) rfl w5.heap.size xs ys HN10.out HF.out.len HFwt.out.len rfl rfl ?_; intro wt HNwt HW)
      have HSwt := Lib.hid (HS10.out.grown HW.out (fun e => by injection e with e; omega))
      have HGwt := Lib.hid (grown_far HG10.out HW.out hw5)
      have HBwt := Lib.hid (grown_below HB.out HGwt.out (by intro k hk; injection hk with hk; omega))
      have HZwt : Hid (NB .u8 wt w.heap.size 78 zs) := (HW.out.block _ HZ10.out.lt (fun e => by injection e with e; omega)).trans HZ10.out
      clear HW
      go_wp2_with fail
      refine (pick_ok w0 wt g _ 4 (by omega) (by omega) HSwt.out HBwt.out).mono ?_
      rintro e wu ⟨r4, rfl, hr40, hr41, -, hs, hg⟩
      have hr42 := hr41 (by omega)
      obtain ⟨q4, rfl⟩ : ∃ q4 : Nat, r4 = q4 := ⟨r4.toNat, by omega⟩
      have HSU := Lib.hid (hs.more (m := n + 60 + (4 - q4) * 6) (by omega))
      have HGU := Lib.hid (HGwt.out.trans hg)
      have HZU := Lib.hid (HZwt.out.grown hg (by omega))
      have HNU := Lib.hid (HNwt.out.grown hg (by omega))
      have HFU := HFwt
      clear hs hg hr41 hr40
      go_wp2
      go_loopw [7, 8] (fun t _ wr => ∃ (q : Nat) (xs : List Int), q ≤ 4 ∧ t = .int .i64 q ∧ Hid (Fl xs) ∧ Hid (NB .u8 wr w.heap.size 78 zs) ∧ Hid (NB .u8 wr w5.heap.size 78 xs) ∧ Hid (Src w0 wr g (n + 60 + (4 - q) * 6)) ∧ Hid (w.grownBy wr (some g))) (fun t _ _ => (intOf t).toNat)
      case atStart => exact ⟨q4, _, by omega, rfl, HFU, HZU, HNU, HSU, HGU⟩
      case round =>
        clear HSU HGU HZU HNU HFU
        obtain ⟨q, xs, hq, rfl, HF, H0, HN, HSr, HGr⟩ := hrel
        have HBr := Lib.hid (grown_below HB.out HGr.out (by intro k hk; injection hk with hk; omega))
        by_cases hlt : 0 < q
        · have hlti : (0 : Int) < (q : Int) := by omega
          go_wp2_with fail
          refine (pick_ok w0 wr g _ 24 (by omega) (by omega) HSr.out HBr.out).mono ?_
          rintro e w8 ⟨i, rfl, hi0, hi1, -, hs, hg⟩
          have hi2 := hi1 (by omega)
          obtain ⟨i, rfl⟩ : ∃ i' : Nat, i = i' := ⟨i.toNat, by omega⟩
          have HS8 := Lib.hid hs
          have HG8 := Lib.hid (HGr.out.trans hg)
          have HB8 := Lib.hid (grown_below HB.out HG8.out (by intro k hk; injection hk with hk; omega))
          have H08 := Lib.hid (H0.out.grown hg (by omega))
          have HN8 := Lib.hid (HN.out.grown hg (by omega))
          clear hs hg hi1 HBr
          go_wp2_with fail
          refine (pick_ok w0 w8 g _ 6 (by omega) (by omega) HS8.out HB8.out).mono ?_
          rintro e w9 ⟨v, rfl, hv0, hv1, -, hs, hg⟩
          have hv2 := hv1 (by omega)
          have HS9 := Lib.hid (hs.more (m := n + 60 + (4 - (q - 1)) * 6) (by omega))
          have HG9 := Lib.hid (HG8.out.trans hg)
          have H09 := Lib.hid (H08.out.grown hg (by omega))
          have HN9 := Lib.hid (HN8.out.grown hg (by omega))
          have hil : i < xs.length := by rw [HF.out.len]; omega
          have hc := HN9.out.cell hil
          have hf := HN9.out.frozen i
          have hi24 : (i : Int) < 24 := by omega
          clear hs hg hv1 hil
          go_wp2
          go_roundw
          case rel => exact ⟨q - 1, _, by omega, by go_num, HF.out.set i hv0 (by omega), H09.out.far (by simp; omega) _, HN9.out.set i _, HS9.out.grown (grown_set _ _ _ _) (fun e => by injection e with e; omega), grown_far HG9.out (grown_set _ _ _ _) (by omega)⟩
          case measure => first|(simp [intOf]; done)|(simp [intOf]; omega)
        · obtain rfl : q = 0 := by omega
          go_wp2_with (first | (refine load_agg rfl 78 (.tmp 5) rfl ⟨w5.heap.size, 0, none⟩ rfl (nums .u8 xs) _ HN.out.range Try.underlying78 rfl (by rw [nums_length, HF.out.len]; exact ainfo_flag) ?_) | (refine old_store rfl (.tmp 2) (.tmp 56) rfl w.heap.size zs xs H0.out HZ.out.len HF.out.len rfl rfl ?_; intro W' HW HWG))
          exact bodyPost_ret (results_cell_row rfl _ _ w.heap.size 78 (nums .u8 xs).toArray (0, 0) _ rfl HW.out Try.underlying78 rfl (by simp only [List.size_toArray, nums_length, HF.out.len]; exact ainfo_flag)) rfl ⟨xs, HF.out, rfl, (HSr.out.grown HWG.out (fun e => by injection e with e; omega)).more (by omega), grown_far HGr.out HWG.out (Nat.le_refl _)⟩

end Go.Proofs.Ytjadhhnajphibaa
