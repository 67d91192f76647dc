/- Marks in words and codes. -/
import Derived.Test.YtjadhhnajphibaaM2
set_option linter.unusedVariables false
set_option linter.unusedSimpArgs false
namespace Go.Proofs.Ytjadhhnajphibaa
open Go.RowKit Go.Proofs.YtjadhhnajphibaaW.PrintWords

set_option maxRecDepth 100000 in
set_option maxHeartbeats 2000000 in
theorem markWordS_ok (B gw : Nat) (bk : Nat → Nat) (ws : List (List Int)) (k0 : Nat) (w : World) (hn : ws.length ≤ 1048576) (hl : ∀ j, (rl ws j).length ≤ 1048576) (hk : k0 ≤ 100000000) (hi : Nat) (hhi : ∀ j, j < ws.length → bk j < hi) (h0 : MW w B gw bk ws ws.length) :
    Calls Try.prog 90 #[hd gw ws.length, .int .i64 k0] w fun e w' => ∃ k1 : Nat, e = .returned (.int .i64 k1) ∧ k1 ≤ k0 + ws.length * 1048576 ∧ Mid B hi w w' := by
  have H0 := Lib.hid h0
  have HL := Lib.hid hl
  have HHI := Lib.hid hhi
  clear h0 hl hhi
  go_enter Try.func90, Try.ntmps90
  go_wp2
  go_loopw [1, 5] (fun v i wr => ∃ (p k : Nat), p ≤ ws.length ∧ i = .int .i64 p ∧ v = .int .i64 k ∧ k ≤ k0 + p * 1048576 ∧ Hid (wr.heap[gw]? = some (.cells (hds bk ws ws.length).toArray 32 (0, 0))) ∧ Hid (∀ j, j < ws.length → ∃ f, NF .u8 wr (bk j) 5 (rl ws j).length f) ∧ Hid (Mid B hi w wr)) (fun _ i _ => ws.length - (intOf i).toNat)
  case atStart => exact ⟨0, k0, Nat.zero_le _, rfl, rfl, by omega, H0.out.row, fun j hj => ⟨_, (H0.out.each j hj hj).2.2.2.fn⟩, Mid.refl _ _ _⟩
  case round =>
    obtain ⟨p, k, hp, rfl, rfl, hkk, HR, HN, HM⟩ := hrel
    by_cases hlt : p < ws.length
    · have hlti : (p : Int) < (ws.length : Int) := by omega
      have hc := blk_cell HR.out p
      rw [List.getElem?_toArray, hds_get hlt, if_pos hlt] at hc
      obtain ⟨f, hf⟩ := HN.out p hlt
      have HF := Lib.hid hf
      have hq := HL.out p
      clear hf
      go_wp2_with fail
      refine (markWord_ok (some ⟨bk p, 0, none⟩) (rl ws p).length (rl ws p).length k (bk p) 5 f wr (HL.out p) (by omega) (fun _ => ⟨rfl, HF.out⟩)).mono ?_
      rintro e w1 ⟨rfl, hnf, hmid⟩
      have HE := H0.out.each p hlt hlt
      have hr2 := (hmid.block gw (blk_lt HR.out) (by omega)).trans HR.out
      have HR2 := Lib.hid hr2
      have hm2 : Mid B hi w w1 := HM.out.trans (hmid.wider HE.1 (HHI.out p hlt))
      have HM2 := Lib.hid hm2
      have hn2 : ∀ j, j < ws.length → ∃ f, NF .u8 w1 (bk j) 5 (rl ws j).length f := by
        intro j hj
        by_cases e : bk j = bk p
        · have h1 := (H0.out.each j hj hj).2.2.2
          have h2 := HE.2.2.2
          have hll : (rl ws j).length = (rl ws p).length := by
            rw [e] at h1
            have h3 := h1.symm.trans h2
            have h4 : (nums .u8 (rl ws j)).toArray = (nums .u8 (rl ws p)).toArray := by
              injection h3 with h3
              injection h3
            have h5 := congrArg Array.size h4
            simpa [nums] using h5
          rw [e, hll]
          exact ⟨_, hnf HF.out⟩
        · obtain ⟨f', hf'⟩ := HN.out j hj
          exact ⟨f', hf'.mid hmid (by omega)⟩
      have HN2 := Lib.hid hn2
      have hkb : k + (rl ws p).length ≤ k0 + (p + 1) * 1048576 := by have := HL.out p; omega
      clear hnf hmid HE hr2 hm2 hn2 HR HN HM
      go_wp2
      go_roundw
      case rel => exact ⟨p + 1, _, by omega, by go_num, rfl, hkb, HR2, HN2, HM2⟩
      case measure => first|(simp [intOf]; done)|(simp [intOf]; omega)
    · obtain rfl : p = ws.length := by omega
      go_wp2
      go_ret
      exact ⟨_, rfl, hkk, HM.out⟩
theorem MW.mid {w w1 : World} {B g : Nat} {bk : Nat → Nat} {ws : List (List Int)} {k gs : Nat} {cur : Array Value} (h : MW w B g bk ws k) (hm : Mid gs (gs + 1) w w1) (hg : w.heap[gs]? = some (.cells cur 78 (0, 0))) : MW w1 B g bk ws k := by
  have h1 : gs ≠ g := fun e => by
    have := h.row
    rw [← e, hg] at this
    injection this with this
    injection this with _ this
    exact absurd this (by decide)
  refine ⟨(hm.block g h.lt (by omega)).trans h.row, h.base, fun j hj hj' => ?_⟩
  obtain ⟨a1, a2, a3, a4⟩ := h.each j hj hj'
  have h2 : gs ≠ bk j := fun e => by
    have := a4
    unfold NB at this
    rw [← e, hg] at this
    injection this with this
    injection this with _ this
    exact absurd this (by decide)
  exact ⟨a1, Nat.lt_of_lt_of_le a2 hm.size, a3, (hm.block _ a2 (by omega)).trans a4⟩

set_option maxHeartbeats 2000000 in
theorem markCode_ok (B gs gw : Nat) (bk : Nat → Nat) (fs ws : List (List Int)) (w : World) (hf : fs.length ≤ 1048576) (hn : ws.length ≤ 1048576) (hl : ∀ j, (rl ws j).length ≤ 1048576) (hi : Nat) (hgs : gs < hi) (hhi : ∀ j, j < ws.length → bk j < hi) (h0 : MC w B gs gw bk fs ws) :
    Calls Try.prog 29 #[cv gs gw fs ws, .int .i64 1] w fun e w' => ∃ k1 : Nat, e = .returned (.int .i64 k1) ∧ k1 ≤ 1200000000000 ∧ Mid B hi w w' := by
  unfold cv
  have hb1 : Below w.heap.size w (w.alloc (.cells #[hd gs fs.length, hd gw ws.length] 46)) := below_box _ _
  have hmc := h0.below hb1
  have hbx : (w.alloc (.cells #[hd gs fs.length, hd gw ws.length] 46)).heap[w.heap.size]? = some (.cells #[hd gs fs.length, hd gw ws.length] 46 (0, 0)) := heap_alloc_new w _
  have hfl := flat_length h0.len
  have hsz : (w.alloc (.cells #[hd gs fs.length, hd gw ws.length] 46)).heap.size = w.heap.size + 1 := size_box _ _
  have hgl : gs < w.heap.size := h0.set.lt
  have HMC := Lib.hid hmc
  have HB := Lib.hid hb1
  have HX := Lib.hid hbx
  have HFL := Lib.hid hfl
  have HS := Lib.hid hsz
  have HG := Lib.hid hgl
  have HL := Lib.hid hl
  have HH := Lib.hid hhi
  have HBASE := Lib.hid h0.base
  clear hb1 hmc hbx hfl hsz hgl hl hhi h0
  go_enter Try.func29, Try.ntmps29
  go_wp2_with fail
  generalize w.alloc (.cells #[hd gs fs.length, hd gw ws.length] 46) = W0 at *
  have hset := HMC.out.set.fn
  rw [HFL.out] at hset
  refine (markFlagS_ok (some ⟨gs, 0, none⟩) fs.length fs.length 1 gs 78 _ W0 hf (by omega) (fun _ => ⟨rfl, hset⟩)).mono ?_
  rintro e w1 ⟨rfl, -, hm1⟩
  have hgl := HG.out
  have hsz := HS.out
  have HMW := Lib.hid (HMC.out.words.mid hm1 HMC.out.set)
  have hbx1 := (hm1.block w.heap.size (by omega) (by omega)).trans HX.out
  have x1 := (blk_cell hbx1 1).trans (show _ = some (hd gw ws.length) from rfl)
  have HM1 := Lib.hid ((Mid.of_below (lo := B) (hi := hi) HB.out).trans (hm1.wider HBASE.out (by omega)))
  clear hset hm1 hbx1 HX hgl hsz
  go_wp2_with fail
  refine (markWordS_ok B gw bk ws (1 + fs.length * 24) w1 hn HL.out (by omega) hi HH.out HMW.out).mono ?_
  rintro e w2 ⟨k1, rfl, hkb, hm2⟩
  have HM2 := Lib.hid (HM1.out.trans hm2)
  clear hm2
  go_wp2_with fail
  go_ret
  exact ⟨k1, rfl, by omega, HM2.out⟩
end Go.Proofs.Ytjadhhnajphibaa
