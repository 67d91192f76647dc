/- Regions that draw their order and whose callees may make memory: one walk, over a family of worlds. -/
import Derived.Test.YtjadhhnajphibaaV7
set_option linter.unusedVariables false
set_option linter.unusedSimpArgs false
namespace Go.Proofs.Ytjadhhnajphibaa
open Go.RowKit Go.Proofs.YtjadhhnajphibaaW.PrintWords

/-- the worlds that come of w, what lies below B being as it was. -/
def Fam (B : Nat) (w : World) : Type := { W : World // Below B w W }
def Fam.at {B : Nat} {w : World} (n : Fam B w) : World := n.1
theorem Fam.below {B : Nat} {w : World} (n : Fam B w) : Below B w n.at := n.2
theorem fam_ne (B : Nat) (w : World) : Nonempty (Fam B w) := ⟨⟨w, Below.refl _ _⟩⟩
theorem fam_mk {B : Nat} {w W : World} (h : Below B w W) : ∃ n : Fam B w, W = n.at := ⟨⟨W, h⟩, rfl⟩
theorem wp_region_fam {P : Program} {id : Nat} {Q : Exit → Act → World → Prop} {a : Act} {w : World} {l : List Oper} (B : Nat) (w0 : World) (hb : Below B w0 w) (hm : P.follows .mixedOrders = true) (hB : Region.lexB .any l.toArray = true)
    (h : wpQuiet P l.toArray (fun w' => ∃ n : Fam B w0, w' = n.at) (fun a' => ∀ w', (∃ n : Fam B w0, w' = n.at) → Q .normal a' w') l a) : (Code.region id l.toArray true).wp P Q a w :=
  wp_region_quiet (C := fun w' => ∃ n : Fam B w0, w' = n.at) hm hB (fam_mk (below_one hb)) (by simpa using h)
theorem fam_call {P : Program} {f : FuncId} {args : Array Value} {B : Nat} {w0 : World} {n : Fam B w0} {v : Value} (hB : B ≤ w0.heap.size)
    (h : Calls P f args n.at fun e w' => e = .returned v ∧ Below n.at.heap.size n.at w') : Calls P f args n.at fun e w'' => e = .returned v ∧ ∃ m : Fam B w0, w'' = m.at :=
  h.mono fun _ _ ⟨he, hb⟩ => ⟨he, fam_mk (n.below.trans (hb.mono (Nat.le_trans hB n.below.size)))⟩
theorem fam_same {P : Program} {f : FuncId} {args : Array Value} {B : Nat} {w0 : World} {n : Fam B w0} {v : Value}
    (h : Calls P f args n.at fun e w' => e = .returned v ∧ n.at = w') : Calls P f args n.at fun e w'' => e = .returned v ∧ ∃ m : Fam B w0, w'' = m.at :=
  h.mono fun _ _ ⟨he, hb⟩ => ⟨he, n, hb.symm⟩
theorem fam_drew {P : Program} {f : FuncId} {args : Array Value} {B : Nat} {w0 : World} {n : Fam B w0} {v : Value}
    (h : Calls P f args n.at fun e w' => e = .returned v ∧ ∃ q, w' = n.at.drewN q) : Calls P f args n.at fun e w'' => e = .returned v ∧ ∃ m : Fam B w0, w'' = m.at :=
  h.mono fun _ _ ⟨he, q, hq⟩ => ⟨he, by rw [hq]; exact fam_mk (below_dN n.below q)⟩
theorem fam_cell {B : Nat} {w0 : World} {p : Addr} {v : Value} (hB : w0.heap.size ≤ B) (h : w0.cell? p = some v) (n : Fam B w0) : n.at.cell? p = some v :=
  (n.below.cell (Nat.lt_of_lt_of_le (cell_lt h) hB)).trans h
theorem fam_C {α : Type} {d : Kd α} {w0 : World} {A : Option Addr} {m : Nat} {xs : List α} (h : d.C w0 A m xs) (n : Fam w0.heap.size w0) : d.C n.at A m xs := C_below' h n.below
end Go.Proofs.Ytjadhhnajphibaa
