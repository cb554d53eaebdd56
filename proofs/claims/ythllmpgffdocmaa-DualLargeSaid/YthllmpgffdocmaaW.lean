/-
  Words on memory: the ways of dual.walk.
-/
import Derived.Test.YthllmpgffdocmaaL2
namespace Go.Proofs.Ythllmpgffdocmaa
open Go.RowKit Go.Deep

/-- The ways in memory: a block of one cell holds the list. -/
structure WaysAt (w : World) (base wb : Nat) (v : Value) (xs : List Lb) : Prop where
  row : w.rowIs wb 95 1 (fun _ => v)
  lab : LabAt w base v xs
  ne : v.ownBlock ≠ some wb
def waysS (wb : Nat) (v : Value) : Nat → Prop := fun k => k = wb ∨ v.ownBlock = some k
theorem LabAt.below {B base : Nat} {a b : World} {v : Value} {xs : List Lb} (h : LabAt a base v xs) (d : Below B a b) (hv : ∀ k, v.ownBlock = some k → k < B) : LabAt b base v xs :=
  ⟨ownsRow_below d h.own hv, h.ok⟩
theorem LabAt.lt {base : Nat} {a : World} {v : Value} {xs : List Lb} (h : LabAt a base v xs) : ∀ k, v.ownBlock = some k → k < a.heap.size := fun k hk => (h.own.lt k hk).2
theorem LabAt.below' {base : Nat} {a b : World} {v : Value} {xs : List Lb} (h : LabAt a base v xs) (d : Below a.heap.size a b) : LabAt b base v xs := h.below d h.lt
theorem LabAt.tch {S : Nat → Prop} {base : Nat} {a b : World} {v : Value} {xs : List Lb} (h : LabAt a base v xs) (d : Tch S a b) (hv : ∀ k, v.ownBlock = some k → ¬ S k) : LabAt b base v xs :=
  ⟨ownsRow_tch d h.own hv, h.ok⟩
end Go.Proofs.Ythllmpgffdocmaa
