/-
  Words on the list of labels in memory; the search for a label's place.
-/
import Derived.Test.YthllmpgffdocmaaL1
import Derived.Test.YthllmpgffdocmaaG
import Derived.Deep.QuietTactic
import Derived.BigQuiet
import Derived.Lib.Hide
namespace Go.Proofs.Ythllmpgffdocmaa
open Go.RowKit Go.Deep

def lb0 : Lb := ⟨0, 0, 0⟩
/-- Where the search halves to: between i and j. -/
def bsF (xs : List Lb) (t : Lb) : Nat → Nat → Nat → Nat
  | 0, i, _ => i
  | k + 1, i, j => if i < j then (if cmpL (xs.getD ((i + j) / 2) lb0) t < 0 then bsF xs t k ((i + j) / 2 + 1) j else bsF xs t k i ((i + j) / 2)) else i
structure LabAt (w : World) (base : Nat) (v : Value) (xs : List Lb) : Prop where
  own : w.ownsRow base 71 2 v xs.length (xs.flatMap lbC)
  ok : ∀ x ∈ xs, x.ok
theorem LabAt.form {w : World} {base : Nat} {v : Value} {xs : List Lb} (h : LabAt w base v xs) :
    ∃ a cap, v = .slice a xs.length cap ∧ ∀ i l, xs[i]? = some l → l.ok ∧ ∃ g, a = some ⟨g, 0, none⟩ ∧ g < w.heap.size ∧ ∀ j, j < 2 → w.cell? ⟨g, i * 2 + j, none⟩ = (lbC l)[j]? := by
  rcases h.own.2 with ⟨h1, h0⟩ | ⟨g, cap, cur, hv, _⟩
  · refine ⟨none, 0, by rw [h1, h0], fun i l hi => ?_⟩
    rw [List.eq_nil_of_length_eq_zero h0] at hi
    simp at hi
  · refine ⟨_, cap, hv, fun i l hi => ⟨h.ok _ (List.mem_of_getElem? hi), g, rfl, (h.own.lt g (by rw [hv]; rfl)).2, fun j hj => ?_⟩⟩
    have o := h.own
    rw [hv] at o
    have hl : i < xs.length := (List.getElem?_eq_some_iff.1 hi).1
    rw [o.cellAt _ (by omega), flatMap_get lbC 2 (fun _ => rfl) _ _ _ hj, hi]
    rfl
end Go.Proofs.Ythllmpgffdocmaa
