/-
  What stands in memory while dual.walk goes its ways for Front.
-/
import Derived.Test.YthllmpgffdocmaaN1
import Derived.Test.YthllmpgffdocmaaL7
import Derived.Test.YthllmpgffdocmaaL8
import Derived.Test.YthllmpgffdocmaaR2
namespace Go.Proofs.Ythllmpgffdocmaa
open Go.RowKit Go.Deep

/-- The blocks of the fronts' lists, of the view, of the ways lie apart. -/
structure Apart3 (B eb fb vb wb : Nat) (fv : Nat → Value) (f : Nat → Value) (v : Value) : Prop where
  b1 : fb < B
  b2 : eb < B
  b3 : fb ≠ eb
  bv : B ≤ vb
  bw : B ≤ wb
  bl : ∀ u, u < 256 → ∀ k, (fv u).ownBlock = some k → B ≤ k
  bf : ∀ u, u < 128 → ∀ k, (f u).ownBlock = some k → B ≤ k
  bx : ∀ k, v.ownBlock = some k → B ≤ k
  d1 : ∀ k, viewS vb fv k → ¬ waysS wb v k
  d2 : ∀ k, viewS vb fv k → ¬ frS fb f k
  d3 : ∀ k, waysS wb v k → ¬ frS fb f k
structure WkSt (w : World) (eb fb vb wb : Nat) (fv : Nat → Value) (L : List Lk) (f : Nat → Value) (F : List (List (Nat × Nat))) (v : Value) (xs : List Lb) (wr : World) : Prop where
  tch : Tch (fun k => k = eb ∨ k = fb) w wr
  view : ViewAt wr w.heap.size vb fv (rowLs L)
  ways : WaysAt wr w.heap.size wb v xs
  fr : FrontsAt wr w.heap.size fb f F
  e0 : wr.rowIs eb 26 1 (fun _ => .int .i64 0)
  ap : Apart3 w.heap.size eb fb vb wb fv f v

variable {w wr wr' : World} {eb fb vb wb : Nat} {fv : Nat → Value} {L : List Lk} {f f' : Nat → Value} {F F' : List (List (Nat × Nat))} {v v' : Value} {xs ys : List Lb}
theorem WaysAt.below' {base : Nat} (h : WaysAt wr base wb v xs) (d : Below wr.heap.size wr wr') : WaysAt wr' base wb v xs := ⟨rowIs_below d h.row h.row.lt, h.lab.below' d, h.ne⟩
theorem WaysAt.tch {S : Nat → Prop} {base : Nat} (h : WaysAt wr base wb v xs) (d : Tch S wr wr') (hS : ∀ k, waysS wb v k → ¬ S k) : WaysAt wr' base wb v xs :=
  ⟨rowIs_tch d h.row (hS _ (Or.inl rfl)), h.lab.tch d (fun k hk => hS k (Or.inr hk)), h.ne⟩
theorem WaysAt.lt {base : Nat} (h : WaysAt wr base wb v xs) : ∀ k, waysS wb v k → k < wr.heap.size := by
  intro k hk
  rcases hk with rfl | hk
  · exact h.row.lt
  · exact h.lab.lt k hk
/-- A step that leaves what stood as it stood. -/
theorem WkSt.below' (s : WkSt w eb fb vb wb fv L f F v xs wr) (b : Below wr.heap.size wr wr') : WkSt w eb fb vb wb fv L f F v xs wr' :=
  ⟨s.tch.trans (Tch.of_below (S := fun _ => False) b) (fun _ _ h => h.elim), s.view.below' b, s.ways.below' b, s.fr.below' b, rowIs_below b s.e0 s.e0.lt, s.ap⟩
theorem WkSt.ew (s : WkSt w eb fb vb wb fv L f F v xs wr) : ¬ waysS wb v eb := by
  rintro (h | h)
  · have := s.ap.bw; have := s.ap.b2; omega
  · have := s.ap.bx _ h; have := s.ap.b2; omega
theorem WkSt.ef (s : WkSt w eb fb vb wb fv L f F v xs wr) : ¬ frS fb f eb := by
  rintro (h | ⟨u, hu, h⟩)
  · exact s.ap.b3 h.symm
  · have := s.ap.bf u hu _ h; have := s.ap.b2; omega
theorem WkSt.tsz (s : WkSt w eb fb vb wb fv L f F v xs wr) : w.heap.size ≤ wr.heap.size := s.tch.size
/-- A call on the ways. -/
theorem WkSt.way (s : WkSt w eb fb vb wb fv L f F v xs wr) (d : Tch (waysS wb v) wr wr') (h : WaysAt wr' w.heap.size wb v' ys) (hv : ∀ k, v'.ownBlock = some k → v.ownBlock = some k ∨ wr.heap.size ≤ k) :
    WkSt w eb fb vb wb fv L f F v' ys wr' where
  tch := s.tch.trans d (fun n hn h => by
    have := s.ap.bw
    rcases h with h | h
    · omega
    · have := s.ap.bx _ h; omega)
  view := s.view.tch d s.ap.d1
  ways := h
  fr := s.fr.tch d (fun k hk h => s.ap.d3 k h hk)
  e0 := rowIs_tch d s.e0 s.ew
  ap := by
    have hnew : ∀ k, waysS wb v' k → waysS wb v k ∨ wr.heap.size ≤ k := by
      intro k hk
      rcases hk with hk | hk
      · exact Or.inl (Or.inl hk)
      · rcases hv k hk with h | h
        · exact Or.inl (Or.inr h)
        · exact Or.inr h
    refine ⟨s.ap.b1, s.ap.b2, s.ap.b3, s.ap.bv, s.ap.bw, s.ap.bl, s.ap.bf, ?_, ?_, s.ap.d2, ?_⟩
    · intro k hk
      rcases hv k hk with h | h
      · exact s.ap.bx k h
      · have := s.tsz; omega
    · intro k hk h
      rcases hnew k h with h | h
      · exact s.ap.d1 k hk h
      · have := s.view.lt k hk; omega
    · intro k hk h
      rcases hnew k hk with h1 | h1
      · exact s.ap.d3 k h1 h
      · have := s.fr.lt k h; omega
/-- One pair more in a front. -/
theorem WkSt.more (s : WkSt w eb fb vb wb fv L f F v xs wr) {u : Nat} (hu : u < 128) (d : Tch (fun k => k = fb ∨ (f u).ownBlock = some k) wr wr') (h : FrontsAt wr' w.heap.size fb f' F') (hf : ∀ k, frS fb f' k → frS fb f k ∨ wr.heap.size ≤ k) :
    WkSt w eb fb vb wb fv L f' F' v xs wr' where
  tch := s.tch.trans d (fun n hn h => by
    rcases h with h | h
    · exact Or.inr h
    · have := s.ap.bf u hu _ h; omega)
  view := s.view.tch d (fun k hk h => s.ap.d2 k hk (by
    rcases h with h | h
    · exact Or.inl h
    · exact Or.inr ⟨u, hu, h⟩))
  ways := s.ways.tch d (fun k hk h => s.ap.d3 k hk (by
    rcases h with h | h
    · exact Or.inl h
    · exact Or.inr ⟨u, hu, h⟩))
  fr := h
  e0 := rowIs_tch d s.e0 (fun h => s.ef (by
    rcases h with h | h
    · exact Or.inl h
    · exact Or.inr ⟨u, hu, h⟩))
  ap := by
    refine ⟨s.ap.b1, s.ap.b2, s.ap.b3, s.ap.bv, s.ap.bw, s.ap.bl, ?_, s.ap.bx, s.ap.d1, ?_, ?_⟩
    · intro u2 hu2 k hk
      exact ((h.own u2 hu2).lt k hk).1
    · intro k hk h1
      rcases hf k h1 with h2 | h2
      · exact s.ap.d2 k hk h2
      · have := s.view.lt k hk; omega
    · intro k hk h1
      rcases hf k h1 with h2 | h2
      · exact s.ap.d3 k hk h2
      · have := s.ways.lt k hk; omega
end Go.Proofs.Ythllmpgffdocmaa
