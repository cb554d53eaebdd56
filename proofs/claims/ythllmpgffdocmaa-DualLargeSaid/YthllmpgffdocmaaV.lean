/-
  Words on memory: the view of a graph (full.View): its block, and the lists that it holds.
-/
import Derived.Test.YthllmpgffdocmaaG
namespace Go.Proofs.Ythllmpgffdocmaa
open Go.RowKit Go.Deep

/-- The view's cells: nobody is overloaded; then the lists going out, the lists coming in. -/
def viewRow (f : Nat → Value) : Nat → Value := fun i => if i < 128 then .bool false else f (i - 128)
structure ViewAt (w : World) (base vb : Nat) (f : Nat → Value) (xs : Nat → List Lk) : Prop where
  row : w.rowIs vb 57 384 (viewRow f)
  own : ∀ u, u < 256 → w.ownsRow base 43 4 (f u) (xs u).length ((xs u).flatMap linkC)
  ne : ∀ u, u < 256 → (f u).ownBlock ≠ some vb
  inj : ∀ u v, u < 256 → v < 256 → u ≠ v → ∀ b, (f u).ownBlock = some b → (f v).ownBlock ≠ some b

variable {w w1 : World} {base vb : Nat} {f : Nat → Value} {xs : Nat → List Lk}
/-- The blocks of a view. -/
def viewS (vb : Nat) (f : Nat → Value) : Nat → Prop := fun k => k = vb ∨ ∃ u, u < 256 ∧ (f u).ownBlock = some k
theorem ViewAt.tch {S : Nat → Prop} (h : ViewAt w base vb f xs) (d : Tch S w w1) (hS : ∀ k, viewS vb f k → ¬ S k) : ViewAt w1 base vb f xs :=
  ⟨rowIs_tch d h.row (hS _ (Or.inl rfl)), fun u hu => ownsRow_tch d (h.own u hu) (fun _ hk => hS _ (Or.inr ⟨u, hu, hk⟩)), h.ne, h.inj⟩
theorem ViewAt.below' (h : ViewAt w base vb f xs) (d : Below w.heap.size w w1) : ViewAt w1 base vb f xs :=
  ⟨rowIs_below d h.row h.row.lt, fun u hu => ownsRow_below d (h.own u hu) (fun k hk => ((h.own u hu).lt k hk).2), h.ne, h.inj⟩
theorem ViewAt.lt (h : ViewAt w base vb f xs) : ∀ k, viewS vb f k → k < w.heap.size := by
  intro k hk
  rcases hk with rfl | ⟨u, hu, hk⟩
  · exact h.row.lt
  · exact ((h.own u hu).lt k hk).2
theorem ViewAt.over (h : ViewAt w base vb f xs) {n : Nat} (hn : n < 128) : w.cell? ⟨vb, n, none⟩ = some (.bool false) := by
  have e := h.row.cell (i := n) (by omega)
  rw [e, viewRow, if_pos hn]
theorem ViewAt.slot (h : ViewAt w base vb f xs) {u : Nat} (hu : u < 256) : w.cell? ⟨vb, 128 + u, none⟩ = some (f u) := by
  have e := h.row.cell (i := 128 + u) (by omega)
  rw [e, viewRow, if_neg (by omega), show 128 + u - 128 = u by omega]
theorem ViewAt.push (h : ViewAt w base vb f xs) {u0 g cap : Nat} {l : Lk} (hu : u0 < 256) (hT : Tch (fun k => (f u0).ownBlock = some k) w w1)
    (hown : w1.ownsRow base 43 4 (.slice (some ⟨g, 0, none⟩) ((xs u0).length + 1) cap) ((xs u0).length + 1) ((xs u0).flatMap linkC ++ linkC l)) (hg : (f u0).ownBlock = some g ∨ w.heap.size ≤ g) :
    ViewAt (w1.setCell ⟨vb, 128 + u0, none⟩ (.slice (some ⟨g, 0, none⟩) ((xs u0).length + 1) cap)) base vb (fun u => if u = u0 then .slice (some ⟨g, 0, none⟩) ((xs u0).length + 1) cap else f u) (fun u => if u = u0 then xs u0 ++ [l] else xs u) := by
  have hlt := h.row.lt
  have hgv : g ≠ vb := by
    intro e
    rcases hg with hg | hg
    · exact h.ne u0 hu (by rw [hg, e])
    · omega
  have hother : ∀ u, u < 256 → u ≠ u0 → (f u).ownBlock ≠ some g := by
    intro u hu1 hne e
    rcases hg with hg | hg
    · exact h.inj u0 u hu hu1 (Ne.symm hne) g hg e
    · have := ((h.own u hu1).lt g e).2; omega
  refine ⟨?_, ?_, ?_, ?_⟩
  · refine ((rowIs_tch hT h.row (h.ne u0 hu)).set (128 + u0) _).congr ?_
    intro i hi
    simp only [viewRow]
    by_cases e : i = 128 + u0
    · rw [if_pos e, if_neg (by omega), if_pos (show i - 128 = u0 by omega)]
    · rw [if_neg e]
      by_cases e2 : i < 128
      · rw [if_pos e2, if_pos e2]
      · rw [if_neg e2, if_neg e2, if_neg (show ¬ i - 128 = u0 by omega)]
  · intro u hu1
    by_cases e : u = u0
    · subst e
      simp only [if_true]
      have e2 : (xs u ++ [l]).flatMap linkC = (xs u).flatMap linkC ++ linkC l := by simp
      rw [e2, List.length_append, List.length_singleton]
      exact ownsRow_setCell_other hown (a := ⟨vb, 128 + u, none⟩) (fun e => hgv (by simpa [Value.ownBlock] using e)) _
    · simp only [if_neg e]
      have o := ownsRow_tch hT (h.own u hu1) (fun k hk hk2 => h.inj u0 u hu hu1 (Ne.symm e) k hk2 hk)
      exact ownsRow_setCell_other o (a := ⟨vb, 128 + u0, none⟩) (h.ne u hu1) _
  · intro u hu1
    by_cases e : u = u0
    · simp only [if_pos e]
      intro e2
      exact hgv (by simpa [Value.ownBlock] using e2)
    · simp only [if_neg e]
      exact h.ne u hu1
  · intro u v hu1 hv1 huv b hb1 hb2
    by_cases e : u = u0
    · simp only [if_pos e, Value.ownBlock, Option.some.injEq] at hb1
      subst hb1
      rw [if_neg (by omega)] at hb2
      exact hother v hv1 (by omega) hb2
    · rw [if_neg e] at hb1
      by_cases e2 : v = u0
      · simp only [if_pos e2, Value.ownBlock, Option.some.injEq] at hb2
        subst hb2
        exact hother u hu1 e hb1
      · rw [if_neg e2] at hb2
        exact h.inj u v hu1 hv1 huv b hb1 hb2

theorem ViewAt.congr {ys : Nat → List Lk} (h : ViewAt w base vb f xs) (e : ∀ u, u < 256 → xs u = ys u) : ViewAt w base vb f ys :=
  ⟨h.row, fun u hu => by rw [← e u hu]; exact h.own u hu, h.ne, h.inj⟩
/-- Which links stand in the list u when the links ls have been met. -/
def selL (u : Nat) (l : Lk) : Bool := if u < 128 then decide (l.f = u) else decide (l.t + 128 = u)
def rowLs (ls : List Lk) : Nat → List Lk := fun u => ls.filter (selL u)

end Go.Proofs.Ythllmpgffdocmaa
