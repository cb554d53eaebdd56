/-
  Words on memory: the fronts of dual.Front: an array of lists of pairs.
-/
import Derived.Test.YthllmpgffdocmaaL2
namespace Go.Proofs.Ythllmpgffdocmaa
open Go.RowKit Go.Deep

def prV (p : Nat × Nat) : Value := .complex .f64 (fN p.1) (fN p.2)
def frS (fb : Nat) (f : Nat → Value) : Nat → Prop := fun k => k = fb ∨ ∃ u, u < 128 ∧ (f u).ownBlock = some k
structure FrontsAt (w : World) (base fb : Nat) (f : Nat → Value) (F : List (List (Nat × Nat))) : Prop where
  len : F.length = 128
  row : w.rowIs fb 68 128 f
  own : ∀ u, u < 128 → w.ownsRow base 39 1 (f u) (F.getD u []).length ((F.getD u []).map prV)
  ok : ∀ u, u < 128 → ∀ p ∈ F.getD u [], p.1 < 1024 ∧ p.2 < 1024
  ne : ∀ u, u < 128 → (f u).ownBlock ≠ some fb
  inj : ∀ u v, u < 128 → v < 128 → u ≠ v → ∀ b, (f u).ownBlock = some b → (f v).ownBlock ≠ some b

variable {w w1 : World} {base fb : Nat} {f : Nat → Value} {F : List (List (Nat × Nat))}
theorem FrontsAt.tch {S : Nat → Prop} (h : FrontsAt w base fb f F) (d : Tch S w w1) (hS : ∀ k, frS fb f k → ¬ S k) : FrontsAt w1 base fb f F :=
  ⟨h.len, rowIs_tch d h.row (hS _ (Or.inl rfl)), fun u hu => ownsRow_tch d (h.own u hu) (fun _ hk => hS _ (Or.inr ⟨u, hu, hk⟩)), h.ok, h.ne, h.inj⟩
theorem FrontsAt.below' (h : FrontsAt w base fb f F) (d : Below w.heap.size w w1) : FrontsAt w1 base fb f F :=
  ⟨h.len, rowIs_below d h.row h.row.lt, fun u hu => ownsRow_below d (h.own u hu) (fun k hk => ((h.own u hu).lt k hk).2), h.ok, h.ne, h.inj⟩
theorem FrontsAt.lt (h : FrontsAt w base fb f F) : ∀ k, frS fb f k → k < w.heap.size := by
  intro k hk
  rcases hk with rfl | ⟨u, hu, hk⟩
  · exact h.row.lt
  · exact ((h.own u hu).lt k hk).2
theorem FrontsAt.slot (h : FrontsAt w base fb f F) {u : Nat} (hu : u < 128) : w.cell? ⟨fb, u, none⟩ = some (f u) := h.row.cell (i := u) (by omega)
theorem getD_setL (l : List (List (Nat × Nat))) (n k : Nat) (x : List (Nat × Nat)) (h : n < l.length) : (l.set n x).getD k [] = if k = n then x else l.getD k [] := by
  rw [List.getD_eq_getElem?_getD, List.getElem?_set, List.getD_eq_getElem?_getD]
  by_cases e : k = n
  · subst e; simp [h]
  · rw [if_neg (fun h => e h.symm), if_neg e]
/-- One pair more in the list of u0. -/
theorem FrontsAt.push (h : FrontsAt w base fb f F) {u0 g cap : Nat} {p : Nat × Nat} (hu : u0 < 128) (hp : p.1 < 1024 ∧ p.2 < 1024) (hT : Tch (fun k => (f u0).ownBlock = some k) w w1)
    (hown : w1.ownsRow base 39 1 (.slice (some ⟨g, 0, none⟩) ((F.getD u0 []).length + 1) cap) ((F.getD u0 []).length + 1) ((F.getD u0 []).map prV ++ [prV p])) (hg : (f u0).ownBlock = some g ∨ w.heap.size ≤ g) :
    FrontsAt (w1.setCell ⟨fb, u0, none⟩ (.slice (some ⟨g, 0, none⟩) ((F.getD u0 []).length + 1) cap)) base fb (fun u => if u = u0 then .slice (some ⟨g, 0, none⟩) ((F.getD u0 []).length + 1) cap else f u) (F.set u0 (F.getD u0 [] ++ [p])) := by
  have hlt := h.row.lt
  have hl : u0 < F.length := by rw [h.len]; exact hu
  have hgv : g ≠ fb := by
    intro e
    rcases hg with hg | hg
    · exact h.ne u0 hu (by rw [hg, e])
    · omega
  have hother : ∀ u, u < 128 → u ≠ u0 → (f u).ownBlock ≠ some g := by
    intro u hu1 hne e
    rcases hg with hg | hg
    · exact h.inj u0 u hu hu1 (Ne.symm hne) g hg e
    · have := ((h.own u hu1).lt g e).2; omega
  refine ⟨by simp [h.len], ?_, ?_, ?_, ?_, ?_⟩
  · exact ((rowIs_tch hT h.row (h.ne u0 hu)).set u0 _).congr (fun i _ => rfl)
  · intro u hu1
    rw [getD_setL _ _ _ _ hl]
    by_cases e : u = u0
    · subst e
      simp only [if_true]
      rw [List.length_append, List.length_singleton, List.map_append, List.map_singleton]
      exact ownsRow_setCell_other hown (a := ⟨fb, u, none⟩) (fun e => hgv (by simpa [Value.ownBlock] using e)) _
    · simp only [if_neg e]
      have o := ownsRow_tch hT (h.own u hu1) (fun k hk hk2 => h.inj u0 u hu hu1 (Ne.symm e) k hk2 hk)
      exact ownsRow_setCell_other o (a := ⟨fb, u0, none⟩) (h.ne u hu1) _
  · intro u hu1
    rw [getD_setL _ _ _ _ hl]
    by_cases e : u = u0
    · rw [if_pos e]
      intro q hq
      rcases List.mem_append.1 hq with hq | hq
      · exact h.ok u0 hu q hq
      · simp at hq; rw [hq]; exact hp
    · rw [if_neg e]; exact h.ok u hu1
  · intro u hu1
    by_cases e : u = u0
    · simp only [if_pos e]
      intro e2
      exact hgv (by simpa [Value.ownBlock] using e2)
    · simp only [if_neg e]
      exact h.ne u hu1
  · intro u v hu1 hv1 huv b hb1 hb2
    by_cases e : u = u0
    · simp only [if_pos e, Value.ownBlock, Option.some.injEq] at hb1
      subst hb1
      rw [if_neg (by omega)] at hb2
      exact hother v hv1 (by omega) hb2
    · rw [if_neg e] at hb1
      by_cases e2 : v = u0
      · simp only [if_pos e2, Value.ownBlock, Option.some.injEq] at hb2
        subst hb2
        exact hother u hu1 e hb1
      · rw [if_neg e2] at hb2
        exact h.inj u v hu1 hv1 huv b hb1 hb2
theorem FrontsAt.form (h : FrontsAt w base fb f F) {u : Nat} (hu : u < 128) :
    ∃ a cap, f u = .slice a (F.getD u []).length cap ∧ (∀ i p, (F.getD u [])[i]? = some p → ∃ g, a = some ⟨g, 0, none⟩ ∧ g < w.heap.size ∧ w.cell? ⟨g, i, none⟩ = some (prV p)) := by
  rcases (h.own u hu).2 with ⟨h1, h0⟩ | ⟨g, cap, cur, hv, _⟩
  · refine ⟨none, 0, by rw [h1, h0], fun i p hi => ?_⟩
    rw [List.eq_nil_of_length_eq_zero h0] at hi
    simp at hi
  · refine ⟨_, cap, hv, fun i p hi => ⟨g, rfl, ((h.own u hu).lt g (by rw [hv]; rfl)).2, ?_⟩⟩
    have o := h.own u hu
    rw [hv] at o
    have hl : i < (F.getD u []).length := (List.getElem?_eq_some_iff.1 hi).1
    rw [o.cellAt _ (by omega), List.getElem?_map, hi]
    rfl
end Go.Proofs.Ythllmpgffdocmaa
