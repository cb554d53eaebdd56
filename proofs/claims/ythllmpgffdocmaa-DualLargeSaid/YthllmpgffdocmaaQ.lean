/-
  Plain functions on lists and numbers that say what the Go functions of the translation compute: the indexed heap. No program, no memory.
-/
namespace Go.Proofs.Ythllmpgffdocmaa

/-- The heap: entries (key, node), and of each node its place in the list and 1 (0: it is not there). -/
structure Hp where
  list : List (Nat × Nat)
  ats : List Nat

def lessE (a b : Nat × Nat) : Bool := decide (a.1 < b.1) || (decide (a.1 = b.1) && decide (a.2 < b.2))
def Hp.ent (H : Hp) (i : Nat) : Nat × Nat := H.list.getD i (0, 0)
def Hp.atv (H : Hp) (n : Nat) : Nat := H.ats.getD n 0
def Hp.ok (H : Hp) : Prop := (∀ e ∈ H.list, e.2 < 128) ∧ H.ats.length = 128
def swapH (H : Hp) (i j : Nat) : Hp :=
  { list := (H.list.set i (H.ent j)).set j (H.ent i), ats := (H.ats.set (H.ent j).2 (i + 1)).set (H.ent i).2 (j + 1) }
def upF : Nat → Hp → Nat → Hp
  | 0, H, _ => H
  | k + 1, H, i => if 0 < i then (if lessE (H.ent i) (H.ent ((i - 1) / 2)) then upF k (swapH H i ((i - 1) / 2)) ((i - 1) / 2) else H) else H
def kidH (H : Hp) (i : Nat) : Nat :=
  if 2 * i + 2 < H.list.length then (if lessE (H.ent (2 * i + 2)) (H.ent (2 * i + 1)) then 2 * i + 2 else 2 * i + 1) else 2 * i + 1
def downF : Nat → Hp → Nat → Hp
  | 0, H, _ => H
  | k + 1, H, i =>
    if 2 * i + 1 < H.list.length then
      (if lessE (H.ent (kidH H i)) (H.ent i) then downF k (swapH H i (kidH H i)) (kidH H i) else H)
    else H

theorem Hp.ok.ent {H : Hp} (h : H.ok) (i : Nat) : (H.ent i).2 < 128 := by
  unfold Hp.ent
  rw [List.getD_eq_getElem?_getD]
  cases e : H.list[i]? with
  | none => simp
  | some x => simpa using h.1 x (List.mem_of_getElem? e)
theorem swapH_len (H : Hp) (i j : Nat) : (swapH H i j).list.length = H.list.length := by simp [swapH]
theorem mem_set2 {α : Type} (l : List α) (i j : Nat) (a b x : α) (h : x ∈ (l.set i a).set j b) : x ∈ l ∨ x = a ∨ x = b := by
  rcases List.mem_or_eq_of_mem_set h with h | h
  · rcases List.mem_or_eq_of_mem_set h with h | h
    · exact Or.inl h
    · exact Or.inr (Or.inl h)
  · exact Or.inr (Or.inr h)
theorem swapH_ok {H : Hp} (h : H.ok) (i j : Nat) : (swapH H i j).ok := by
  refine ⟨fun e he => ?_, by simp [swapH, h.2]⟩
  rcases mem_set2 _ _ _ _ _ _ he with he | rfl | rfl
  · exact h.1 e he
  · exact h.ent j
  · exact h.ent i
theorem upF_len : ∀ (k : Nat) (H : Hp) (i : Nat), (upF k H i).list.length = H.list.length
  | 0, _, _ => rfl
  | k + 1, H, i => by
    unfold upF
    split
    · split
      · rw [upF_len, swapH_len]
      · rfl
    · rfl
theorem upF_ok : ∀ (k : Nat) (H : Hp) (i : Nat), H.ok → (upF k H i).ok
  | 0, _, _, h => h
  | k + 1, H, i, h => by
    unfold upF
    split
    · split
      · exact upF_ok k _ _ (swapH_ok h _ _)
      · exact h
    · exact h
theorem downF_len : ∀ (k : Nat) (H : Hp) (i : Nat), (downF k H i).list.length = H.list.length
  | 0, _, _ => rfl
  | k + 1, H, i => by
    unfold downF
    split
    · split
      · rw [downF_len, swapH_len]
      · rfl
    · rfl
theorem downF_ok : ∀ (k : Nat) (H : Hp) (i : Nat), H.ok → (downF k H i).ok
  | 0, _, _, h => h
  | k + 1, H, i, h => by
    unfold downF
    split
    · split
      · exact downF_ok k _ _ (swapH_ok h _ _)
      · exact h
    · exact h

/-- Push: the node n under the key k (n is not there). -/
def pushH (H : Hp) (n k : Nat) : Hp :=
  upF H.list.length { list := H.list ++ [(k, n)], ats := H.ats.set n (H.list.length + 1) } H.list.length
/-- Lower: the node n under the lesser key k (n is there, its key is greater). -/
def lowerH (H : Hp) (n k : Nat) : Hp :=
  upF (H.atv n - 1) { list := H.list.set (H.atv n - 1) (k, (H.ent (H.atv n - 1)).2), ats := H.ats } (H.atv n - 1)
/-- take(0), of a heap that holds something. -/
def takeH (H : Hp) : Hp :=
  let last := H.list.length - 1
  let S := swapH H 0 last
  let R : Hp := { list := S.list.take last, ats := S.ats.set (S.ent last).2 0 }
  if 0 < last then downF R.list.length (upF 0 R 0) 0 else R

end Go.Proofs.Ythllmpgffdocmaa
