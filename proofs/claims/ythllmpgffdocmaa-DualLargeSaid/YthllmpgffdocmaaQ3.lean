/-
  Plain: all ways from a node, nearest first, as dual.walk goes them with Front's inner function; the ladder.
-/
import Derived.Test.YthllmpgffdocmaaN1
import Derived.Test.YthllmpgffdocmaaL7
import Derived.Test.YthllmpgffdocmaaV
import Derived.Test.YthllmpgffdocmaaQ2
namespace Go.Proofs.Ythllmpgffdocmaa

/-- All links of one label. -/
def putsF : List Lk → Lb → List Lb → Option (List Lb)
  | [], _, xs => some xs
  | k :: ks, l, xs => if l.c + k.c < 1024 ∧ l.d + k.d < 1024 ∧ xs.length < 4096 then putsF ks l (putL xs ⟨l.c + k.c, l.d + k.d, k.t⟩) else none
/-- The loop: did it stop because a front is full; the fronts. -/
def walkF (out : Nat → List Lk) : Nat → List Lb → List (List (Nat × Nat)) → Option (Bool × List (List (Nat × Nat)))
  | 0, _, _ => none
  | k + 1, xs, F =>
    match xs.getLast? with
    | none => some (false, F)
    | some l =>
      if (F.getD l.n []).length < 4096 ∧ xs.length ≤ 4096 then
        if underB (F.getD l.n []) l.d then walkF out k xs.dropLast F
        else if 64 ≤ (F.getD l.n []).length then some (true, F)
        else match putsF (out l.n) l xs.dropLast with
          | none => none
          | some ys => walkF out k ys (F.set l.n (F.getD l.n [] ++ [(l.c, l.d)]))
      else none
/-- Front: an error's number and the list. -/
def frontF (ls : List Lk) (a b : Nat) : Option (Nat × List (Nat × Nat)) :=
  match walkF (rowLs ls) 1000 [⟨0, 0, a⟩] (List.replicate 128 []) with
  | none => none
  | some (true, _) => some (7, [])
  | some (false, F) => some (0, F.getD b [])
/-- The ladder's links. -/
def ladder (n : Nat) : List Lk := (List.range n).flatMap fun i => [⟨2 * i, 2 * i + 1, 1, 2 ^ i + 1⟩, ⟨2 * i, 2 * i + 2, 2 ^ i + 2, 1⟩, ⟨2 * i + 1, 2 * i + 2, 1, 0⟩]
def frontLen (r : Option (Nat × List (Nat × Nat))) : Option (Nat × Nat) := r.map fun x => (x.1, x.2.length)
def lenOf (n : Nat) : Nat × Nat := if n > 6 then (7, 0) else (0, 2 ^ n)
theorem awakeF : frontF [⟨1, 2, 1, 9⟩, ⟨1, 3, 5, 1⟩, ⟨2, 3, 1, 9⟩] 1 3 = some (0, [(2, 18), (5, 1)]) := by decide +kernel

/-! The same with labels laid in from the front: for the kernel. -/
/-- a stands ahead of t in the list (it is given out later). -/
def gtB (a t : Lb) : Bool := Nat.blt t.c a.c || (Nat.beq t.c a.c && (Nat.blt t.d a.d || (Nat.beq t.d a.d && Nat.blt t.n a.n)))
theorem gtB_iff (a t : Lb) : gtB a t = true ↔ t.c < a.c ∨ (t.c = a.c ∧ (t.d < a.d ∨ (t.d = a.d ∧ t.n < a.n))) := by
  simp [gtB, Nat.blt_eq, Nat.beq_eq]
theorem cmpL_iff (a t : Lb) : cmpL a t < 0 ↔ gtB a t = true := by
  rw [gtB_iff]
  unfold cmpL befB
  simp only [Bool.or_eq_true, Bool.and_eq_true, decide_eq_true_eq]
  split
  · omega
  · split <;> omega
def insD (t : Lb) : List Lb → List Lb
  | [] => [t]
  | x :: r => if gtB x t then x :: insD t r else t :: x :: r
def srt (xs : List Lb) : Prop := xs.Pairwise fun a b => gtB b a = false
theorem gtB_false (a t : Lb) : gtB a t = false ↔ ¬ (t.c < a.c ∨ (t.c = a.c ∧ (t.d < a.d ∨ (t.d = a.d ∧ t.n < a.n)))) := by
  rw [← gtB_iff]; simp
theorem insD_mem {t y : Lb} {xs : List Lb} (h : y ∈ insD t xs) : y = t ∨ y ∈ xs := by
  induction xs with
  | nil => simp [insD] at h; exact Or.inl h
  | cons x r ih =>
    unfold insD at h
    split at h
    · rcases List.mem_cons.1 h with h | h
      · exact Or.inr (by simp [h])
      · rcases ih h with h | h
        · exact Or.inl h
        · exact Or.inr (by simp [h])
    · rcases List.mem_cons.1 h with h | h
      · exact Or.inl h
      · exact Or.inr h
theorem insD_srt {t : Lb} {xs : List Lb} (h : srt xs) : srt (insD t xs) := by
  induction xs with
  | nil => simp [insD, srt]
  | cons x r ih =>
    have h2 := List.pairwise_cons.1 h
    unfold insD
    split
    · rename_i hg
      refine List.pairwise_cons.2 ⟨fun y hy => ?_, ih h2.2⟩
      rcases insD_mem hy with rfl | hy
      · rw [gtB_iff] at hg; rw [gtB_false]; omega
      · exact h2.1 y hy
    · rename_i hg
      refine List.pairwise_cons.2 ⟨fun y hy => ?_, h⟩
      have hg' : gtB x t = false := by simpa using hg
      rcases List.mem_cons.1 hy with rfl | hy
      · exact hg'
      · have := h2.1 y hy
        rw [gtB_false] at *; omega
theorem insD_place {t : Lb} {xs : List Lb} (h : srt xs) : ∃ p, p ≤ xs.length ∧ insD t xs = insL xs p t ∧ ∀ i, i < xs.length → (gtB (xs.getD i lb0) t = true ↔ i < p) := by
  induction xs with
  | nil => exact ⟨0, Nat.le_refl _, rfl, fun i hi => absurd hi (Nat.not_lt_zero i)⟩
  | cons x r ih =>
    have h2 := List.pairwise_cons.1 h
    unfold insD
    split
    · rename_i hg
      obtain ⟨p, hp, he, hi⟩ := ih h2.2
      refine ⟨p + 1, by simpa using hp, ?_, fun i hlt => ?_⟩
      · rw [he]; simp [insL]
      · cases i with
        | zero => simp [hg]
        | succ i =>
          have := hi i (by simpa using hlt)
          simp only [List.getD_cons_succ]
          rw [this]; omega
    · rename_i hg
      have hg' : gtB x t = false := by simpa using hg
      refine ⟨0, Nat.zero_le _, by simp [insL], fun i hlt => ?_⟩
      have : gtB ((x :: r).getD i lb0) t = false := by
        cases i with
        | zero => exact hg'
        | succ i =>
          simp only [List.getD_cons_succ]
          have hl : i < r.length := by simpa using hlt
          have hm : r.getD i lb0 ∈ r := by rw [List.getD_eq_getElem?_getD, List.getElem?_eq_getElem hl]; exact List.getElem_mem hl
          have := h2.1 _ hm
          rw [gtB_false] at *; omega
      constructor
      · intro e; rw [this] at e; cases e
      · omega
theorem bsF_place (xs : List Lb) (t : Lb) (p : Nat) (hp : ∀ i, i < xs.length → (gtB (xs.getD i lb0) t = true ↔ i < p)) : ∀ k i j, i ≤ p → p ≤ j → j ≤ xs.length → j - i < k → bsF xs t k i j = p
  | 0, i, j, _, _, _, h => by omega
  | k + 1, i, j, h1, h2, h3, h4 => by
    unfold bsF
    by_cases hij : i < j
    · rw [if_pos hij]
      have := hp ((i + j) / 2) (by omega)
      by_cases hc : cmpL (xs.getD ((i + j) / 2) lb0) t < 0
      · rw [if_pos hc]
        exact bsF_place xs t p hp k _ _ (by have := this.1 ((cmpL_iff _ _).1 hc); omega) h2 h3 (by omega)
      · rw [if_neg hc]
        refine bsF_place xs t p hp k _ _ h1 ?_ (by omega) (by omega)
        rcases Nat.lt_or_ge ((i + j) / 2) p with h | h
        · exact absurd ((cmpL_iff _ _).2 (this.2 h)) hc
        · exact h
    · rw [if_neg hij]; omega
theorem putL_insD {xs : List Lb} {t : Lb} (h : srt xs) (hl : xs.length < 5000) : putL xs t = insD t xs := by
  obtain ⟨p, hp, he, hi⟩ := insD_place (t := t) h
  unfold putL
  rw [bsF_place xs t p hi 5000 0 xs.length (Nat.zero_le _) hp (Nat.le_refl _) (by omega), he]
def putsG : List Lk → Lb → List Lb → Option (List Lb)
  | [], _, xs => some xs
  | k :: ks, l, xs => if l.c + k.c < 1024 ∧ l.d + k.d < 1024 ∧ xs.length < 4096 then putsG ks l (insD ⟨l.c + k.c, l.d + k.d, k.t⟩ xs) else none
theorem putsG_eq (ks : List Lk) (l : Lb) : ∀ xs, srt xs → putsF ks l xs = putsG ks l xs := by
  induction ks with
  | nil => intro xs _; rfl
  | cons k ks ih =>
    intro xs h
    unfold putsF putsG
    split
    · rename_i hc
      rw [putL_insD h (by omega)]
      exact ih _ (insD_srt h)
    · rfl
theorem putsG_srt (ks : List Lk) (l : Lb) : ∀ xs ys, srt xs → putsG ks l xs = some ys → srt ys := by
  induction ks with
  | nil => intro xs ys h e; simp only [putsG, Option.some.injEq] at e; rw [← e]; exact h
  | cons k ks ih =>
    intro xs ys h e
    unfold putsG at e
    split at e
    · exact ih _ _ (insD_srt h) e
    · cases e
def walkG (out : Nat → List Lk) : Nat → List Lb → List (List (Nat × Nat)) → Option (Bool × List (List (Nat × Nat)))
  | 0, _, _ => none
  | k + 1, xs, F =>
    match xs.getLast? with
    | none => some (false, F)
    | some l =>
      if (F.getD l.n []).length < 4096 ∧ xs.length ≤ 4096 then
        if underB (F.getD l.n []) l.d then walkG out k xs.dropLast F
        else if 64 ≤ (F.getD l.n []).length then some (true, F)
        else match putsG (out l.n) l xs.dropLast with
          | none => none
          | some ys => walkG out k ys (F.set l.n (F.getD l.n [] ++ [(l.c, l.d)]))
      else none
theorem srt_dropLast {xs : List Lb} (h : srt xs) : srt xs.dropLast := List.Pairwise.sublist (List.dropLast_sublist _) h
theorem walkG_eq (out : Nat → List Lk) : ∀ k xs F, srt xs → walkF out k xs F = walkG out k xs F := by
  intro k
  induction k with
  | zero => intro xs F _; rfl
  | succ k ih =>
    intro xs F h
    unfold walkF walkG
    split
    · rfl
    · split
      · split
        · exact ih _ _ (srt_dropLast h)
        · split
          · rfl
          · rw [putsG_eq _ _ _ (srt_dropLast h)]
            split
            · rfl
            · rename_i ys hy
              exact ih _ _ (putsG_srt _ _ _ _ (srt_dropLast h) hy)
      · rfl
def frontG (ls : List Lk) (a b : Nat) : Option (Nat × List (Nat × Nat)) :=
  match walkG (rowLs ls) 1000 [⟨0, 0, a⟩] (List.replicate 128 []) with
  | none => none
  | some (true, _) => some (7, [])
  | some (false, F) => some (0, F.getD b [])
theorem frontG_eq (ls : List Lk) (a b : Nat) : frontF ls a b = frontG ls a b := by
  unfold frontF frontG
  rw [walkG_eq _ _ _ _ (by simp [srt])]
def ladderOk (i : Nat) : Bool := decide (frontLen (frontG (ladder (i + 1)) 0 (2 * (i + 1))) = some (lenOf (i + 1))) && decide (frontLen (frontG (ladder (i + 1)) (2 * (i + 1)) 0) = some (0, 0)) && (treeOf (ladder (i + 1)) 0).isSome && (treeOf (ladder (i + 1)) (2 * (i + 1))).isSome
theorem ladder_0 : ladderOk 0 = true := by decide +kernel
theorem ladder_1 : ladderOk 1 = true := by decide +kernel
theorem ladder_2 : ladderOk 2 = true := by decide +kernel
theorem ladder_3 : ladderOk 3 = true := by decide +kernel
theorem ladder_4 : ladderOk 4 = true := by decide +kernel
theorem ladder_5 : ladderOk 5 = true := by decide +kernel
theorem ladder_6 : ladderOk 6 = true := by decide +kernel
theorem ladder_7 : ladderOk 7 = true := by decide +kernel
theorem ladder_8 : ladderOk 8 = true := by decide +kernel
theorem ladder_all (i : Nat) (h : i < 9) : ladderOk i = true := by
  match i, h with
  | 0, _ => exact ladder_0
  | 1, _ => exact ladder_1
  | 2, _ => exact ladder_2
  | 3, _ => exact ladder_3
  | 4, _ => exact ladder_4
  | 5, _ => exact ladder_5
  | 6, _ => exact ladder_6
  | 7, _ => exact ladder_7
  | 8, _ => exact ladder_8
end Go.Proofs.Ythllmpgffdocmaa
