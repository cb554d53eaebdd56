/-
  Words on memory: what stands when a call has written some blocks ('Tch'), and the heap of layer 5 in memory ('HeapAt').
-/
import Derived.Test.YthllmpgffdocmaaQ
import Derived.WalkKit
import Derived.WalkSpells
import Derived.WalkLawsBesides
import Derived.Deep.OwnRows
import Derived.OneCell
namespace Go.Proofs.Ythllmpgffdocmaa
open Go.RowKit Go.Deep

section
variable {P : Program} {w : World} {a : Addr} {m : Mode}
@[go_sem] theorem run_store_complexV (k : FloatKind) (x y : Nat) : (store a (.complex k x y) m).run P w = stored P w a (.complex k x y) m := run_store P w a _ m rfl
@[go_sem] theorem run_store_floatV (k : FloatKind) (x : Nat) : (store a (.float k x) m).run P w = stored P w a (.float k x) m := run_store P w a _ m rfl
end

/-- Apart from the blocks of S all that was there stands as it stood; the streams stand; no block has gone. -/
structure Tch (S : Nat → Prop) (w w' : World) : Prop where
  os : w'.os = w.os
  tape : w'.tape = w.tape
  output : w'.output = w.output
  size : w.heap.size ≤ w'.heap.size
  block : ∀ k, k < w.heap.size → ¬ S k → w'.heap[k]? = w.heap[k]?

theorem Tch.refl (S : Nat → Prop) (w : World) : Tch S w w := ⟨rfl, rfl, rfl, Nat.le_refl _, fun _ _ _ => rfl⟩
/-- Two steps: what the second one writes was written by the first one too, or is new. -/
theorem Tch.trans {S T : Nat → Prop} {a b c : World} (h : Tch S a b) (k : Tch T b c) (hs : ∀ n, n < a.heap.size → T n → S n) : Tch S a c :=
  ⟨k.os.trans h.os, k.tape.trans h.tape, k.output.trans h.output, Nat.le_trans h.size k.size,
    fun n hn hS => (k.block n (Nat.lt_of_lt_of_le hn h.size) (fun t => hS (hs n hn t))).trans (h.block n hn hS)⟩
theorem Tch.mono {S T : Nat → Prop} {a b : World} (h : Tch S a b) (hs : ∀ n, n < a.heap.size → S n → T n) : Tch T a b :=
  ⟨h.os, h.tape, h.output, h.size, fun n hn hT => h.block n hn (fun s => hT (hs n hn s))⟩
theorem Tch.of_below {S : Nat → Prop} {a b : World} (h : Below a.heap.size a b) : Tch S a b :=
  ⟨h.os, h.tape, h.output, h.size, fun n hn _ => h.block n hn⟩
theorem Tch.drew {S : Nat → Prop} {a b : World} (h : Tch S a b) : Tch S a b.drew := ⟨h.os, h.tape, h.output, h.size, h.block⟩
theorem Tch.drewN {S : Nat → Prop} {a b : World} (h : Tch S a b) (n : Nat) : Tch S a (b.drewN n) := ⟨h.os, h.tape, h.output, h.size, h.block⟩
theorem rowIs_drewN {a : World} {k : Nat} {t : TypeId} {n : Nat} {f : Nat → Value} (r : a.rowIs k t n f) (m : Nat) : (a.drewN m).rowIs k t n f := r
theorem Tch.alloc {S : Nat → Prop} {a b : World} (h : Tch S a b) (o : Obj) : Tch S a (b.alloc o) :=
  h.trans (T := fun _ => False) ⟨rfl, rfl, rfl, by simp, fun k hk _ => Below.heap_alloc _ _ _ hk⟩ (fun _ _ f => f.elim)
theorem Tch.setCell {S : Nat → Prop} {a b : World} (h : Tch S a b) {p : Addr} (hp : S p.block ∨ a.heap.size ≤ p.block) (u : Value) : Tch S a (b.setCell p u) :=
  h.trans (T := fun k => k = p.block) ⟨rfl, rfl, rfl, by simp [World.setCell], fun k _ hk => Below.heap_setCell _ _ _ _ hk⟩
    (fun n hn e => by subst e; rcases hp with h | h; exact h; omega)
theorem Tch.grown {S : Nat → Prop} {a b c : World} {row : Option Nat} (h : Tch S a b) (hg : b.grownBy c row) (hr : ∀ k, row = some k → S k ∨ a.heap.size ≤ k) : Tch S a c :=
  h.trans (T := fun k => some k = row) ⟨hg.os, hg.tape, hg.output, hg.size, fun k hk hn => hg.block k hk hn⟩
    (fun n hn e => by rcases hr n e.symm with h | h; exact h; omega)
/-- What is written lies from B on: below B all stands. -/
theorem Tch.below {S : Nat → Prop} {B : Nat} {a b : World} (h : Tch S a b) (hS : ∀ n, n < a.heap.size → S n → B ≤ n) (hB : B ≤ a.heap.size) : Below B a b :=
  ⟨h.os, h.tape, h.output, h.size, fun k hk => h.block k (by omega) (fun s => by have := hS k (by omega) s; omega)⟩
theorem Tch.cell {S : Nat → Prop} {a b : World} (h : Tch S a b) {p : Addr} (hp : p.block < a.heap.size) (hn : ¬ S p.block) : b.cell? p = a.cell? p := World.cell?_of_block (w := a) (h.block _ hp hn)
theorem Tch.frozen {S : Nat → Prop} {a b : World} (h : Tch S a b) {p : Addr} (hp : p.block < a.heap.size) (hn : ¬ S p.block) : b.frozen? p = a.frozen? p := World.frozen?_of_block (w := a) (h.block _ hp hn)

/-- A store of what is there already. -/
theorem setCell_self {w : World} {b o : Nat} {v : Value} (h : w.cell? ⟨b, o, none⟩ = some v) : w.setCell ⟨b, o, none⟩ v = w := by
  have hh : (w.setCell ⟨b, o, none⟩ v).heap = w.heap := by
    apply Array.ext_getElem?
    intro k
    simp only [World.setCell, Array.getElem?_modify]
    split
    · rename_i e
      subst e
      simp only [World.cell?] at h
      cases e : w.heap[b]? with
      | none => rfl
      | some x =>
        rw [e] at h
        cases x <;> first | (simp at h; done) | skip
        case cells c t fr =>
          simp at h
          obtain ⟨h1, _⟩ := Array.getElem?_eq_some_iff.1 h
          have e3 : c.setIfInBounds o v = c := by
            apply Array.ext_getElem?
            intro j
            rw [Array.getElem?_setIfInBounds]
            split
            · rename_i e; subst e; first | exact h.symm | (rw [if_pos h1, h])
            · rfl
          simp [e3]
    · rfl
  have : w.setCell ⟨b, o, none⟩ v = { w with heap := (w.setCell ⟨b, o, none⟩ v).heap } := rfl
  rw [this, hh]

/-- The same world but for draws. -/
def Dr (w w' : World) : Prop := ∃ n, w' = w.drewN n
theorem Dr.refl (w : World) : Dr w w := ⟨0, rfl⟩
theorem Dr.drew {a b : World} (h : Dr a b) : Dr a b.drew := by obtain ⟨n, rfl⟩ := h; exact ⟨n + 1, rfl⟩
theorem Dr.drewN {a b : World} (h : Dr a b) (m : Nat) : Dr a (b.drewN m) := by obtain ⟨n, rfl⟩ := h; exact ⟨n + m, by simp⟩
theorem Dr.heap {a b : World} (h : Dr a b) : b.heap = a.heap := by obtain ⟨n, rfl⟩ := h; rfl
theorem Dr.below {B : Nat} {a b c : World} (h : Dr b c) (k : Below B a b) : Below B a c := by obtain ⟨n, rfl⟩ := h; exact below_drewN k n
theorem Tch.dr {S : Nat → Prop} {a b c : World} (k : Tch S a b) (h : Dr b c) : Tch S a c := by obtain ⟨n, rfl⟩ := h; exact ⟨k.os, k.tape, k.output, k.size, k.block⟩
theorem rowIs_dr {a b : World} {k : Nat} {t : TypeId} {n : Nat} {f : Nat → Value} (h : Dr a b) (r : a.rowIs k t n f) : b.rowIs k t n f := r.of_block (by rw [h.heap])
theorem ownsRow_dr {a b : World} {base : Nat} {e : TypeId} {size : Nat} {v : Value} {n : Nat} {xs : List Value} (h : Dr a b) (r : a.ownsRow base e size v n xs) : b.ownsRow base e size v n xs := by
  unfold World.ownsRow at *; rw [h.heap]; exact r

theorem rowIs_tch {S : Nat → Prop} {a b : World} {k : Nat} {t : TypeId} {n : Nat} {f : Nat → Value} (h : Tch S a b) (r : a.rowIs k t n f) (hn : ¬ S k) : b.rowIs k t n f := r.of_block (h.block k r.lt hn)
theorem rowIs_below {B : Nat} {a b : World} {k : Nat} {t : TypeId} {n : Nat} {f : Nat → Value} (h : Below B a b) (r : a.rowIs k t n f) (hk : k < B) : b.rowIs k t n f := r.of_block (h.block k hk)
theorem ownsRow_tch {S : Nat → Prop} {a b : World} {base : Nat} {e : TypeId} {size : Nat} {v : Value} {n : Nat} {xs : List Value} (h : Tch S a b) (r : a.ownsRow base e size v n xs) (hn : ∀ k, v.ownBlock = some k → ¬ S k) : b.ownsRow base e size v n xs := by
  have hl := r.lt
  obtain ⟨h1, h2⟩ := r
  refine ⟨h1, ?_⟩
  rcases h2 with h2 | ⟨g, cap, cur, hv, hg, hh, q⟩
  · exact Or.inl h2
  · have hb : v.ownBlock = some g := by rw [hv]; rfl
    exact Or.inr ⟨g, cap, cur, hv, hg, by rw [h.block g (hl g hb).2 (hn g hb)]; exact hh, q⟩
theorem ownsRow_below {B : Nat} {a b : World} {base : Nat} {e : TypeId} {size : Nat} {v : Value} {n : Nat} {xs : List Value} (h : Below B a b) (r : a.ownsRow base e size v n xs) (hn : ∀ k, v.ownBlock = some k → k < B) : b.ownsRow base e size v n xs := by
  obtain ⟨h1, h2⟩ := r
  refine ⟨h1, ?_⟩
  rcases h2 with h2 | ⟨g, cap, cur, hv, hg, hh, q⟩
  · exact Or.inl h2
  · have hb : v.ownBlock = some g := by rw [hv]; rfl
    exact Or.inr ⟨g, cap, cur, hv, hg, by rw [h.block g (hn g hb)]; exact hh, q⟩

/-- An entry's two cells. -/
def entC (e : Nat × Nat) : List Value := [.int .i64 (e.1 : Int), .int .i64 (e.2 : Int)]
def flatE (l : List (Nat × Nat)) : List Value := l.flatMap entC
/-- The heap's own block: its list, then a node's places. -/
def heapRow (v : Value) (H : Hp) : Nat → Value := fun i => if i = 0 then v else .int .i64 (H.atv (i - 1) : Int)
/-- The heap lies at hb: its list is the slice v, whose row is the heap's own. -/
structure HeapAt (w : World) (base hb : Nat) (v : Value) (H : Hp) : Prop where
  ok : H.ok
  row : w.rowIs hb 133 129 (heapRow v H)
  own : w.ownsRow base 135 2 v H.list.length (flatE H.list)
  ne : v.ownBlock ≠ some hb
  small : H.list.length ≤ 4096
/-- The blocks that a heap's calls write. -/
def heapS (hb : Nat) (v : Value) : Nat → Prop := fun k => k = hb ∨ v.ownBlock = some k

theorem flatE_length (l : List (Nat × Nat)) : (flatE l).length = l.length * 2 := by
  induction l with
  | nil => rfl
  | cons a l ih => simp only [flatE, List.flatMap_cons, List.length_append, List.length_cons] at *; simp only [entC, List.length_cons, List.length_nil]; omega
theorem flatE_get0 : ∀ (l : List (Nat × Nat)) (i : Nat), i < l.length → (flatE l)[i * 2]? = some (.int .i64 ((l.getD i (0, 0)).1 : Int))
  | a :: l, 0, _ => by simp [flatE, entC]
  | a :: l, i + 1, h => by
    have ih := flatE_get0 l i (by simpa using h)
    have e : (i + 1) * 2 = i * 2 + 1 + 1 := by omega
    rw [e]
    simpa [flatE, entC] using ih
theorem flatE_get1 : ∀ (l : List (Nat × Nat)) (i : Nat), i < l.length → (flatE l)[i * 2 + 1]? = some (.int .i64 ((l.getD i (0, 0)).2 : Int))
  | a :: l, 0, _ => by simp [flatE, entC]
  | a :: l, i + 1, h => by
    have ih := flatE_get1 l i (by simpa using h)
    have e : (i + 1) * 2 + 1 = i * 2 + 1 + 1 + 1 := by omega
    rw [e]
    simpa [flatE, entC] using ih
theorem flatE_set : ∀ (l : List (Nat × Nat)) (i : Nat) (e : Nat × Nat), i < l.length → flatE (l.set i e) = ((flatE l).set (i * 2) (.int .i64 (e.1 : Int))).set (i * 2 + 1) (.int .i64 (e.2 : Int))
  | a :: l, 0, e, _ => by simp [flatE, entC]
  | a :: l, i + 1, e, h => by
    have ih := flatE_set l i e (by simpa using h)
    have e1 : (i + 1) * 2 = i * 2 + 1 + 1 := by omega
    have e2 : (i + 1) * 2 + 1 = i * 2 + 1 + 1 + 1 := by omega
    rw [e2, e1]
    simp only [flatE, List.set_cons_succ, List.flatMap_cons, entC, List.cons_append, List.nil_append] at *
    rw [ih]
theorem flatE_append (l : List (Nat × Nat)) (e : Nat × Nat) : flatE (l ++ [e]) = flatE l ++ entC e := by simp [flatE]

/-- A list that holds something: where it lies. -/
theorem HeapAt.form {w : World} {base hb : Nat} {v : Value} {H : Hp} (h : HeapAt w base hb v H) (hn : 0 < H.list.length) :
    ∃ g cap, v = .slice (some ⟨g, 0, none⟩) H.list.length cap ∧ g < w.heap.size ∧ g ≠ hb ∧ H.list.length ≤ cap ∧ cap ≤ maxLen := by
  rcases h.own.2 with ⟨_, h0⟩ | ⟨g, cap, cur, hv, _, hh, hc, hm, _⟩
  · omega
  · exact ⟨g, cap, hv, (Array.getElem?_eq_some_iff.1 hh).1, fun e => h.ne (by rw [hv]; simp [Value.ownBlock, e]), hc, hm⟩

theorem HeapAt.dr {a b : World} {base hb : Nat} {v : Value} {H : Hp} (h : HeapAt a base hb v H) (d : Dr a b) : HeapAt b base hb v H := ⟨h.ok, rowIs_dr d h.row, ownsRow_dr d h.own, h.ne, h.small⟩
theorem HeapAt.tch {S : Nat → Prop} {a b : World} {base hb : Nat} {v : Value} {H : Hp} (h : HeapAt a base hb v H) (d : Tch S a b) (h1 : ¬ S hb) (h2 : ∀ k, v.ownBlock = some k → ¬ S k) : HeapAt b base hb v H :=
  ⟨h.ok, rowIs_tch d h.row h1, ownsRow_tch d h.own h2, h.ne, h.small⟩
theorem HeapAt.below {B : Nat} {a b : World} {base hb : Nat} {v : Value} {H : Hp} (h : HeapAt a base hb v H) (d : Below B a b) (h1 : hb < B) (h2 : ∀ k, v.ownBlock = some k → k < B) : HeapAt b base hb v H :=
  ⟨h.ok, rowIs_below d h.row h1, ownsRow_below d h.own h2, h.ne, h.small⟩
theorem HeapAt.below' {a b : World} {base hb : Nat} {v : Value} {H : Hp} (h : HeapAt a base hb v H) (d : Below a.heap.size a b) : HeapAt b base hb v H :=
  h.below d h.row.lt (fun k hk => (h.own.lt k hk).2)

theorem getD_set (l : List Nat) (n k x : Nat) (h : n < l.length) : (l.set n x).getD k 0 = if k = n then x else l.getD k 0 := by
  rw [List.getD_eq_getElem?_getD, List.getElem?_set, List.getD_eq_getElem?_getD]
  by_cases e : k = n
  · subst e; simp [h]
  · rw [if_neg (fun h => e h.symm), if_neg e]

/-- The worlds that 'swap' leaves: the heap in them. -/
theorem HeapAt.swapped {w : World} {base hb g cap i j : Nat} {H : Hp} (h : HeapAt w base hb (.slice (some ⟨g, 0, none⟩) H.list.length cap) H) (hi : i < H.list.length) (hj : j < H.list.length) :
    HeapAt ((((((w.setCell ⟨g, i * 2, none⟩ (.int .i64 (H.ent j).1)).setCell ⟨g, i * 2 + 1, none⟩ (.int .i64 (H.ent j).2)).setCell ⟨g, j * 2, none⟩ (.int .i64 (H.ent i).1)).setCell ⟨g, j * 2 + 1, none⟩ (.int .i64 (H.ent i).2)).setCell ⟨hb, 1 + (H.ent j).2, none⟩ (.int .i64 (i + 1))).setCell ⟨hb, 1 + (H.ent i).2, none⟩ (.int .i64 (j + 1)))
      base hb (.slice (some ⟨g, 0, none⟩) H.list.length cap) (swapH H i j) := by
  have hne : g ≠ hb := fun e => h.ne (by simp [Value.ownBlock, e])
  have hi2 := h.ok.ent i
  have hj2 := h.ok.ent j
  have e1 : (flatE ((H.list.set i (H.ent j)).set j (H.ent i))) = ((((flatE H.list).set (i * 2) (.int .i64 ((H.ent j).1 : Int))).set (i * 2 + 1) (.int .i64 ((H.ent j).2 : Int))).set (j * 2) (.int .i64 ((H.ent i).1 : Int))).set (j * 2 + 1) (.int .i64 ((H.ent i).2 : Int)) := by
    rw [flatE_set _ _ _ (by simpa using hj), flatE_set _ _ _ hi]
  refine ⟨swapH_ok h.ok i j, ?_, ?_, h.ne, by rw [swapH_len]; exact h.small⟩
  · refine ((((((h.row.setOther (a := ⟨g, _, none⟩) (Ne.symm hne) _).setOther (a := ⟨g, _, none⟩) (Ne.symm hne) _).setOther (a := ⟨g, _, none⟩) (Ne.symm hne) _).setOther (a := ⟨g, _, none⟩) (Ne.symm hne) _).set _ _).set _ _).congr ?_
    intro x _
    show (if x = 1 + (H.ent i).2 then _ else if x = 1 + (H.ent j).2 then _ else heapRow _ H x) = heapRow _ (swapH H i j) x
    by_cases hx : x = 0
    · subst hx
      rw [if_neg (by omega), if_neg (by omega)]
      simp [heapRow]
    · simp only [heapRow, if_neg hx]
      simp only [Hp.atv, swapH]
      rw [getD_set _ _ _ _ (by simp [h.ok.2]; omega), getD_set _ _ _ _ (by rw [h.ok.2]; omega)]
      by_cases a1 : x = 1 + (H.ent i).2
      · rw [if_pos a1, if_pos (show x - 1 = (H.ent i).2 by omega)]; simp
      · rw [if_neg a1, if_neg (show ¬ x - 1 = (H.ent i).2 by omega)]
        by_cases a2 : x = 1 + (H.ent j).2
        · rw [if_pos a2, if_pos (show x - 1 = (H.ent j).2 by omega)]; simp
        · rw [if_neg a2, if_neg (show ¬ x - 1 = (H.ent j).2 by omega)]
  · have o4 := ((((h.own.stored (i * 2) (.int .i64 ((H.ent j).1 : Int))).1.stored (i * 2 + 1) (.int .i64 ((H.ent j).2 : Int))).1.stored (j * 2) (.int .i64 ((H.ent i).1 : Int))).1.stored (j * 2 + 1) (.int .i64 ((H.ent i).2 : Int))).1
    rw [← e1] at o4
    have hob : (Value.slice (some ⟨g, 0, none⟩) H.list.length cap).ownBlock ≠ some hb := h.ne
    have o6 := ownsRow_setCell_other (ownsRow_setCell_other o4 (a := ⟨hb, 1 + (H.ent j).2, none⟩) hob (.int .i64 (i + 1))) (a := ⟨hb, 1 + (H.ent i).2, none⟩) hob (.int .i64 (j + 1))
    rw [swapH_len]
    exact o6
theorem Tch.swapped {w : World} {hb g n cap : Nat} {o1 o2 o3 o4 o5 o6 : Nat} {a1 a2 a3 a4 a5 a6 : Value} :
    Tch (heapS hb (.slice (some ⟨g, 0, none⟩) n cap)) w ((((((w.setCell ⟨g, o1, none⟩ a1).setCell ⟨g, o2, none⟩ a2).setCell ⟨g, o3, none⟩ a3).setCell ⟨g, o4, none⟩ a4).setCell ⟨hb, o5, none⟩ a5).setCell ⟨hb, o6, none⟩ a6) := by
  have hg : heapS hb (.slice (some ⟨g, 0, none⟩) n cap) g := Or.inr rfl
  have hh : heapS hb (.slice (some ⟨g, 0, none⟩) n cap) hb := Or.inl rfl
  exact ((((((Tch.refl _ _).setCell (Or.inl hg) _).setCell (Or.inl hg) _).setCell (Or.inl hg) _).setCell (Or.inl hg) _).setCell (Or.inl hh) _).setCell (Or.inl hh) _

theorem HeapAt.lst {w : World} {base hb : Nat} {v : Value} {H : Hp} (h : HeapAt w base hb v H) : w.cell? ⟨hb, 0, none⟩ = some v := h.row.cell (i := 0) (by omega)
theorem HeapAt.at1 {w : World} {base hb : Nat} {v : Value} {H : Hp} (h : HeapAt w base hb v H) {n : Nat} (hn : n < 128) : w.cell? ⟨hb, 1 + n, none⟩ = some (.int .i64 (H.atv n : Int)) := by
  have e := h.row.cell (i := 1 + n) (by omega)
  rw [e, heapRow, if_neg (by omega)]
  rw [show 1 + n - 1 = n from by omega]
theorem HeapAt.ent0 {w : World} {base hb g cap : Nat} {H : Hp} (h : HeapAt w base hb (.slice (some ⟨g, 0, none⟩) H.list.length cap) H) {i : Nat} (hi : i < H.list.length) :
    w.cell? ⟨g, i * 2, none⟩ = some (.int .i64 ((H.ent i).1 : Int)) := by
  rw [h.own.cellAt (i * 2) (by omega)]; exact flatE_get0 _ _ hi
theorem HeapAt.ent1 {w : World} {base hb g cap : Nat} {H : Hp} (h : HeapAt w base hb (.slice (some ⟨g, 0, none⟩) H.list.length cap) H) {i : Nat} (hi : i < H.list.length) :
    w.cell? ⟨g, i * 2 + 1, none⟩ = some (.int .i64 ((H.ent i).2 : Int)) := by
  rw [h.own.cellAt (i * 2 + 1) (by omega)]; exact flatE_get1 _ _ hi

end Go.Proofs.Ythllmpgffdocmaa
