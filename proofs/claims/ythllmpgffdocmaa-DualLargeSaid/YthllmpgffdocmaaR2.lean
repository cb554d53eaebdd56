/-
  What stands in memory while full.View's Tree runs.
-/
import Derived.Test.YthllmpgffdocmaaR0
namespace Go.Proofs.Ythllmpgffdocmaa
open Go.RowKit Go.Deep

/-- The blocks of one run: the answer's, the tree's, the distances', the parents', the heap's. -/
structure TreeOrd (rb tb db pb hb : Nat) : Prop where
  rt : rb < tb
  rd : rb < db
  rp : rb < pb
  th : tb < hb
  dh : db < hb
  ph : pb < hb
  td : tb ≠ db
  tp : tb ≠ pb
  dp : db ≠ pb
structure TreeSt (w : World) (root tb db pb hp hb : Nat) (D : List Nat) (H : Hp) (v : Value) (wr : World) : Prop where
  o : TreeOrd w.heap.size tb db pb hb
  t : wr.rowIs tb 79 4 (treeRow root db pb hp)
  d : wr.rowIs db 3 128 (distRow D)
  p : ∃ p, (∀ i, p i < 2 ^ 64) ∧ wr.rowIs pb 25 256 (parRow p)
  h : HeapAt wr hb hb v H
  r : wr.rowIs w.heap.size 79 4 (fun i => if i = 0 then .int .i64 0 else .slice none 0 0)
  below : Below w.heap.size w wr
  len : D.length = 128

variable {w wr wr' : World} {root tb db pb hp hb : Nat} {D : List Nat} {H : Hp} {v : Value}
theorem TreeSt.ge (s : TreeSt w root tb db pb hp hb D H v wr) : ∀ k, v.ownBlock = some k → hb ≤ k := fun k hk => (s.h.own.lt k hk).1
theorem TreeSt.not (s : TreeSt w root tb db pb hp hb D H v wr) {k : Nat} (hk : k < hb) : ¬ heapS hb v k := by
  rintro (h | h)
  · omega
  · have := s.ge k h; omega
/-- A call of the heap. -/
theorem TreeSt.heap {H' : Hp} {v' : Value} (s : TreeSt w root tb db pb hp hb D H v wr) (d : Tch (heapS hb v) wr wr') (h' : HeapAt wr' hb hb v' H') : TreeSt w root tb db pb hp hb D H' v' wr' where
  o := s.o
  t := rowIs_tch d s.t (s.not s.o.th)
  d := rowIs_tch d s.d (s.not s.o.dh)
  p := by obtain ⟨p, h1, h2⟩ := s.p; exact ⟨p, h1, rowIs_tch d h2 (s.not s.o.ph)⟩
  h := h'
  r := rowIs_tch d s.r (s.not (by have := s.o.rt; have := s.o.th; omega))
  below := s.below.trans (d.below (fun n _ hn => by
    have := s.o.rt
    have := s.o.th
    rcases hn with h | h
    · omega
    · have := s.ge n h; omega) s.below.size)
  len := s.len
theorem TreeSt.below' (s : TreeSt w root tb db pb hp hb D H v wr) (b : Below wr.heap.size wr wr') : TreeSt w root tb db pb hp hb D H v wr' where
  o := s.o
  t := rowIs_below b s.t s.t.lt
  d := rowIs_below b s.d s.d.lt
  p := by obtain ⟨p, h1, h2⟩ := s.p; exact ⟨p, h1, rowIs_below b h2 h2.lt⟩
  h := s.h.below' b
  r := rowIs_below b s.r s.r.lt
  below := s.below.trans (b.mono s.below.size)
  len := s.len
theorem TreeSt.alloc (s : TreeSt w root tb db pb hp hb D H v wr) (o : Obj) : TreeSt w root tb db pb hp hb D H v (wr.alloc o) := s.below' ((Below.refl _ _).alloc (Nat.le_refl _) o)
theorem TreeSt.drew (s : TreeSt w root tb db pb hp hb D H v wr) : TreeSt w root tb db pb hp hb D H v wr.drew := s.below' (Below.refl _ _).drew
theorem TreeSt.drewN (s : TreeSt w root tb db pb hp hb D H v wr) (n : Nat) : TreeSt w root tb db pb hp hb D H v (wr.drewN n) := s.below' ((Dr.refl _).drewN n |>.below (Below.refl _ _))
theorem TreeSt.dr (s : TreeSt w root tb db pb hp hb D H v wr) (d : Dr wr wr') : TreeSt w root tb db pb hp hb D H v wr' := s.below' (d.below (Below.refl _ _))
theorem TreeSt.own (s : TreeSt w root tb db pb hp hb D H v wr) {k : Nat} (hk : k < hb) : v.ownBlock ≠ some k := fun e => by have := s.ge k e; omega
/-- A distance is stored. -/
theorem TreeSt.setD (s : TreeSt w root tb db pb hp hb D H v wr) {t : Nat} (c : Nat) (ht : t < 128) : TreeSt w root tb db pb hp hb (D.set t c) H v (wr.setCell ⟨db, t, none⟩ (.int .i64 (c : Int))) where
  o := s.o
  t := s.t.setOther (a := ⟨db, t, none⟩) s.o.td _
  d := (s.d.set t _).congr (fun i _ => distRow_set D t c (by rw [s.len]; exact ht) i)
  p := by obtain ⟨p, h1, h2⟩ := s.p; exact ⟨p, h1, h2.setOther (a := ⟨db, t, none⟩) (Ne.symm s.o.dp) _⟩
  h := s.h.setOther (a := ⟨db, t, none⟩) (by have := s.o.dh; simp; omega) (s.own s.o.dh) _
  r := s.r.setOther (a := ⟨db, t, none⟩) (by have := s.o.rd; simp; omega) _
  below := s.below.setCell (p := ⟨db, t, none⟩) (by have := s.o.rd; simp; omega) _
  len := by rw [List.length_set]; exact s.len
/-- A word of a set of parents is stored. -/
theorem TreeSt.setP (s : TreeSt w root tb db pb hp hb D H v wr) (i x : Nat) (hx : x < 2 ^ 64) : TreeSt w root tb db pb hp hb D H v (wr.setCell ⟨pb, i, none⟩ (.int .u64 (x : Int))) where
  o := s.o
  t := s.t.setOther (a := ⟨pb, i, none⟩) s.o.tp _
  d := s.d.setOther (a := ⟨pb, i, none⟩) s.o.dp _
  p := by
    obtain ⟨p, h1, h2⟩ := s.p
    refine ⟨fun j => if j = i then x else p j, fun j => ?_, (h2.set i _).congr (fun j _ => ?_)⟩
    · simp only; split; exact hx; exact h1 j
    · unfold parRow; simp only; split <;> rfl
  h := s.h.setOther (a := ⟨pb, i, none⟩) (by have := s.o.ph; simp; omega) (s.own s.o.ph) _
  r := s.r.setOther (a := ⟨pb, i, none⟩) (by have := s.o.rp; simp; omega) _
  below := s.below.setCell (p := ⟨pb, i, none⟩) (by have := s.o.rp; simp; omega) _
  len := s.len
theorem TreeSt.t1 (s : TreeSt w root tb db pb hp hb D H v wr) : wr.cell? ⟨tb, 1, none⟩ = some (.slice (some ⟨db, 0, none⟩) 128 128) := s.t.cell (i := 1) (by omega)
theorem TreeSt.t2 (s : TreeSt w root tb db pb hp hb D H v wr) : wr.cell? ⟨tb, 2, none⟩ = some (.slice (some ⟨pb, 0, none⟩) 128 128) := s.t.cell (i := 2) (by omega)
theorem TreeSt.dc (s : TreeSt w root tb db pb hp hb D H v wr) {i : Nat} (hi : i < 128) : wr.cell? ⟨db, i, none⟩ = some (.int .i64 (D.getD i 0 : Int)) := s.d.cell hi
theorem TreeSt.lt (s : TreeSt w root tb db pb hp hb D H v wr) : hb < wr.heap.size := s.h.row.lt

/-- A link of a list of the view. -/
theorem ViewAt.form {base vb : Nat} {f : Nat → Value} {xs : Nat → List Lk} (h : ViewAt w base vb f xs) {u : Nat} (hu : u < 256) :
    (f u = .slice none 0 0 ∧ xs u = []) ∨ ∃ g cap, f u = .slice (some ⟨g, 0, none⟩) (xs u).length cap ∧ g < w.heap.size ∧ ∀ i l j, (xs u)[i]? = some l → j < 4 → w.cell? ⟨g, i * 4 + j, none⟩ = (linkC l)[j]? := by
  have o := h.own u hu
  rcases o.2 with ⟨h1, h0⟩ | ⟨g, cap, cur, hv, _⟩
  · exact Or.inl ⟨h1, List.eq_nil_of_length_eq_zero h0⟩
  · refine Or.inr ⟨g, cap, hv, ?_, fun i l j hi hj => ?_⟩
    · exact (o.lt g (by rw [hv]; rfl)).2
    · rw [hv] at o
      have hl : i < (xs u).length := (List.getElem?_eq_some_iff.1 hi).1
      rw [o.cellAt _ (by omega), flatMap_get linkC 4 (fun _ => rfl) _ _ _ hj, hi]
      rfl
theorem ViewAt.form_or {base vb : Nat} {f : Nat → Value} {xs : Nat → List Lk} (h : ViewAt w base vb f xs) {u : Nat} (hu : u < 256) :
    ∃ a cap, f u = .slice a (xs u).length cap ∧ ∀ i l, (xs u)[i]? = some l → ∃ g, a = some ⟨g, 0, none⟩ ∧ g < w.heap.size ∧ ∀ j, j < 4 → w.cell? ⟨g, i * 4 + j, none⟩ = (linkC l)[j]? := by
  rcases h.form hu with ⟨h1, h2⟩ | ⟨g, cap, hv, hg, hc⟩
  · refine ⟨none, 0, by rw [h1, h2]; rfl, fun i l hi => ?_⟩
    rw [h2] at hi
    simp at hi
  · exact ⟨_, cap, hv, fun i l hi => ⟨g, rfl, hg, fun j hj => hc i l j hi hj⟩⟩
theorem rowLs_out {ls : List Lk} {u i : Nat} {l : Lk} (hu : u < 128) (h : (rowLs ls u)[i]? = some l) : l ∈ ls ∧ l.f = u := by
  have h1 := List.mem_of_getElem? h
  unfold rowLs selL at h1
  rw [List.mem_filter, if_pos hu, decide_eq_true_eq] at h1
  exact h1
theorem Gr.ok.at {G : Gr} (h : G.ok) {l : Lk} (hl : l ∈ G.ls) : l.f < 128 ∧ l.t < 128 ∧ l.c ≤ 65535 ∧ l.d ≤ 65535 := by
  obtain ⟨i, hi, rfl⟩ := List.getElem_of_mem hl
  have e : G.lk i = G.ls[i] := by unfold Gr.lk; rw [List.getD_eq_getElem?_getD, List.getElem?_eq_getElem hi]; rfl
  rw [← e]
  exact ⟨h.mem (h.lf i hi), h.mem (h.lt i hi), h.c2 i hi, h.d2 i hi⟩

theorem treeF_nil {out : Nat → List Lk} {k : Nat} {D R : List Nat} {H : Hp} (h : treeF out (k + 1) (D, H) = some R) (hl : H.list = []) : D = R := by
  unfold treeF at h
  rw [if_pos hl] at h
  exact Option.some.inj h
theorem treeF_cons {out : Nat → List Lk} {k : Nat} {D R : List Nat} {H : Hp} (h : treeF out (k + 1) (D, H) = some R) (hl : H.list ≠ []) :
    (H.ent 0).1 ≤ 1073741824 ∧ ∃ S, relaxAll (H.ent 0).1 (out (H.ent 0).2) (D, takeH H) = some S ∧ treeF out k S = some R := by
  unfold treeF at h
  rw [if_neg hl] at h
  split at h
  · exact ⟨by assumption, Option.bind_eq_some_iff.1 h⟩
  · cases h
theorem relaxAll_cons {d : Nat} {l : Lk} {r : List Lk} {s S : List Nat × Hp} (h : relaxAll d (l :: r) s = some S) : ∃ s', relaxF d l s = some s' ∧ relaxAll d r s' = some S := by
  unfold relaxAll at h
  exact Option.bind_eq_some_iff.1 h
theorem relaxF_cases {d : Nat} {l : Lk} {D : List Nat} {H : Hp} {s' : List Nat × Hp} (h : relaxF d l (D, H) = some s') :
    (D.getD l.t 0 = 1073741824 ∧ H.atv l.t = 0 ∧ H.list.length < 4096 ∧ s' = ((if sumN d l.c < D.getD l.t 0 then D.set l.t (sumN d l.c) else D), pushH H l.t (sumN d l.c))) ∨
    (D.getD l.t 0 ≠ 1073741824 ∧ sumN d l.c < D.getD l.t 0 ∧ H.atv l.t ≠ 0 ∧ H.atv l.t - 1 < H.list.length ∧ sumN d l.c < (H.ent (H.atv l.t - 1)).1 ∧ s' = (D.set l.t (sumN d l.c), lowerH H l.t (sumN d l.c))) ∨
    (D.getD l.t 0 ≠ 1073741824 ∧ ¬ sumN d l.c < D.getD l.t 0 ∧ s' = (D, H)) := by
  unfold relaxF at h
  simp only at h
  split at h
  · split at h
    · cases h
      rename_i h1 h2
      exact Or.inl ⟨h1, h2.1, h2.2, rfl⟩
    · cases h
  · split at h
    · split at h
      · cases h
        rename_i h1 h2 h3
        exact Or.inr (Or.inl ⟨h1, h2, h3.1, h3.2.1, h3.2.2, rfl⟩)
      · cases h
    · cases h
      exact Or.inr (Or.inr ⟨by assumption, by assumption, rfl⟩)
theorem sumI_nat (a b : Nat) : sumI (a : Int) (b : Int) = (sumN a b : Int) := by
  unfold sumI sumN
  split <;> split <;> omega
theorem sumN_le (a b : Nat) : sumN a b ≤ 1073741824 := by unfold sumN; split <;> omega
theorem atv_empty (n : Nat) : emptyH.atv n = 0 := by
  unfold Hp.atv emptyH
  rw [List.getD_eq_getElem?_getD, List.getElem?_replicate]
  split <;> rfl
theorem cell_set_far {w : World} {b b' o o' : Nat} {x v : Value} (hn : b' ≠ b) (h : w.cell? ⟨b', o', none⟩ = some v) : (w.setCell ⟨b, o, none⟩ x).cell? ⟨b', o', none⟩ = some v :=
  (World.cell?_of_block (w := w) (blk_setCell_other _ _ _ _ hn)).trans h
theorem frozen_set {w : World} {p q : Addr} {x : Value} (h : w.frozen? q = false) : (w.setCell p x).frozen? q = false := by simpa [go_sem] using h
end Go.Proofs.Ythllmpgffdocmaa
