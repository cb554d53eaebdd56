/-
  Walk over dual.Front.
-/
import Derived.Test.YthllmpgffdocmaaK1
import Derived.Test.YthllmpgffdocmaaR3
namespace Go.Proofs.Ythllmpgffdocmaa
open Go.RowKit Go.Deep

def frontP (w : World) (x : Nat × List (Nat × Nat)) (e : Ending) (w' : World) : Prop :=
  ∃ v, e = .returned (.tuple #[v, .int .i64 (x.1 : Int)]) ∧ Below w.heap.size w w' ∧ w'.ownsRow w.heap.size 39 1 v x.2.length (x.2.map prV)
theorem frontF_cases {ls : List Lk} {a b : Nat} {x : Nat × List (Nat × Nat)} (h : frontF ls a b = some x) :
    ∃ r, walkF (rowLs ls) 1000 [⟨0, 0, a⟩] (List.replicate 128 []) = some r ∧ ((r.1 = true ∧ x = (7, [])) ∨ (r.1 = false ∧ x = (0, r.2.getD b []))) := by
  unfold frontF at h
  split at h
  · cases h
  · rename_i F hF
    exact ⟨_, hF, Or.inl ⟨rfl, by simpa using h.symm⟩⟩
  · rename_i F hF
    exact ⟨_, hF, Or.inr ⟨rfl, by simpa using h.symm⟩⟩

set_option maxRecDepth 100000 in
theorem zero68 (w : World) : (w.alloc (.cells Try.zeroCells68 68)).rowIs w.heap.size 68 128 (fun _ => .slice none 0 0) := by
  have hs : Try.zeroCells68.size = 128 := by kernel_rfl
  have hall : (List.range 128).all (fun i => match Try.zeroCells68[i]? with | some (.slice none 0 0) => true | _ => false) = true := by kernel_rfl
  have h := World.rowIs_alloc w Try.zeroCells68 68 (fun _ => .slice none 0 0) (by
    intro i hi
    have h1 := List.all_eq_true.1 hall i (by rw [hs] at hi; simpa using hi)
    split at h1
    · rename_i e1; exact e1
    · cases h1)
  rw [hs] at h
  exact h
theorem fr_start {w : World} {fb : Nat} (B : Nat) (h : w.rowIs fb 68 128 (fun _ => .slice none 0 0)) : FrontsAt w B fb (fun _ => .slice none 0 0) (List.replicate 128 []) := by
  have e : ∀ u, (List.replicate 128 ([] : List (Nat × Nat))).getD u [] = [] := by
    intro u
    rw [List.getD_eq_getElem?_getD, List.getElem?_replicate]
    split <;> rfl
  refine ⟨List.length_replicate, h, fun u _ => ?_, fun u _ p hp => ?_, fun u _ => by simp [Value.ownBlock], fun u v _ _ _ b hb => by simp [Value.ownBlock] at hb⟩
  · rw [e]; exact World.ownsRow_nil w B 39 1
  · rw [e] at hp; cases hp

set_option maxHeartbeats 4000000 in
set_option maxRecDepth 100000 in
theorem Front11 (hC : CheckSaid) {G : Gr} {gv : Value} {bn cn bl cl : Nat} {R : List Nat} {x : Nat × List (Nat × Nat)} (pa pb : Nat) (w : World) (h : GraphAt w gv G bn cn bl cl) (hok : G.ok) (ha : pa < G.ns.length) (hb : pb < G.ns.length)
    (hR : treeOf G.ls (G.nd pa) = some R) (hx : frontF G.ls (G.nd pa) (G.nd pb) = some x) :
    Calls Try.prog 11 #[gv, .int .i64 (G.nd pa : Int), .int .i64 (G.nd pb : Int)] w (frontP w x) := by
  have hgv := h.eq
  subst hgv
  have ha7 := hok.nr pa ha
  have hb7 := hok.nr pb hb
  obtain ⟨r, hr, hcase⟩ := frontF_cases hx
  have HR := Lib.hid hR; clear hR
  have HW := Lib.hid hr; clear hr
  have HC := Lib.hid hcase; clear hcase hx
  go_enter Try.func11, Try.ntmps11
  go_wp2_with fail
  generalize hw1 : World.alloc w _ = w1
  have hB1 : Below w.heap.size w w1 := by rw [← hw1]; exact (Below.refl _ _).alloc (Nat.le_refl _) _
  have hs1 : w1.heap.size = w.heap.size + 1 := by rw [← hw1]; simp
  have x0 : w1.cell? ⟨w.heap.size, 0, none⟩ = some (.slice (some ⟨bn, 0, none⟩) G.ns.length cn) := by rw [← hw1]; simp [go_sem]
  have x1 : w1.cell? ⟨w.heap.size, 1, none⟩ = some (.slice (some ⟨bl, 0, none⟩) G.ls.length cl) := by rw [← hw1]; simp [go_sem]
  have x2 : w1.cell? ⟨w.heap.size, 2, none⟩ = some (.slice none 0 0) := by rw [← hw1]; simp [go_sem]
  clear hw1
  have h1 := h.below' hB1
  refine (Dist28 hC pa pb w1 h1 hok ha hb HR.out).mono ?_
  rintro e w2 ⟨rfl, hB2⟩
  have hs2 := hB2.size
  have x0' := (hB2.cell (p := ⟨w.heap.size, 0, none⟩) (by simp; omega)).trans x0
  have x1' := (hB2.cell (p := ⟨w.heap.size, 1, none⟩) (by simp; omega)).trans x1
  have x2' := (hB2.cell (p := ⟨w.heap.size, 2, none⟩) (by simp; omega)).trans x2
  have h2 := h1.below' hB2
  have hB := hB1.trans (hB2.mono (by omega))
  clear x0 x1 x2 hB1 hB2 h h1
  have HB := Lib.hid hB; clear hB
  have hlt2 : w.heap.size < w2.heap.size := by omega
  have HS := Lib.hid hs1; clear hs1
  generalize (R.getD (G.nd pb) 0 : Nat) = dd
  go_wp2_with fail
  have hB3 : Below w2.heap.size w2 (w2.alloc (.cells Try.zeroCells68 68)) := (Below.refl _ _).alloc (Nat.le_refl _) _
  have hz := zero68 w2
  have hs3 : (w2.alloc (.cells Try.zeroCells68 68)).heap.size = w2.heap.size + 1 := by simp
  generalize World.alloc w2 _ = w3 at *
  generalize hw4 : World.alloc w3 _ = w4
  have hB4 : Below w3.heap.size w3 w4 := by rw [← hw4]; exact (Below.refl _ _).alloc (Nat.le_refl _) _
  have he4 : w4.rowIs (w2.heap.size + 1) 26 1 (fun _ => .int .i64 0) := by
    rw [← hw4, ← hs3]
    exact World.rowIs_alloc w3 #[.int .i64 0] 26 _ (fun i hi => by
      match i, hi with
      | 0, _ => rfl)
  have hs4 : w4.heap.size = w2.heap.size + 1 + 1 := by rw [← hw4]; simp [hs3]
  clear hw4
  have hz4 := rowIs_below hB4 hz hz.lt
  have h4 := (h2.below' hB3).below' hB4
  have hBB : Below w.heap.size w w4 := (HB.out.trans (hB3.mono (by omega))).trans (hB4.mono (by omega))
  clear hB3 hz hB4 HB h2 x0' x1' x2'
  have hwk := walk29 (G.nd pa) w4 h4 hok ha7 w2.heap.size (w2.heap.size + 1) (fr_start w4.heap.size hz4) he4 (by omega) HW.out
  have HBB := Lib.hid hBB; clear hBB
  have HS3 := Lib.hid hs3; clear hs3
  have HS4 := Lib.hid hs4; clear hs4
  clear hz4 he4 h4 HS
  generalize w2.heap.size = fb at *
  refine hwk.mono ?_
  clear hwk
  rintro e w5 ⟨rfl, hT5, h5⟩
  have hB5 : Below w.heap.size w w5 := by
    have e1 := HS4.out
    exact HBB.out.trans (hT5.below (fun n _ hn => by rcases hn with h | h <;> omega) (by omega))
  have HB5 := Lib.hid hB5; clear hB5 hT5
  rcases h5 with ⟨hr1, he5⟩ | ⟨hr1, he5, f', hf5⟩
  · have hx : x = (7, []) := by
      rcases HC.out with ⟨_, h⟩ | ⟨h, _⟩
      · exact h
      · rw [hr1] at h; cases h
    have HX := Lib.hid hx; clear hx hr1
    have c5 : w5.cell? ⟨fb + 1, 0, none⟩ = some (.int .i64 7) := he5.cell (i := 0) (by omega)
    clear he5 HC
    go_wp2_with fail
    go_quiet (fail)
    go_wp2_with fail
    go_ret2
    rw [HX.out]
    exact ⟨_, rfl, below_drewN HB5.out _, World.ownsRow_nil _ _ 39 1⟩
  · have hx : x = (0, r.2.getD (G.nd pb) []) := by
      rcases HC.out with ⟨h, _⟩ | ⟨_, h⟩
      · rw [hr1] at h; cases h
      · exact h
    have HX := Lib.hid hx; clear hx hr1
    have c5 : w5.cell? ⟨fb + 1, 0, none⟩ = some (.int .i64 0) := he5.cell (i := 0) (by omega)
    have hsl := hf5.slot hb7
    have hown := hf5.own _ hb7
    obtain ⟨av, cap, hv, _⟩ := hf5.form hb7
    rw [hv] at hsl hown
    have HO := Lib.hid hown; clear hown
    have hp0 : (0 : Int) ≤ (G.nd pb : Int) := by omega
    have hp1 : (G.nd pb : Int) < 128 := by omega
    clear he5 HC hf5 hv
    go_wp2_with fail
    go_ret2
    rw [HX.out]
    have e1 := HS4.out
    exact ⟨_, rfl, HB5.out, ownsRow_le HO.out (by omega)⟩
end Go.Proofs.Ythllmpgffdocmaa
