/-
  Walk over DualLarge's fixed fact.
-/
import Derived.Test.YthllmpgffdocmaaK2
namespace Go.Proofs.Ythllmpgffdocmaa
open Go.RowKit Go.Deep

def awG : Gr := ⟨[1, 2, 3], [⟨1, 2, 1, 9⟩, ⟨1, 3, 5, 1⟩, ⟨2, 3, 1, 9⟩]⟩
theorem ownsRow_lit (w : World) (cur : Array Value) (n : Nat) (e : TypeId) (size : Nat) (xs : List Value) (h1 : cur.size = n * size) (h2 : cur.toList = xs) (hn : n ≤ maxLen) : (w.alloc (.cells cur e)).ownsRow 0 e size (.slice (some ⟨w.heap.size, 0, none⟩) n n) n xs :=
  ⟨by rw [← h2, ← h1]; simp, .inr ⟨w.heap.size, n, cur, rfl, Nat.zero_le _, heap_alloc_new w _, Nat.le_refl _, hn, h1, by rw [h2]; exact List.take_of_length_le (by rw [← h2, ← h1]; simp)⟩⟩
def okB (G : Gr) : Bool :=
  decide (G.ns.length ≤ 128) && decide (G.ls.length ≤ 2048) && (List.range G.ns.length).all (fun i => decide (G.nd i < 128)) && (List.range (G.ns.length - 1)).all (fun i => decide (G.nd i < G.nd (i + 1))) &&
  (List.range G.ls.length).all (fun i => decide ((G.lk i).f ∈ G.ns) && decide ((G.lk i).t ∈ G.ns) && decide ((G.lk i).f ≠ (G.lk i).t) && decide (1 ≤ (G.lk i).c) && decide ((G.lk i).c ≤ 65535) && decide ((G.lk i).d ≤ 65535)) &&
  (List.range (G.ls.length - 1)).all (fun i => decide ((G.lk i).f < (G.lk (i + 1)).f ∨ (G.lk i).f = (G.lk (i + 1)).f ∧ (G.lk i).t < (G.lk (i + 1)).t))
theorem okB_ok {G : Gr} (h : okB G = true) : G.ok := by
  unfold okB at h
  simp only [Bool.and_eq_true, decide_eq_true_eq, List.all_eq_true, List.mem_range] at h
  obtain ⟨⟨⟨⟨⟨h1, h2⟩, h3⟩, h4⟩, h5⟩, h6⟩ := h
  exact ⟨h1, h2, h3, fun i hi => h4 i (by omega), fun i hi => (h5 i hi).1.1.1.1.1, fun i hi => (h5 i hi).1.1.1.1.2, fun i hi => (h5 i hi).1.1.1.2, fun i hi => (h5 i hi).1.1.2, fun i hi => (h5 i hi).1.2, fun i hi => (h5 i hi).2, fun i hi => h6 i (by omega)⟩
theorem awG_ok : awG.ok := okB_ok (by decide +kernel)
theorem awG_tree : (treeOf awG.ls 1).isSome = true := by decide +kernel
theorem eq39a (w : World) : (binOp .eql 39 (.complex .f64 (fN 2) (fN 18)) (.complex .f64 4611686018427387904 4625759767262920704)).run Try.prog w = .ok (.bool true) w := by kernel_rfl
theorem eq39b (w : World) : (binOp .eql 39 (.complex .f64 (fN 5) (fN 1)) (.complex .f64 4617315517961601024 4607182418800017408)).run Try.prog w = .ok (.bool true) w := by kernel_rfl
def awP (w : World) (e : Ending) (w' : World) : Prop := e = .returned (.bool true) ∧ Below w.heap.size w w'
set_option maxHeartbeats 4000000 in
set_option maxRecDepth 100000 in
theorem awake12 (hC : CheckSaid) (w : World) : Calls Try.prog 12 #[] w (awP w) := by
  have e1 := eq39a
  have e2 := eq39b
  go_enter Try.func12, Try.ntmps12
  go_wp2_with fail
  generalize hw1 : World.alloc w _ = w1
  have hB1 : Below w.heap.size w w1 := by rw [← hw1]; exact (Below.refl _ _).alloc (Nat.le_refl _) _
  have hs1 : w1.heap.size = w.heap.size + 1 := by rw [← hw1]; simp
  have ho1 : w1.ownsRow 0 41 3 (.slice (some ⟨w.heap.size, 0, none⟩) 3 3) 3 (awG.ns.flatMap nodeC) := by
    rw [← hw1]
    exact ownsRow_lit w _ 3 41 3 _ rfl rfl (by unfold maxLen; omega)
  clear hw1
  generalize hw2 : World.alloc w1 _ = w2
  have hB2 : Below w1.heap.size w1 w2 := by rw [← hw2]; exact (Below.refl _ _).alloc (Nat.le_refl _) _
  have hs2 : w2.heap.size = w1.heap.size + 1 := by rw [← hw2]; simp
  have ho2 : w2.ownsRow 0 43 4 (.slice (some ⟨w1.heap.size, 0, none⟩) 3 3) 3 (awG.ls.flatMap linkC) := by
    rw [← hw2]
    exact ownsRow_lit w1 _ 3 43 4 _ rfl rfl (by unfold maxLen; omega)
  clear hw2
  generalize hw3 : World.alloc w2 _ = w3
  have hB3 : Below w2.heap.size w2 w3 := by rw [← hw3]; exact (Below.refl _ _).alloc (Nat.le_refl _) _
  clear hw3
  have h2 : GraphAt w2 (.agg #[.slice (some ⟨w.heap.size, 0, none⟩) 3 3, .slice (some ⟨w1.heap.size, 0, none⟩) 3 3, .slice none 0 0]) awG w.heap.size 3 w1.heap.size 3 :=
    ⟨rfl, ownsRow_below hB2 ho1 (fun k hk => by simp only [Value.ownBlock, Option.some.injEq] at hk; omega), ho2⟩
  have h3 := h2.below' hB3
  have hBB : Below w.heap.size w w3 := (hB1.trans (hB2.mono (by omega))).trans (hB3.mono (by omega))
  rw [hs1] at h3
  clear h2 ho1 ho2 hB1 hB2 hB3
  obtain ⟨R, hR⟩ := Option.isSome_iff_exists.1 awG_tree
  have h11 := Front11 hC 0 2 w3 h3 awG_ok (by decide) (by decide) hR awakeF
  have hsz : w.heap.size ≤ w3.heap.size := hBB.size
  have HBB := Lib.hid hBB; clear hBB h3
  clear hs1 hs2
  refine h11.mono ?_
  clear h11
  rintro e w4 ⟨v, rfl, hB4, hown⟩
  obtain ⟨g, cap, rfl, hg, _⟩ := hown.form (by decide)
  have c0 : w4.cell? ⟨g, 0, none⟩ = some (.complex .f64 (fN 2) (fN 18)) := hown.cellAt 0 (by decide)
  have c1 : w4.cell? ⟨g, 1, none⟩ = some (.complex .f64 (fN 5) (fN 1)) := hown.cellAt 1 (by decide)
  have HB4 := Lib.hid (HBB.out.trans (hB4.mono hsz))
  clear hown hB4 hsz
  simp only [List.length_cons, List.length_nil, Nat.zero_add, Nat.reduceAdd]
  go_wp2_with fail
  go_ret
  exact ⟨rfl, HB4.out⟩
end Go.Proofs.Ythllmpgffdocmaa
