/-
  Walk over the heap's method 'swap'.
-/
import Derived.Test.YthllmpgffdocmaaA
import Derived.Test.YthllmpgffdocmaaM
import Derived.RegionTactic
import Derived.BigRegion
import Derived.ChangeAlike
import Derived.Deep.OwnRows
namespace Go.Proofs.Ythllmpgffdocmaa
open Go.RowKit Go.Deep

set_option maxHeartbeats 4000000 in
theorem swap_cells (hb lb len cap : Nat) (i j : Nat) (k k' : Int) (m m' : Nat) (x x' : Value) (w : World) (_hne : ¬ lb = hb) (hne' : ¬ hb = lb) (hl : len ≤ 4096) (hi : i < len) (hj : j < len) (hij : ¬ i = j) (hij' : ¬ j = i)
    (hm : m < 128) (hm' : m' < 128) (hmm : ¬ m = m') (hmm' : ¬ m' = m)
    (h0 : w.cell? ⟨hb, 0, none⟩ = some (.slice (some ⟨lb, 0, none⟩) len cap))
    (h1 : w.cell? ⟨lb, i * 2, none⟩ = some (.int .i64 k)) (h2 : w.cell? ⟨lb, i * 2 + 1, none⟩ = some (.int .i64 m))
    (h3 : w.cell? ⟨lb, j * 2, none⟩ = some (.int .i64 k')) (h4 : w.cell? ⟨lb, j * 2 + 1, none⟩ = some (.int .i64 m'))
    (h5 : w.cell? ⟨hb, 1 + m, none⟩ = some x) (h6 : w.cell? ⟨hb, 1 + m', none⟩ = some x') 
    (f1 : ∀ o, w.frozen? ⟨lb, o, none⟩ = false) (f2 : ∀ o, w.frozen? ⟨hb, o, none⟩ = false) :
    Calls Try.prog 100 #[.pointer (some ⟨hb, 0, none⟩), .int .i64 i, .int .i64 j] w fun e w' => e = .returned (.tuple #[]) ∧ 
      Dr ((((((w.setCell ⟨lb, i * 2, none⟩ (.int .i64 k')).setCell ⟨lb, i * 2 + 1, none⟩ (.int .i64 m')).setCell ⟨lb, j * 2, none⟩ (.int .i64 k)).setCell ⟨lb, j * 2 + 1, none⟩ (.int .i64 m)).setCell ⟨hb, 1 + m', none⟩ (.int .i64 (i + 1))).setCell ⟨hb, 1 + m, none⟩ (.int .i64 (j + 1))) w' := by
  have d1 : ¬ i * 2 = j * 2 + 1 := by omega
  have d2 : ¬ i * 2 + 1 = j * 2 := by omega
  have d3 : ¬ j * 2 = i * 2 + 1 := by omega
  have d4 : ¬ j * 2 + 1 = i * 2 := by omega
  go_enter Try.func100, Try.ntmps100
  go_wp2
  go_region
  go_wp2
  go_region
  go_end0
  exact ⟨rfl, ((Dr.refl _).drew).drew⟩

set_option maxHeartbeats 4000000 in
theorem swap_cells_eq (hb lb len cap : Nat) (i j : Nat) (k k' : Int) (m : Nat) (x : Value) (w : World) (_hne : ¬ lb = hb) (hne' : ¬ hb = lb) (hl : len ≤ 4096) (hi : i < len) (hj : j < len) (hij : ¬ i = j) (hij' : ¬ j = i)
    (hm : m < 128) 
    (h0 : w.cell? ⟨hb, 0, none⟩ = some (.slice (some ⟨lb, 0, none⟩) len cap))
    (h1 : w.cell? ⟨lb, i * 2, none⟩ = some (.int .i64 k)) (h2 : w.cell? ⟨lb, i * 2 + 1, none⟩ = some (.int .i64 m))
    (h3 : w.cell? ⟨lb, j * 2, none⟩ = some (.int .i64 k')) (h4 : w.cell? ⟨lb, j * 2 + 1, none⟩ = some (.int .i64 m))
    (h5 : w.cell? ⟨hb, 1 + m, none⟩ = some x)  
    (f1 : ∀ o, w.frozen? ⟨lb, o, none⟩ = false) (f2 : ∀ o, w.frozen? ⟨hb, o, none⟩ = false) :
    Calls Try.prog 100 #[.pointer (some ⟨hb, 0, none⟩), .int .i64 i, .int .i64 j] w fun e w' => e = .returned (.tuple #[]) ∧ 
      Dr ((((((w.setCell ⟨lb, i * 2, none⟩ (.int .i64 k')).setCell ⟨lb, i * 2 + 1, none⟩ (.int .i64 m)).setCell ⟨lb, j * 2, none⟩ (.int .i64 k)).setCell ⟨lb, j * 2 + 1, none⟩ (.int .i64 m)).setCell ⟨hb, 1 + m, none⟩ (.int .i64 (i + 1))).setCell ⟨hb, 1 + m, none⟩ (.int .i64 (j + 1))) w' := by
  have d1 : ¬ i * 2 = j * 2 + 1 := by omega
  have d2 : ¬ i * 2 + 1 = j * 2 := by omega
  have d3 : ¬ j * 2 = i * 2 + 1 := by omega
  have d4 : ¬ j * 2 + 1 = i * 2 := by omega
  go_enter Try.func100, Try.ntmps100
  go_wp2
  go_region
  go_wp2
  go_region
  go_end0
  exact ⟨rfl, ((Dr.refl _).drew).drew⟩
set_option maxHeartbeats 1000000 in
theorem swap_cells_ii (hb lb len cap : Nat) (i : Nat) (k : Int) (m : Nat) (x : Value) (w : World) (_hne : ¬ lb = hb) (_hne' : ¬ hb = lb) (hl : len ≤ 4096) (hi : i < len) 
    (hm : m < 128) 
    (h0 : w.cell? ⟨hb, 0, none⟩ = some (.slice (some ⟨lb, 0, none⟩) len cap))
    (h1 : w.cell? ⟨lb, i * 2, none⟩ = some (.int .i64 k)) (h2 : w.cell? ⟨lb, i * 2 + 1, none⟩ = some (.int .i64 m))
    (h5 : w.cell? ⟨hb, 1 + m, none⟩ = some x)  
    (f1 : ∀ o, w.frozen? ⟨lb, o, none⟩ = false) (f2 : ∀ o, w.frozen? ⟨hb, o, none⟩ = false) :
    Calls Try.prog 100 #[.pointer (some ⟨hb, 0, none⟩), .int .i64 i, .int .i64 i] w fun e w' => e = .returned (.tuple #[]) ∧ 
      Dr ((w.setCell ⟨hb, 1 + m, none⟩ (.int .i64 (i + 1))).setCell ⟨hb, 1 + m, none⟩ (.int .i64 (i + 1))) w' := by
  have s1 := setCell_self h1
  have s2 := setCell_self h2
  go_enter Try.func100, Try.ntmps100
  go_wp2
  go_region
  go_wp2
  go_region
  go_end0
  exact ⟨rfl, ((Dr.refl _).drew).drew⟩

/-- swap(i, j). -/
theorem swap100 {base hb : Nat} {v : Value} {H : Hp} (i j : Int) (w : World) (h : HeapAt w base hb v H) (i0 : 0 ≤ i) (i1 : i < H.list.length) (j0 : 0 ≤ j) (j1 : j < H.list.length) :
    Calls Try.prog 100 #[.pointer (some ⟨hb, 0, none⟩), .int .i64 i, .int .i64 j] w fun e w' => e = .returned (.tuple #[]) ∧ HeapAt w' base hb v (swapH H i.toNat j.toNat) ∧ Tch (heapS hb v) w w' := by
  obtain ⟨i, rfl⟩ := Int.eq_ofNat_of_zero_le i0
  obtain ⟨j, rfl⟩ := Int.eq_ofNat_of_zero_le j0
  obtain ⟨g, cap, rfl, hg, hne, hc, hm⟩ := h.form (by omega)
  have hi : i < H.list.length := by omega
  have hj : j < H.list.length := by omega
  have f1 : ∀ o, w.frozen? ⟨g, o, none⟩ = false := fun o => h.own.frozenAt o
  have f2 : ∀ o, w.frozen? ⟨hb, o, none⟩ = false := fun o => h.row.frozen o
  have hi2 := h.ok.ent i
  have hj2 := h.ok.ent j
  simp only [Int.toNat_natCast]
  by_cases hij : i = j
  · subst hij
    refine (swap_cells_ii hb g H.list.length cap i _ _ _ w hne (Ne.symm hne) h.small hi hi2 h.lst (h.ent0 hi) (h.ent1 hi) (h.at1 hi2) f1 f2).mono ?_
    rintro e w' ⟨rfl, hd⟩
    have q := h.swapped hi hi
    rw [setCell_self (h.ent0 hi), setCell_self (h.ent1 hi), setCell_self (h.ent0 hi), setCell_self (h.ent1 hi)] at q
    exact ⟨rfl, q.dr hd, (((Tch.refl _ _).setCell (Or.inl (Or.inl rfl)) _).setCell (Or.inl (Or.inl rfl)) _).dr hd⟩
  · by_cases hmm : (H.ent i).2 = (H.ent j).2
    · have q := h.swapped hi hj
      have c1 := h.ent1 hj
      have c2 := h.at1 hi2
      rw [← hmm] at c1 q
      refine (swap_cells_eq hb g H.list.length cap i j _ _ (H.ent i).2 _ w hne (Ne.symm hne) h.small hi hj hij (Ne.symm hij) hi2 h.lst (h.ent0 hi) (h.ent1 hi) (h.ent0 hj) c1 c2 f1 f2).mono ?_
      rintro e w' ⟨rfl, hd⟩
      exact ⟨rfl, q.dr hd, Tch.swapped.dr hd⟩
    · refine (swap_cells hb g H.list.length cap i j _ _ _ _ _ _ w hne (Ne.symm hne) h.small hi hj hij (Ne.symm hij) hi2 hj2 hmm (Ne.symm hmm) h.lst (h.ent0 hi) (h.ent1 hi) (h.ent0 hj) (h.ent1 hj) (h.at1 hi2) (h.at1 hj2) f1 f2).mono ?_
      rintro e w' ⟨rfl, hd⟩
      exact ⟨rfl, (h.swapped hi hj).dr hd, Tch.swapped.dr hd⟩

end Go.Proofs.Ythllmpgffdocmaa
