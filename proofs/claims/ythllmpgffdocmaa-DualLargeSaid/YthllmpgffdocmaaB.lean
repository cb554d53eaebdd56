/-
  Walks over the heap's methods 'before' and 'swap'.
-/
import Derived.Test.YthllmpgffdocmaaA
import Derived.Test.YthllmpgffdocmaaM
import Derived.RegionTactic
import Derived.BigRegion
import Derived.ChangeAlike
namespace Go.Proofs.Ythllmpgffdocmaa
open Go.RowKit Go.Deep

def lessI (k n k' n' : Int) : Bool := decide (k < k') || (decide (k = k') && decide (n < n'))
theorem lessI_lt {k n k' n' : Int} (h : k < k') : lessI k n k' n' = true := by unfold lessI; rw [decide_eq_true h]; rfl
theorem lessI_ne {k n k' n' : Int} (h : k' ≤ k) (h' : ¬ k = k') : lessI k n k' n' = false := by unfold lessI; rw [decide_eq_false (by omega), decide_eq_false h']; rfl
theorem lessI_eq {k n k' n' : Int} (h : k = k') : lessI k n k' n' = decide (n < n') := by unfold lessI; rw [decide_eq_false (by omega), decide_eq_true h]; simp
theorem lessI_ent (a b : Nat × Nat) : lessI a.1 a.2 b.1 b.2 = lessE a b := by
  unfold lessI lessE
  rw [decide_eq_decide.2 (show (a.1 : Int) < b.1 ↔ a.1 < b.1 by omega), decide_eq_decide.2 (show (a.1 : Int) = b.1 ↔ a.1 = b.1 by omega), decide_eq_decide.2 (show (a.2 : Int) < b.2 ↔ a.2 < b.2 by omega)]

set_option maxHeartbeats 1000000 in
theorem before_cells (hb lb len cap : Nat) (i j : Nat) (k n k' n' : Int) (w : World) (hb1 : hb < w.heap.size) (lb1 : lb < w.heap.size) (_hl : len ≤ 4096) (hi : i < len) (hj : j < len)
    (h0 : w.cell? ⟨hb, 0, none⟩ = some (.slice (some ⟨lb, 0, none⟩) len cap))
    (h1 : w.cell? ⟨lb, i * 2, none⟩ = some (.int .i64 k)) (h2 : w.cell? ⟨lb, i * 2 + 1, none⟩ = some (.int .i64 n))
    (h3 : w.cell? ⟨lb, j * 2, none⟩ = some (.int .i64 k')) (h4 : w.cell? ⟨lb, j * 2 + 1, none⟩ = some (.int .i64 n')) :
    Calls Try.prog 99 #[.pointer (some ⟨hb, 0, none⟩), .int .i64 i, .int .i64 j] w fun e w' => e = .returned (.bool (lessI k n k' n')) ∧ Below w.heap.size w w' := by
  rcases Int.lt_trichotomy k k' with h | h | h
  · rw [lessI_lt h]
    go_enter Try.func99, Try.ntmps99
    go_wp2
    go_region
    all_goals go_wp2
    all_goals go_ret
    all_goals exact ⟨rfl, (((Below.refl _ _).alloc (Nat.le_refl _) _).alloc (by simp) _).drew⟩
  · subst h
    rw [lessI_eq rfl]
    go_enter Try.func99, Try.ntmps99
    go_wp2
    go_region
    all_goals go_wp2
    all_goals go_ret
    all_goals exact ⟨rfl, (((Below.refl _ _).alloc (Nat.le_refl _) _).alloc (by simp) _).drew⟩
  · rw [lessI_ne (by omega) (by omega)]
    have e1 : ¬ k < k' := by omega
    have e2 : (k == k') = false := beq_eq_false_iff_ne.2 (by omega)
    go_enter Try.func99, Try.ntmps99
    go_wp2
    go_region
    all_goals go_wp2
    all_goals go_ret
    all_goals exact ⟨ret_bool (decide_eq_false (by omega)), (((Below.refl _ _).alloc (Nat.le_refl _) _).alloc (by simp) _).drew⟩

/-- before(i, j). -/
theorem before99 {base hb : Nat} {v : Value} {H : Hp} (i j : Int) (w : World) (h : HeapAt w base hb v H) (i0 : 0 ≤ i) (i1 : i < H.list.length) (j0 : 0 ≤ j) (j1 : j < H.list.length) :
    Calls Try.prog 99 #[.pointer (some ⟨hb, 0, none⟩), .int .i64 i, .int .i64 j] w fun e w' => e = .returned (.bool (lessE (H.ent i.toNat) (H.ent j.toNat))) ∧ Below w.heap.size w w' := by
  obtain ⟨i, rfl⟩ := Int.eq_ofNat_of_zero_le i0
  obtain ⟨j, rfl⟩ := Int.eq_ofNat_of_zero_le j0
  obtain ⟨g, cap, rfl, hg, hne, hc, hm⟩ := h.form (by omega)
  rw [← lessI_ent]
  exact before_cells hb g H.list.length cap i j _ _ _ _ w h.row.lt hg h.small (by omega) (by omega) h.lst (h.ent0 (by omega)) (h.ent1 (by omega)) (h.ent0 (by omega)) (h.ent1 (by omega))

end Go.Proofs.Ythllmpgffdocmaa
