/-
  Walk over dual.take: the last label.
-/
import Derived.Test.YthllmpgffdocmaaW
import Derived.RegionTactic
import Derived.BigRegion
namespace Go.Proofs.Ythllmpgffdocmaa
open Go.RowKit Go.Deep

def takeN (w : World) (e : Ending) (w' : World) : Prop := (∃ x, e = .returned (.tuple #[.agg x, .bool false]) ∧ x = #[.complex .f64 0 0, .int .i64 0]) ∧ Below w.heap.size w w'
set_option maxHeartbeats 4000000 in
set_option maxRecDepth 100000 in
theorem take48_nil {base wb : Nat} {v : Value} (w : World) (h : WaysAt w base wb v []) :
    Calls Try.prog 48 #[.pointer (some ⟨wb, 0, none⟩)] w (takeN w) := by
  obtain ⟨hrow, hL, hvw⟩ := h
  obtain ⟨av, cap, hv, _⟩ := hL.form
  have hwl := hrow.lt
  have c0 : w.cell? ⟨wb, 0, none⟩ = some v := hrow.cell (i := 0) (by omega)
  rw [hv] at c0
  simp only [List.length_nil] at c0
  clear hrow hL hvw hv
  go_enter Try.func48, Try.ntmps48
  go_wp2_with fail
  refine bodyPost_ret (v := .tuple #[.agg #[.complex .f64 0 0, .int .i64 0], .bool false]) (by simp [results, Try.results48, go_sem]) rfl ⟨⟨_, rfl, rfl⟩, ?_⟩
  exact (Below.refl _ _).alloc (Nat.le_refl _) _

def takeC (base wb : Nat) (v : Value) (w : World) (ys : List Lb) (l : Lb) (e : Ending) (w' : World) : Prop :=
  e = .returned (.tuple #[lbV l, .bool true]) ∧ ∃ v', WaysAt w' base wb v' ys ∧ Tch (waysS wb v) w w' ∧ v'.ownBlock = v.ownBlock
set_option maxHeartbeats 4000000 in
set_option maxRecDepth 100000 in
theorem take48_cons {base wb : Nat} {v : Value} {ys : List Lb} {l : Lb} (w : World) (h : WaysAt w base wb v (ys ++ [l])) (hn : ys.length < 4096) :
    Calls Try.prog 48 #[.pointer (some ⟨wb, 0, none⟩)] w (takeC base wb v w ys l) := by
  obtain ⟨hrow, hL, hvw⟩ := h
  have hok := hL.ok
  obtain ⟨g, cap, cur, hv, hg, hh, hc, hm⟩ : ∃ g cap cur, v = .slice (some ⟨g, 0, none⟩) (ys.length + 1) cap ∧ base ≤ g ∧ w.heap[g]? = some (.cells cur 71 (0, 0)) ∧ ys.length + 1 ≤ cap ∧ cap ≤ maxLen := by
    rcases hL.own.2 with ⟨_, h0⟩ | ⟨g, cap, cur, hv, hg, hh, hc, hm, _, _⟩
    · simp at h0
    · exact ⟨g, cap, cur, by simpa using hv, hg, hh, by simpa using hc, hm⟩
  have hown := hL.own
  obtain ⟨_, _, _, hcl⟩ := hL.form
  have p0 : w.cell? ⟨g, ys.length * 2, none⟩ = some (.complex .f64 (fN l.c) (fN l.d)) := by
    have o := hown
    rw [hv, List.length_append, List.length_singleton] at o
    rw [o.cellAt _ (by omega)]
    have := flatMap_get lbC 2 (fun _ => rfl) (ys ++ [l]) ys.length 0 (by omega)
    rw [Nat.add_zero] at this
    rw [this]; simp [lbC]
  have p1 : w.cell? ⟨g, ys.length * 2 + 1, none⟩ = some (.int .i64 (l.n : Int)) := by
    have o := hown
    rw [hv, List.length_append, List.length_singleton] at o
    rw [o.cellAt _ (by omega)]
    have := flatMap_get lbC 2 (fun _ => rfl) (ys ++ [l]) ys.length 1 (by omega)
    rw [this]; simp [lbC]
  have hwl := hrow.lt
  have hgl : g < w.heap.size := (Array.getElem?_eq_some_iff.1 hh).1
  have c0 : w.cell? ⟨wb, 0, none⟩ = some v := hrow.cell (i := 0) (by omega)
  have f0 : ∀ o, w.frozen? ⟨wb, o, none⟩ = false := fun o => hrow.frozen o
  rw [hv] at c0
  have hgw : g ≠ wb := fun e => hvw (by rw [hv, e]; rfl)
  generalize hlen : ys.length = n at *
  have HLEN := Lib.hid hlen; clear hlen
  have HV := Lib.hid hv; clear hv
  have HROW := Lib.hid hrow; clear hrow
  have HOWN := Lib.hid hown; clear hown
  have HH := Lib.hid hh; clear hh
  unfold maxLen at hm
  clear hcl hL hvw
  unfold takeC lbV
  go_enter Try.func48, Try.ntmps48
  go_wp2_with fail
  go_region
  go_wp2_with fail
  go_region
  go_wp2_with fail
  refine bodyPost_ret (v := .tuple #[.agg #[.complex .f64 (fN l.c) (fN l.d), .int .i64 (l.n : Int)], .bool true]) (by simp [results, Try.results48, go_sem]) rfl ⟨rfl, .slice (some ⟨g, 0, none⟩) n cap, ⟨?_, ?_, ?_⟩, ?_, ?_⟩
  · exact ((((HROW.out.set 0 (.slice (some ⟨g, 0, none⟩) n cap)).alloc _).alloc _).drew.drew).congr (fun i hi => by rw [if_pos (by omega)])
  · refine ⟨?_, fun x hx => hok x (List.mem_append_left _ hx)⟩
    have o := HOWN.out
    rw [HV.out, List.length_append, List.length_singleton, HLEN.out, List.flatMap_append] at o
    have o2 := ownsRow_pop (by rw [flatMap_len lbC 2 (fun _ => rfl), HLEN.out]) o
    rw [HLEN.out]
    exact ownsRow_dr (((Dr.refl _).drew).drew) (((ownsRow_setCell_other o2 (a := ⟨wb, 0, none⟩) (fun e => hgw (by simpa [Value.ownBlock] using e)) _).alloc _).alloc _)
  · exact fun e => hgw (by simpa [Value.ownBlock] using e)
  · exact ((((Tch.refl _ _).setCell (Or.inl (Or.inl rfl)) _).alloc _).alloc _).drew.drew
  · rw [HV.out]; rfl
end Go.Proofs.Ythllmpgffdocmaa
