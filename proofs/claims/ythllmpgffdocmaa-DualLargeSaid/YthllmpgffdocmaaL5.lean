/-
  Walk over slices.Insert of one label: at the end; within, with room; within, without room.
-/
import Derived.Test.YthllmpgffdocmaaL4
import Derived.Deep.RegionLaw
import Derived.Lib.Walk
namespace Go.Proofs.Ythllmpgffdocmaa
open Go.RowKit Go.Deep

/-- What Insert leaves: the list ys. -/
def insP (base : Nat) (v : Value) (w : World) (ys : List Lb) (e : Ending) (w' : World) : Prop :=
  ∃ v', e = .returned v' ∧ LabAt w' base v' ys ∧ Tch (fun k => v.ownBlock = some k) w w' ∧ (∀ k, v'.ownBlock = some k → v.ownBlock = some k ∨ w.heap.size ≤ k)

theorem Try.info71 : (Try.prog.info? 71).map (fun i => (i.zero, i.size, i.bytes)) = some (some (.agg #[.complex .f64 0 0, .int .i64 0]), 2, 24) := by kernel_rfl
theorem lbC_len (l : Lb) : (lbC l).length = 2 := rfl
theorem flatL_append (xs : List Lb) (t : Lb) : (xs ++ [t]).flatMap lbC = xs.flatMap lbC ++ [.complex .f64 (fN t.c) (fN t.d), .int .i64 (t.n : Int)] := by simp [lbC]

theorem insP_end {base : Nat} {v : Value} {xs : List Lb} {t : Lb} {w w1 : World} {g cap len : Nat} (hL : xs.length = len) (hok : ∀ x ∈ xs, x.ok) (ht : t.ok)
    (hown : w1.ownsRow base 71 2 (.slice (some ⟨g, 0, none⟩) (len + 1) cap) (len + 1) (xs.flatMap lbC ++ [.complex .f64 (fN t.c) (fN t.d), .int .i64 (t.n : Int)]))
    (hg : w.grownBy w1 v.ownBlock) (hl : v.ownBlock = some g ∨ g = w.heap.size) : insP base v w (xs ++ [t]) (.returned (.slice (some ⟨g, 0, none⟩) (len + 1) cap)) w1 := by
  refine ⟨_, rfl, ⟨?_, ?_⟩, ?_, ?_⟩
  · rw [flatL_append, List.length_append, hL]; exact hown
  · intro x hx
    rcases List.mem_append.1 hx with hx | hx
    · exact hok x hx
    · simp at hx; rw [hx]; exact ht
  · exact (Tch.refl _ _).grown hg (fun k hk => Or.inl hk)
  · intro k hk
    simp only [Value.ownBlock, Option.some.injEq] at hk
    subst hk
    rcases hl with hl | hl
    · exact Or.inl hl
    · exact Or.inr (by omega)

set_option maxHeartbeats 2000000 in
set_option maxRecDepth 100000 in
theorem Insert_end {base : Nat} {v : Value} {xs : List Lb} (t : Lb) (w : World) (h : LabAt w base v xs) (ht : t.ok) (vb : Nat) (hvb : w.heap[vb]? = some (.cells #[.complex .f64 (fN t.c) (fN t.d), .int .i64 (t.n : Int)] 71 (0, 0))) (hn : xs.length < 4096) (hb : base ≤ w.heap.size) :
    Calls Try.prog 73 #[v, .int .i64 (xs.length : Int), .slice (some ⟨vb, 0, none⟩) 1 1] w (insP base v w (xs ++ [t])) := by
  obtain ⟨av, cap, hv, _⟩ := h.form
  have hok := h.ok
  have hown := h.own
  obtain ⟨i0, hi, hz0, hz1, hz2⟩ := info_parts Try.info71
  have hnews := World.news_of_block hvb
  have hcap : xs.length ≤ cap := by
    rcases h.own.2 with ⟨h1, h0⟩ | ⟨g, cap', cur, h1, _, _, hc, _⟩
    · omega
    · rw [hv] at h1; simp only [Value.slice.injEq] at h1; omega
  generalize hL : xs.length = len at *
  have HL := Lib.hid hL; clear hL
  clear h hvb
  subst hv
  have hcI : (len : Int) ≤ (cap : Int) := by omega
  have HN := Lib.hid hnews; clear hnews
  go_enter Try.func73, Try.ntmps73
  cases av with
  | none =>
    go_wp2_with (at_builtin; go_must (
       refine wpList_append_lies _ rfl _ _ 93 rfl base 71 i0 (.agg #[.complex .f64 0 0, .int .i64 0]) 2 24 Try.underlying93 hi hz0 hz1 hz2 rfl (by decide) _ len _ rfl hown ⟨vb, 0, none⟩ 1 1 [.complex .f64 (fN t.c) (fN t.d), .int .i64 (t.n : Int)] rfl rfl ?c1 ?c2 (by decide) ?c3 ?c4 ?c5 w.heap.size rfl ?_
       case c1 => exact HN.out
       case c2 => simp [Value.oneCell']
       case c3 => unfold maxLen; omega
       case c4 => omega
       case c5 => omega
       intro g cap' w1 hown' hgrow hlies hglt))
    go_ret
    exact insP_end HL.out hok ht hown' hgrow hlies
  | some a =>
    obtain ⟨g0, o0, sp⟩ := a
    go_wp2_with (at_builtin; go_must (
       refine wpList_append_lies _ rfl _ _ 93 rfl base 71 i0 (.agg #[.complex .f64 0 0, .int .i64 0]) 2 24 Try.underlying93 hi hz0 hz1 hz2 rfl (by decide) _ len _ rfl hown ⟨vb, 0, none⟩ 1 1 [.complex .f64 (fN t.c) (fN t.d), .int .i64 (t.n : Int)] rfl rfl ?c1 ?c2 (by decide) ?c3 ?c4 ?c5 w.heap.size rfl ?_
       case c1 => exact HN.out
       case c2 => simp [Value.oneCell']
       case c3 => unfold maxLen; omega
       case c4 => omega
       case c5 => omega
       intro g cap' w1 hown' hgrow hlies hglt))
    all_goals go_ret
    all_goals exact insP_end HL.out hok ht hown' hgrow hlies
end Go.Proofs.Ythllmpgffdocmaa
