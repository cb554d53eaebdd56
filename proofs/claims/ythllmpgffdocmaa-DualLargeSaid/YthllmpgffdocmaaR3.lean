/-
  Walk over full.Dist.
-/
import Derived.Test.YthllmpgffdocmaaC3
import Derived.Test.YthllmpgffdocmaaR1
namespace Go.Proofs.Ythllmpgffdocmaa
open Go.RowKit Go.Deep

theorem fld79 (w : World) (n : Int) (b c d : Value) : (Instr.field 79 (.agg #[.int .i64 n, b, c, d]) 1).run Try.prog w = .ok b w := by kernel_rfl
def distP (w : World) (d : Nat) (e : Ending) (w' : World) : Prop := e = .returned (.tuple #[.int .i64 (d : Int), .int .i64 0]) ∧ Below w.heap.size w w'
set_option maxHeartbeats 4000000 in
set_option maxRecDepth 100000 in
theorem Dist28 (hC : CheckSaid) {G : Gr} {gv : Value} {bn cn bl cl : Nat} {R : List Nat} (pa pb : Nat) (w : World) (h : GraphAt w gv G bn cn bl cl) (hok : G.ok) (ha : pa < G.ns.length) (hb : pb < G.ns.length) (hR : treeOf G.ls (G.nd pa) = some R) :
    Calls Try.prog 28 #[gv, .int .i64 (G.nd pa : Int), .int .i64 (G.nd pb : Int)] w (distP w (R.getD (G.nd pb) 0)) := by
  have hgv := h.eq
  subst hgv
  have ha7 := hok.nr pa ha
  have hb7 := hok.nr pb hb
  have HR := Lib.hid hR; clear hR
  go_enter Try.func28, Try.ntmps28
  go_wp2_with fail
  generalize hw1 : World.alloc (World.alloc w _) _ = w1
  have hB1 : Below w.heap.size w w1 := by rw [← hw1]; exact ((Below.refl _ _).alloc (Nat.le_refl _) _).alloc (by simp) _
  have hs1 : w1.heap.size = w.heap.size + 1 + 1 := by rw [← hw1]; simp
  have x0 : w1.cell? ⟨w.heap.size, 0, none⟩ = some (.slice (some ⟨bn, 0, none⟩) G.ns.length cn) := by rw [← hw1]; simp [go_sem]
  have x1 : w1.cell? ⟨w.heap.size, 1, none⟩ = some (.slice (some ⟨bl, 0, none⟩) G.ls.length cl) := by rw [← hw1]; simp [go_sem]
  have x2 : w1.cell? ⟨w.heap.size, 2, none⟩ = some (.slice none 0 0) := by rw [← hw1]; simp [go_sem]
  have p0 : w1.cell? ⟨w.heap.size + 1, 0, none⟩ = some (.int .i64 (G.nd pa : Int)) := by rw [← hw1]; simp [go_sem]
  have p1 : w1.cell? ⟨w.heap.size + 1, 1, none⟩ = some (.int .i64 (G.nd pb : Int)) := by rw [← hw1]; simp [go_sem]
  clear hw1
  have h1 := h.below' hB1
  refine (nodes46 hC (w.heap.size + 1) 2 2 (fun i => if i = 0 then pa else pb) w1 h1 hok (by omega) (fun i _ => by split <;> assumption) (fun i hi => by
    match i, hi with
    | 0, _ => exact p0
    | 1, _ => exact p1) (by omega)).mono ?_
  rintro e w2 ⟨rfl, hB2⟩
  have hs2 := hB2.size
  have x0' := (hB2.cell (p := ⟨w.heap.size, 0, none⟩) (by simp; omega)).trans x0
  have x1' := (hB2.cell (p := ⟨w.heap.size, 1, none⟩) (by simp; omega)).trans x1
  have x2' := (hB2.cell (p := ⟨w.heap.size, 2, none⟩) (by simp; omega)).trans x2
  have h2 := h1.below' hB2
  have hB := hB1.trans (hB2.mono (by omega))
  clear x0 x1 x2 p0 p1 hB1 hB2 h h1
  have HB := Lib.hid hB; clear hB
  have HS := Lib.hid hs1; clear hs1
  go_wp2_with fail
  refine (Of16 w2 h2 hok).mono ?_
  rintro e w3 ⟨vb, f, rfl, hB3, hv, hV⟩
  have HB3 := Lib.hid hB3; clear hB3
  go_wp2_with fail
  refine (Tree33 (G.nd pa) w3 hV hok ha7 HR.out).mono ?_
  rintro e w4 ⟨db, pbk, hp, rfl, hB4, hdb, hd⟩
  have hc : w4.cell? ⟨db, G.nd pb, none⟩ = some (.int .i64 (R.getD (G.nd pb) 0 : Nat)) := hd.cell hb7
  have hb7' : (G.nd pb : Int) < 128 := by omega
  have hf := fld79 w4
  have HD := Lib.hid hd; clear hd
  have HB4 := Lib.hid hB4; clear hB4
  go_wp2_with fail
  refine bodyPost_ret (v := .tuple #[.int .i64 (R.getD (G.nd pb) 0 : Nat), .int .i64 0]) (by simp [results, Try.results28, go_sem]) rfl ⟨rfl, ?_⟩
  have a1 := HS.out
  exact (HB.out.trans (HB3.out.mono (by omega))).trans (HB4.out.mono (by have := HB3.out.size; omega))
end Go.Proofs.Ythllmpgffdocmaa
