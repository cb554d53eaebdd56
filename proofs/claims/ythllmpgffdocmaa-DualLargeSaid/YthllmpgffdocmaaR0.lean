/-
  What full.View's Tree makes first: the tree's words, on memory.
-/
import Derived.Test.YthllmpgffdocmaaB6
import Derived.Test.YthllmpgffdocmaaQ2
import Derived.Test.YthllmpgffdocmaaD
namespace Go.Proofs.Ythllmpgffdocmaa
open Go.RowKit Go.Deep

set_option maxRecDepth 100000
def zeroI : Array Value := Array.replicate 128 (.int .i64 0)
def zeroB : Array Value := Array.replicate 256 (.int .u64 0)
theorem mk60 (w : World) : (Instr.makeSlice 60 (.int .i64 128) (.int .i64 128)).run Try.prog w = .ok (.slice (some ⟨w.heap.size, 0, none⟩) 128 128) (w.alloc (.cells zeroI 3)) := by kernel_rfl
theorem mk77 (w : World) : (Instr.makeSlice 77 (.int .i64 128) (.int .i64 128)).run Try.prog w = .ok (.slice (some ⟨w.heap.size, 0, none⟩) 128 128) (w.alloc (.cells zeroB 25)) := by kernel_rfl
theorem zI (w : World) {b : Nat} (h : w.heap.size = b) : (w.alloc (.cells zeroI 3)).rowIs b 3 128 (fun _ => .int .i64 0) := by
  subst h
  refine World.rowIs_alloc w zeroI 3 _ (fun i hi => ?_)
  have hs : zeroI.size = 128 := Array.size_replicate
  unfold zeroI
  rw [Array.getElem?_replicate, if_pos (by rw [hs] at hi; exact hi)]
theorem zB (w : World) {b : Nat} (h : w.heap.size = b) : (w.alloc (.cells zeroB 25)).rowIs b 25 256 (fun _ => .int .u64 0) := by
  subst h
  refine World.rowIs_alloc w zeroB 25 _ (fun i hi => ?_)
  have hs : zeroB.size = 256 := Array.size_replicate
  unfold zeroB
  rw [Array.getElem?_replicate, if_pos (by rw [hs] at hi; exact hi)]
theorem tR (w : World) {b : Nat} (h : w.heap.size = b) (root db pb hp : Nat) : (w.alloc (.cells #[.int .i64 (root : Int), .slice (some ⟨db, 0, none⟩) 128 128, .slice (some ⟨pb, 0, none⟩) 128 128, .slice (some ⟨hp, 0, none⟩) 128 128] 79)).rowIs b 79 4 (treeRow root db pb hp) := by
  subst h
  refine World.rowIs_alloc w _ _ _ ?_
  intro i hi
  match i, hi with
  | 0, _ => rfl
  | 1, _ => rfl
  | 2, _ => rfl
  | 3, _ => rfl

/-- What is new behind the first statement. -/
structure TreeNew (w w' : World) (root tb db pb hp : Nat) : Prop where
  below : Below w.heap.size w w'
  t : w'.rowIs tb 79 4 (treeRow root db pb hp)
  d : w'.rowIs db 3 128 (fun _ => .int .i64 0)
  p : w'.rowIs pb 25 256 (fun _ => .int .u64 0)
  r : w'.rowIs w.heap.size 79 4 (fun i => if i = 0 then .int .i64 0 else .slice none 0 0)
  ht : w.heap.size < tb
  hd : w.heap.size < db
  hp : w.heap.size < pb
  td : tb ≠ db
  tp : tb ≠ pb
  dp : db ≠ pb
def treeCut (w : World) (root : Nat) (t : Value) (w' : World) : Prop := ∃ tb db pb hp, t = .pointer (some ⟨tb, 0, none⟩) ∧ TreeNew w w' root tb db pb hp
/-- The distances D stand in memory behind the call, at db. -/
def treeP (w : World) (root : Nat) (D : List Nat) (e : Ending) (w' : World) : Prop :=
  ∃ db pb hp, e = .returned (.agg #[.int .i64 (root : Int), .slice (some ⟨db, 0, none⟩) 128 128, .slice (some ⟨pb, 0, none⟩) 128 128, .slice (some ⟨hp, 0, none⟩) 128 128]) ∧
    Below w.heap.size w w' ∧ w.heap.size ≤ db ∧ w'.rowIs db 3 128 (distRow D)
def fillR (w0 : World) (db : Nat) (i : Value) (wr : World) : Prop :=
  ∃ k : Nat, i = .int .i64 (k : Int) ∧ k ≤ 128 ∧ Tch (fun x => x = db) w0 wr ∧ wr.rowIs db 3 128 (fun j => if j < k then .int .i64 1073741824 else .int .i64 0)

end Go.Proofs.Ythllmpgffdocmaa
