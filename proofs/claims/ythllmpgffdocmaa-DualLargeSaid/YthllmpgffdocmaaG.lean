/-
  Words on memory: a graph without pins, without overloaded nodes, its places at (0, 0), as it lies in memory.
-/
import Derived.Test.YthllmpgffdocmaaM
namespace Go.Proofs.Ythllmpgffdocmaa
open Go.RowKit Go.Deep

/-- A link: from, to, cost, delay. -/
structure Lk where
  f : Nat
  t : Nat
  c : Nat
  d : Nat
  deriving DecidableEq
/-- A graph: the nodes' numbers and the links. -/
structure Gr where
  ns : List Nat
  ls : List Lk

def Gr.nd (G : Gr) (i : Nat) : Nat := G.ns.getD i 0
def Gr.lk (G : Gr) (i : Nat) : Lk := G.ls.getD i ⟨0, 0, 0, 0⟩
def lkBefore (a b : Lk) : Bool := decide (a.f < b.f) || (decide (a.f = b.f) && decide (a.t < b.t))
/-- A sound graph. -/
structure Gr.ok (G : Gr) : Prop where
  len : G.ns.length ≤ 128
  lens : G.ls.length ≤ 2048
  nr : ∀ i, i < G.ns.length → G.nd i < 128
  no : ∀ i, i + 1 < G.ns.length → G.nd i < G.nd (i + 1)
  lf : ∀ i, i < G.ls.length → (G.lk i).f ∈ G.ns
  lt : ∀ i, i < G.ls.length → (G.lk i).t ∈ G.ns
  ne : ∀ i, i < G.ls.length → (G.lk i).f ≠ (G.lk i).t
  c1 : ∀ i, i < G.ls.length → 1 ≤ (G.lk i).c
  c2 : ∀ i, i < G.ls.length → (G.lk i).c ≤ 65535
  d2 : ∀ i, i < G.ls.length → (G.lk i).d ≤ 65535
  lo : ∀ i, i + 1 < G.ls.length → (G.lk i).f < (G.lk (i + 1)).f ∨ (G.lk i).f = (G.lk (i + 1)).f ∧ (G.lk i).t < (G.lk (i + 1)).t

theorem Gr.ok.mem {G : Gr} (h : G.ok) {n : Nat} (hn : n ∈ G.ns) : n < 128 := by
  obtain ⟨i, hi, rfl⟩ := List.getElem_of_mem hn
  have := h.nr i hi
  simpa [Gr.nd, hi] using this
theorem Gr.ok.f128 {G : Gr} (h : G.ok) {i : Nat} (hi : i < G.ls.length) : (G.lk i).f < 128 := h.mem (h.lf i hi)
theorem Gr.ok.t128 {G : Gr} (h : G.ok) {i : Nat} (hi : i < G.ls.length) : (G.lk i).t < 128 := h.mem (h.lt i hi)
theorem Gr.nd_mem {G : Gr} {i : Nat} (hi : i < G.ns.length) : G.nd i ∈ G.ns := by
  unfold Gr.nd; rw [List.getD_eq_getElem?_getD, List.getElem?_eq_getElem hi]; exact List.getElem_mem hi

def nodeC (n : Nat) : List Value := [.int .i64 (n : Int), .bool false, .complex .f64 0 0]
def linkC (l : Lk) : List Value := [.int .i64 (l.f : Int), .int .i64 (l.t : Int), .int .i64 (l.c : Int), .int .i64 (l.d : Int)]

theorem flatMap_get {α : Type} (f : α → List Value) (k : Nat) (hf : ∀ a, (f a).length = k) : ∀ (l : List α) (i j : Nat), j < k → (l.flatMap f)[i * k + j]? = (l[i]?).bind fun a => (f a)[j]?
  | [], i, j, _ => by simp
  | a :: l, 0, j, hj => by
    rw [List.flatMap_cons, Nat.zero_mul, Nat.zero_add, List.getElem?_append_left (by rw [hf]; exact hj)]
    rfl
  | a :: l, i + 1, j, hj => by
    have ih := flatMap_get f k hf l i j hj
    rw [List.flatMap_cons, List.getElem?_append_right (by rw [hf, Nat.succ_mul]; omega), hf]
    rw [show (i + 1) * k + j - k = i * k + j from by rw [Nat.succ_mul]; omega, ih]
    rfl
theorem flatMap_len {α : Type} (f : α → List Value) (k : Nat) (hf : ∀ a, (f a).length = k) : ∀ (l : List α), (l.flatMap f).length = l.length * k
  | [] => by simp
  | a :: l => by rw [List.flatMap_cons, List.length_append, hf, flatMap_len f k hf l, List.length_cons, Nat.succ_mul]; omega

/-- The graph lies in memory as gv. -/
structure GraphAt (w : World) (gv : Value) (G : Gr) (bn cn bl cl : Nat) : Prop where
  eq : gv = .agg #[.slice (some ⟨bn, 0, none⟩) G.ns.length cn, .slice (some ⟨bl, 0, none⟩) G.ls.length cl, .slice none 0 0]
  nodes : w.ownsRow 0 41 3 (.slice (some ⟨bn, 0, none⟩) G.ns.length cn) G.ns.length (G.ns.flatMap nodeC)
  links : w.ownsRow 0 43 4 (.slice (some ⟨bl, 0, none⟩) G.ls.length cl) G.ls.length (G.ls.flatMap linkC)

variable {w : World} {gv : Value} {G : Gr} {bn cn bl cl : Nat}
theorem GraphAt.bnlt (h : GraphAt w gv G bn cn bl cl) : bn < w.heap.size := (h.nodes.lt bn rfl).2
theorem GraphAt.bllt (h : GraphAt w gv G bn cn bl cl) : bl < w.heap.size := (h.links.lt bl rfl).2
theorem GraphAt.tch {S : Nat → Prop} {w' : World} (h : GraphAt w gv G bn cn bl cl) (d : Tch S w w') (h1 : ¬ S bn) (h2 : ¬ S bl) : GraphAt w' gv G bn cn bl cl :=
  ⟨h.eq, ownsRow_tch d h.nodes (fun k hk => by simp only [Value.ownBlock, Option.some.injEq] at hk; subst hk; exact h1), ownsRow_tch d h.links (fun k hk => by simp only [Value.ownBlock, Option.some.injEq] at hk; subst hk; exact h2)⟩
theorem GraphAt.below {B : Nat} {w' : World} (h : GraphAt w gv G bn cn bl cl) (d : Below B w w') (h1 : bn < B) (h2 : bl < B) : GraphAt w' gv G bn cn bl cl :=
  ⟨h.eq, ownsRow_below d h.nodes (fun k hk => by simp only [Value.ownBlock, Option.some.injEq] at hk; subst hk; exact h1), ownsRow_below d h.links (fun k hk => by simp only [Value.ownBlock, Option.some.injEq] at hk; subst hk; exact h2)⟩
theorem GraphAt.below' {w' : World} (h : GraphAt w gv G bn cn bl cl) (d : Below w.heap.size w w') : GraphAt w' gv G bn cn bl cl := h.below d h.bnlt h.bllt
theorem GraphAt.node (h : GraphAt w gv G bn cn bl cl) {i j : Nat} (hi : i < G.ns.length) (hj : j < 3) : w.cell? ⟨bn, i * 3 + j, none⟩ = (nodeC (G.nd i))[j]? := by
  rw [h.nodes.cellAt _ (by omega), flatMap_get nodeC 3 (fun _ => rfl) _ _ _ hj]
  unfold Gr.nd
  rw [List.getD_eq_getElem?_getD, List.getElem?_eq_getElem hi]; rfl
theorem GraphAt.link (h : GraphAt w gv G bn cn bl cl) {i j : Nat} (hi : i < G.ls.length) (hj : j < 4) : w.cell? ⟨bl, i * 4 + j, none⟩ = (linkC (G.lk i))[j]? := by
  rw [h.links.cellAt _ (by omega), flatMap_get linkC 4 (fun _ => rfl) _ _ _ hj]
  unfold Gr.lk
  rw [List.getD_eq_getElem?_getD, List.getElem?_eq_getElem hi]; rfl
theorem GraphAt.n0 (h : GraphAt w gv G bn cn bl cl) {i : Nat} (hi : i < G.ns.length) : w.cell? ⟨bn, i * 3, none⟩ = some (.int .i64 (G.nd i : Int)) := h.node (j := 0) hi (by omega)
theorem GraphAt.n1 (h : GraphAt w gv G bn cn bl cl) {i : Nat} (hi : i < G.ns.length) : w.cell? ⟨bn, i * 3 + 1, none⟩ = some (.bool false) := h.node (j := 1) hi (by omega)
theorem GraphAt.n2 (h : GraphAt w gv G bn cn bl cl) {i : Nat} (hi : i < G.ns.length) : w.cell? ⟨bn, i * 3 + 1 + 1, none⟩ = some (.complex .f64 0 0) := h.node (j := 2) hi (by omega)
theorem GraphAt.l0 (h : GraphAt w gv G bn cn bl cl) {i : Nat} (hi : i < G.ls.length) : w.cell? ⟨bl, i * 4, none⟩ = some (.int .i64 ((G.lk i).f : Int)) := h.link (j := 0) hi (by omega)
theorem GraphAt.l1 (h : GraphAt w gv G bn cn bl cl) {i : Nat} (hi : i < G.ls.length) : w.cell? ⟨bl, i * 4 + 1, none⟩ = some (.int .i64 ((G.lk i).t : Int)) := h.link (j := 1) hi (by omega)
theorem GraphAt.l2 (h : GraphAt w gv G bn cn bl cl) {i : Nat} (hi : i < G.ls.length) : w.cell? ⟨bl, i * 4 + 1 + 1, none⟩ = some (.int .i64 ((G.lk i).c : Int)) := h.link (j := 2) hi (by omega)
theorem GraphAt.l3 (h : GraphAt w gv G bn cn bl cl) {i : Nat} (hi : i < G.ls.length) : w.cell? ⟨bl, i * 4 + 1 + 1 + 1, none⟩ = some (.int .i64 ((G.lk i).d : Int)) := h.link (j := 3) hi (by omega)

end Go.Proofs.Ythllmpgffdocmaa
