/-
  Walks over graph.nodeAt, graph.nodes and graph.Node, of nodes that are there.
-/
import Derived.Test.YthllmpgffdocmaaC2
namespace Go.Proofs.Ythllmpgffdocmaa
open Go.RowKit Go.Deep

theorem GraphAt.gvs {w : World} {gv : Value} {G : Gr} {bn cn bl cl : Nat} (h : GraphAt w gv G bn cn bl cl) : gv = .agg #[.slice (some ⟨bn, 0, none⟩) G.ns.length cn, .slice (some ⟨bl, 0, none⟩) G.ls.length cl, .slice none 0 0] := h.eq

set_option maxHeartbeats 1000000 in
theorem nodeAt50 {G : Gr} {gv : Value} {bn cn bl cl : Nat} (p : Nat) (w : World) (h : GraphAt w gv G bn cn bl cl) (hok : G.ok) (hp : p < G.ns.length) :
    Calls Try.prog 50 #[gv, .int .i64 (G.nd p : Int)] w (bsP w p) := by
  have hgv := h.eq
  subst hgv
  go_enter Try.func50, Try.ntmps50
  go_wp2_with fail
  have hb : Below w.heap.size w (w.alloc (.cells #[.slice (some ⟨bn, 0, none⟩) G.ns.length cn, .slice (some ⟨bl, 0, none⟩) G.ls.length cl, .slice none 0 0] 33)) := (Below.refl _ _).alloc (Nat.le_refl _) _
  refine (Search76 p _ (h.below' hb) hok hp).mono ?_
  rintro e w1 ⟨rfl, hb1⟩
  go_wp2_with fail
  go_ret2
  exact ⟨rfl, hb.trans (hb1.mono hb.size)⟩

def oneRel (w2 : World) (i : Value) (wr : World) : Prop := ∃ k : Nat, i = .int .i64 (k : Int) ∧ k ≤ 1 ∧ wr = w2
def cntRel (N : Nat) (w2 : World) (i : Value) (wr : World) : Prop := ∃ k : Nat, i = .int .i64 (k : Int) ∧ k ≤ N ∧ wr = w2
def upRel0 (N : Nat) (w : World) (b i : Value) (wr : World) : Prop := b = .int .i64 0 ∧ ∃ k : Nat, i = .int .i64 (k : Int) ∧ k ≤ N ∧ Below w.heap.size w wr
def upRel (N : Nat) (w : World) (i : Value) (wr : World) : Prop := ∃ k : Nat, i = .int .i64 (k : Int) ∧ k ≤ N ∧ Below w.heap.size w wr
set_option maxHeartbeats 2000000 in
/-- nodes(g, n). -/
theorem nodes49 (hC : CheckSaid) {G : Gr} {gv : Value} {bn cn bl cl : Nat} (g c p : Nat) (w : World) (h : GraphAt w gv G bn cn bl cl) (hok : G.ok) (hp : p < G.ns.length)
    (h0 : w.cell? ⟨g, 0, none⟩ = some (.int .i64 (G.nd p : Int))) (hg : g < w.heap.size) :
    Calls Try.prog 49 #[gv, .slice (some ⟨g, 0, none⟩) 1 c] w (checkP w) := by
  have hgv := h.eq
  subst hgv
  have hn := hok.nr p hp
  have hn' : (G.nd p : Int) ≤ 127 := by omega
  go_enter Try.func49, Try.ntmps49
  go_wp2_with fail
  have hb : Below w.heap.size w (w.alloc (.cells #[.slice (some ⟨bn, 0, none⟩) G.ns.length cn, .slice (some ⟨bl, 0, none⟩) G.ls.length cl, .slice none 0 0] 33)) := (Below.refl _ _).alloc (Nat.le_refl _) _
  refine (hC G _ bn cn bl cl _ (h.below' hb) hok).mono ?_
  rintro e w2 ⟨rfl, hb2⟩
  have hB2 : Below w.heap.size w w2 := hb.trans (hb2.mono hb.size)
  have hs2 : w.heap.size < w2.heap.size := by have := hb2.size; simp at this; omega
  have x0 : w2.cell? ⟨w.heap.size, 0, none⟩ = some (.slice (some ⟨bn, 0, none⟩) G.ns.length cn) := by rw [hb2.cell (p := ⟨w.heap.size, 0, none⟩) (by simp)]; simp
  have x1 : w2.cell? ⟨w.heap.size, 1, none⟩ = some (.slice (some ⟨bl, 0, none⟩) G.ls.length cl) := by rw [hb2.cell (p := ⟨w.heap.size, 1, none⟩) (by simp)]; simp
  have x2 : w2.cell? ⟨w.heap.size, 2, none⟩ = some (.slice none 0 0) := by rw [hb2.cell (p := ⟨w.heap.size, 2, none⟩) (by simp)]; simp
  have x3 : w2.cell? ⟨g, 0, none⟩ = some (.int .i64 (G.nd p : Int)) := by rw [hB2.cell (p := ⟨g, 0, none⟩) hg]; exact h0
  have h2 := h.below' hB2
  clear h hb hb2 h0
  go_wp2_with fail
  go_loopw [19] (oneRel w2) (fun i _ => 1 - (intOf i).toNat)
  case atStart => exact ⟨0, rfl, by omega, rfl⟩
  case round =>
    obtain ⟨k, rfl, hk, rfl⟩ := hrel
    rcases Nat.eq_zero_or_pos k with h0 | h0
    · subst h0
      go_wp2_with fail
      refine (in75 _ _ (by omega) (by omega)).mono ?_
      rintro e w3 ⟨rfl, rfl⟩
      go_wp2_with fail
      go_roundw
      case rel => exact ⟨1, rfl, by omega, rfl⟩
      case measure => simp [intOf]
    · obtain rfl : k = 1 := by omega
      go_wp2_with fail
      obtain ⟨wo, rfl⟩ : ∃ wo : World, wo = wr := ⟨_, rfl⟩
      go_loopw [29] (upRel 1 wo) (fun i _ => 1 - (intOf i).toNat)
      case atStart => exact ⟨0, rfl, by omega, Below.refl _ _⟩
      case round =>
        obtain ⟨k, rfl, hk2, hB⟩ := hrel
        rcases Nat.eq_zero_or_pos k with h0 | h0
        · subst h0
          have hsz := hB.size
          have y0 : wr.cell? ⟨w.heap.size, 0, none⟩ = some (.slice (some ⟨bn, 0, none⟩) G.ns.length cn) := by rw [hB.cell (p := ⟨w.heap.size, 0, none⟩) hs2]; exact x0
          have y1 : wr.cell? ⟨w.heap.size, 1, none⟩ = some (.slice (some ⟨bl, 0, none⟩) G.ls.length cl) := by rw [hB.cell (p := ⟨w.heap.size, 1, none⟩) hs2]; exact x1
          have y2 : wr.cell? ⟨w.heap.size, 2, none⟩ = some (.slice none 0 0) := by rw [hB.cell (p := ⟨w.heap.size, 2, none⟩) hs2]; exact x2
          have y3 : wr.cell? ⟨g, 0, none⟩ = some (.int .i64 (G.nd p : Int)) := by rw [hB.cell (p := ⟨g, 0, none⟩) (by simp; omega)]; exact x3
          have h3 := h2.below' hB
          clear x0 x1 x2 x3
          go_wp2_with fail
          refine (nodeAt50 p _ h3 hok hp).mono ?_
          rintro e w3 ⟨rfl, hb3⟩
          go_wp2_with fail
          go_roundw
          case rel => first | exact ⟨1, rfl, by omega, hB.trans (hb3.mono hsz)⟩ | ((repeat apply Exists.intro); exact ⟨⟨1, rfl, by omega, hB.trans (hb3.mono hsz)⟩, rfl⟩)
          case measure => simp [intOf]
        · obtain rfl : k = 1 := by omega
          go_wp2_with fail
          go_ret
          exact ⟨rfl, hB2.trans (hB.mono (by omega))⟩

def nodeP (w : World) (n : Nat) (e : Ending) (w' : World) : Prop := e = .returned (.tuple #[.agg #[.int .i64 (n : Int), .bool false, .complex .f64 0 0], .int .i64 0]) ∧ Below w.heap.size w w'
set_option maxHeartbeats 2000000 in
/-- graph.Node(g, n). -/
theorem Node31 (hC : CheckSaid) {G : Gr} {gv : Value} {bn cn bl cl : Nat} (p : Nat) (w : World) (h : GraphAt w gv G bn cn bl cl) (hok : G.ok) (hp : p < G.ns.length) :
    Calls Try.prog 31 #[gv, .int .i64 (G.nd p : Int)] w (nodeP w (G.nd p)) := by
  have hgv := h.eq
  subst hgv
  have hN := hok.len
  go_enter Try.func31, Try.ntmps31
  go_wp2_with fail
  generalize hw1 : World.alloc (World.alloc (World.alloc w _) _) _ = w1
  have hb1 : Below w.heap.size w w1 := by rw [← hw1]; exact (((Below.refl _ _).alloc (Nat.le_refl _) _).alloc (by simp) _).alloc (by simp; omega) _
  have hs1 : w1.heap.size = w.heap.size + 3 := by rw [← hw1]; simp [go_sem]
  have x0 : ∀ w2, Below w1.heap.size w1 w2 → w2.cell? ⟨w.heap.size, 0, none⟩ = some (.slice (some ⟨bn, 0, none⟩) G.ns.length cn) := by intro w2 hb; rw [hb.cell (p := ⟨w.heap.size, 0, none⟩) (by rw [hs1]; simp), ← hw1]; simp [go_sem]
  have x1 : ∀ w2, Below w1.heap.size w1 w2 → w2.cell? ⟨w.heap.size, 1, none⟩ = some (.slice (some ⟨bl, 0, none⟩) G.ls.length cl) := by intro w2 hb; rw [hb.cell (p := ⟨w.heap.size, 1, none⟩) (by rw [hs1]; simp), ← hw1]; simp [go_sem]
  have x2 : ∀ w2, Below w1.heap.size w1 w2 → w2.cell? ⟨w.heap.size, 2, none⟩ = some (.slice none 0 0) := by intro w2 hb; rw [hb.cell (p := ⟨w.heap.size, 2, none⟩) (by rw [hs1]; simp), ← hw1]; simp [go_sem]
  have y0 : ∀ w2, Below w1.heap.size w1 w2 → w2.cell? ⟨w.heap.size + 1, 0, none⟩ = some (.int .i64 0) := by intro w2 hb; rw [hb.cell (p := ⟨w.heap.size + 1, 0, none⟩) (by rw [hs1]; simp), ← hw1]; first | (simp [go_sem]; done) | (rw [World.cell?_alloc_past _ _ _ (by simp)]; simp [go_sem]; done) | (rw [World.frozen?_alloc_past _ _ _ (by simp)]; simp [go_sem]; done) | (rw [World.cell?_alloc_at _ _ _ _ (by simp)]; rfl)
  have y1 : ∀ w2, Below w1.heap.size w1 w2 → w2.cell? ⟨w.heap.size + 1, 1, none⟩ = some (.bool false) := by intro w2 hb; rw [hb.cell (p := ⟨w.heap.size + 1, 1, none⟩) (by rw [hs1]; simp), ← hw1]; first | (simp [go_sem]; done) | (rw [World.cell?_alloc_past _ _ _ (by simp)]; simp [go_sem]; done) | (rw [World.frozen?_alloc_past _ _ _ (by simp)]; simp [go_sem]; done) | (rw [World.cell?_alloc_at _ _ _ _ (by simp)]; rfl)
  have y2 : ∀ w2, Below w1.heap.size w1 w2 → w2.cell? ⟨w.heap.size + 1, 2, none⟩ = some (.complex .f64 0 0) := by intro w2 hb; rw [hb.cell (p := ⟨w.heap.size + 1, 2, none⟩) (by rw [hs1]; simp), ← hw1]; first | (simp [go_sem]; done) | (rw [World.cell?_alloc_past _ _ _ (by simp)]; simp [go_sem]; done) | (rw [World.frozen?_alloc_past _ _ _ (by simp)]; simp [go_sem]; done) | (rw [World.cell?_alloc_at _ _ _ _ (by simp)]; rfl)
  have yf : ∀ w2, Below w1.heap.size w1 w2 → ∀ o, w2.frozen? ⟨w.heap.size + 1, o, none⟩ = false := by intro w2 hb o; rw [hb.frozen (p := ⟨w.heap.size + 1, o, none⟩) (by rw [hs1]; simp), ← hw1]; first | (simp [go_sem]; done) | (rw [World.cell?_alloc_past _ _ _ (by simp)]; simp [go_sem]; done) | (rw [World.frozen?_alloc_past _ _ _ (by simp)]; simp [go_sem]; done) | (rw [World.cell?_alloc_at _ _ _ _ (by simp)]; rfl)
  have z0 : w1.cell? ⟨w.heap.size + 1 + 1, 0, none⟩ = some (.int .i64 (G.nd p : Int)) := by rw [← hw1]; first | (simp [go_sem]; done) | (rw [World.cell?_alloc_past _ _ _ (by simp)]; simp [go_sem]; done) | (rw [World.frozen?_alloc_past _ _ _ (by simp)]; simp [go_sem]; done) | (rw [World.cell?_alloc_at _ _ _ _ (by simp)]; rfl)
  have h1 := h.below' hb1
  have hbn := h.bnlt
  clear hw1
  have HS1 := Lib.hid hs1; clear hs1
  refine (nodes49 hC (w.heap.size + 1 + 1) 1 p w1 h1 hok hp z0 (by rw [HS1.out]; omega)).mono ?_
  rintro e w2 ⟨rfl, hb2⟩
  go_wp2_with fail
  have a0 := x0 w2 hb2
  have a1 := x1 w2 hb2
  have a2 := x2 w2 hb2
  have X0 := Lib.hid x0; clear x0
  have Y0 := Lib.hid y0; clear y0
  have Y1 := Lib.hid y1; clear y1
  have Y2 := Lib.hid y2; clear y2
  have YF := Lib.hid yf; clear yf
  clear x1 x2 z0
  go_wp2_with fail
  refine (nodeAt50 p w2 (h1.below' hb2) hok hp).mono ?_
  rintro e w3 ⟨rfl, hb3⟩
  have hb23 := hb2.trans (hb3.mono hb2.size)
  have a0 := X0.out w3 hb23
  have e0 := Y0.out w3 hb23
  have e1 := Y1.out w3 hb23
  have e2 := Y2.out w3 hb23
  have ef := YF.out w3 hb23
  have h3 := h1.below' hb23
  have n0 := h3.n0 hp
  have n1 := h3.n1 hp
  have n2 : w3.cell? ⟨bn, p * 3 + 2, none⟩ = some (.complex .f64 0 0) := h3.n2 hp
  have hs3 : w.heap.size + 1 < w3.heap.size := by have := hb23.size; have := HS1.out; omega
  have hpI : (p : Int) < (G.ns.length : Int) := by omega
  clear a1 a2 h3 h1 h
  go_wp2_with fail
  refine (plain_zero _).mono ?_
  rintro e w4 ⟨rfl, rfl⟩
  go_wp2_with fail
  refine bodyPost_ret (v := .tuple #[.agg #[.int .i64 (G.nd p : Int), .bool false, .complex .f64 0 0], .int .i64 0]) (by simp [results, Try.results31, go_sem, hs3, e0, e1, e2]) rfl ⟨rfl, ?_⟩
  exact ((((hb1.trans (hb23.mono (by have := HS1.out; omega))).setCell (p := ⟨w.heap.size + 1, 0, none⟩) (by simp) _).setCell (p := ⟨w.heap.size + 1, 1, none⟩) (by simp) _).setCell (p := ⟨w.heap.size + 1, 2, none⟩) (by simp) _).alloc (by simp; omega) _

def nodes46P (w : World) (e : Ending) (w' : World) : Prop := e = .returned (.int .i64 0) ∧ Below w.heap.size w w'
set_option maxHeartbeats 2000000 in
/-- full.nodes(g, list..), of nodes that are there. -/
theorem nodes46 (hC : CheckSaid) {G : Gr} {gv : Value} {bn cn bl cl : Nat} (g c m : Nat) (ps : Nat → Nat) (w : World) (h : GraphAt w gv G bn cn bl cl) (hok : G.ok) (hm : m ≤ 128) (hps : ∀ i, i < m → ps i < G.ns.length)
    (hcl : ∀ i, i < m → w.cell? ⟨g, i, none⟩ = some (.int .i64 (G.nd (ps i) : Int))) (hg : g < w.heap.size) :
    Calls Try.prog 46 #[gv, .slice (some ⟨g, 0, none⟩) m c] w (nodes46P w) := by
  have hgv := h.eq
  subst hgv
  have hbn := h.bnlt
  have hbl := h.bllt
  have HC := Lib.hid hcl; clear hcl
  have HP := Lib.hid hps; clear hps
  go_enter Try.func46, Try.ntmps46
  go_wp2_with fail
  generalize hw1 : World.alloc w _ = w1
  have hb1 : Below w.heap.size w w1 := by rw [← hw1]; exact (Below.refl _ _).alloc (Nat.le_refl _) _
  have hs1 : w1.heap.size = w.heap.size + 1 := by rw [← hw1]; simp
  have hrow : w1.rowIs w.heap.size 33 3 (fun i => if i = 0 then .slice (some ⟨bn, 0, none⟩) G.ns.length cn else if i = 1 then .slice (some ⟨bl, 0, none⟩) G.ls.length cl else .slice none 0 0) := by
    rw [← hw1]
    refine World.rowIs_alloc w _ _ _ ?_
    intro i hi
    match i, hi with
    | 0, _ => rfl
    | 1, _ => rfl
    | 2, _ => rfl
  clear hw1
  have HS1 := Lib.hid hs1; clear hs1
  go_loopw [5, 14] (upRel0 m w1) (fun _ i _ => m - (intOf i).toNat)
  case atStart => exact ⟨rfl, 0, rfl, Nat.zero_le _, Below.refl _ _⟩
  case round =>
    obtain ⟨rfl, k, rfl, hk, hB⟩ := hrel
    have hsz := hB.size
    by_cases hlt : k < m
    · have hlt' : (k : Int) < (m : Int) := by omega
      have hB0 := hb1.trans (hB.mono (by have := HS1.out; omega))
      have e0 : wr.cell? ⟨g, k, none⟩ = some (.int .i64 (G.nd (ps k) : Int)) := by rw [hB0.cell (p := ⟨g, k, none⟩) hg]; exact HC.out k hlt
      have hr := rowIs_below hB hrow (by have := HS1.out; omega)
      have x0 : wr.cell? ⟨w.heap.size, 0, none⟩ = some (.slice (some ⟨bn, 0, none⟩) G.ns.length cn) := hr.cell (i := 0) (by omega)
      have x1 : wr.cell? ⟨w.heap.size, 1, none⟩ = some (.slice (some ⟨bl, 0, none⟩) G.ls.length cl) := hr.cell (i := 1) (by omega)
      have x2 : wr.cell? ⟨w.heap.size, 2, none⟩ = some (.slice none 0 0) := hr.cell (i := 2) (by omega)
      have h3 := h.below' hB0
      clear hr hrow hB0
      go_wp2_with fail
      refine (Node31 hC (ps k) _ h3 hok (HP.out k hlt)).mono ?_
      rintro e w3 ⟨rfl, hb3⟩
      go_wp2_with fail
      go_roundw
      case rel => first | exact ⟨rfl, k + 1, rfl, hlt, (hB.trans (hb3.mono hsz)).alloc (Nat.le_trans hsz hb3.size) _⟩ | ((repeat apply Exists.intro); exact ⟨⟨rfl, k + 1, rfl, hlt, (hB.trans (hb3.mono hsz)).alloc (Nat.le_trans hsz hb3.size) _⟩, rfl⟩)
      case measure => simp [intOf]; omega
    · obtain rfl : k = m := by omega
      have hlt' : ¬ ((k : Int) < (k : Int)) := by omega
      have hB0 := hb1.trans (hB.mono (by have := HS1.out; omega))
      have hcl2 : ∀ i, i < k → wr.cell? ⟨g, i, none⟩ = some (.int .i64 (G.nd (ps i) : Int)) := by intro i hi; rw [hB0.cell (p := ⟨g, i, none⟩) hg]; exact HC.out i hi
      have HC2 := Lib.hid hcl2; clear hcl2
      have HB0 := Lib.hid hB0
      clear hB hB0 hrow hlt
      go_wp2_with fail
      obtain ⟨wo, rfl⟩ : ∃ wo : World, wo = wr := ⟨_, rfl⟩
      go_loopw [37] (cntRel k wo) (fun i _ => k - (intOf i).toNat)
      case atStart => exact ⟨0, rfl, Nat.zero_le _, rfl⟩
      case round =>
        obtain ⟨j, rfl, hj, rfl⟩ := hrel
        by_cases hlt2 : j < k
        · have hlt3 : (j : Int) < (k : Int) := by omega
          have e0 := HC2.out j hlt2
          have hr1 := hok.nr _ (HP.out j hlt2)
          have hr2 : ¬ ((127 : Int) < (G.nd (ps j) : Int)) := by omega
          have hr3 : ¬ ((G.nd (ps j) : Int) < 0) := by omega
          go_wp2_with fail
          go_roundw
          case rel => first | exact ⟨j + 1, rfl, hlt2, rfl⟩ | ((repeat apply Exists.intro); exact ⟨⟨j + 1, rfl, hlt2, rfl⟩, rfl⟩)
          case measure => simp [intOf]; omega
        · obtain rfl : j = k := by omega
          go_wp2_with fail
          go_ret
          exact ⟨rfl, HB0.out⟩

end Go.Proofs.Ythllmpgffdocmaa
