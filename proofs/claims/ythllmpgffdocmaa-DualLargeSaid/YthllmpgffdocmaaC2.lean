/-
  Walks over the search for a node and for a link that are there.
-/
import Derived.Test.YthllmpgffdocmaaA2
import Derived.Test.YthllmpgffdocmaaG
import Derived.IntWalk
import Derived.Lib.Hide
namespace Go.Proofs.Ythllmpgffdocmaa
open Go.RowKit Go.Deep

def checkP (w : World) (e : Ending) (w' : World) : Prop := e = .returned (.int .i64 0) ∧ Below w.heap.size w w'
/-- What graph.Check's walk shows. -/
def CheckSaid : Prop := ∀ (G : Gr) (gv : Value) (bn cn bl cl : Nat) (w : World), GraphAt w gv G bn cn bl cl → G.ok → Calls Try.prog 74 #[gv] w (checkP w)

theorem Gr.ok.mono {G : Gr} (h : G.ok) : ∀ (d i : Nat), i + d + 1 < G.ns.length → G.nd i < G.nd (i + d + 1)
  | 0, i, hi => h.no i hi
  | d + 1, i, hi => Nat.lt_trans (h.mono d i (by omega)) (h.no (i + d + 1) hi)
theorem Gr.ok.lt_iff {G : Gr} (h : G.ok) {i j : Nat} (hi : i < G.ns.length) (hj : j < G.ns.length) : G.nd i < G.nd j ↔ i < j := by
  constructor
  · intro hlt
    rcases Nat.lt_trichotomy i j with h1 | h1 | h1
    · exact h1
    · subst h1; omega
    · have := h.mono (i - j - 1) j (by omega)
      rw [show j + (i - j - 1) + 1 = i by omega] at this
      omega
  · intro hlt
    have := h.mono (j - i - 1) i (by omega)
    rw [show i + (j - i - 1) + 1 = j by omega] at this
    exact this

/-- Somewhere between i and j, at p, it lies. -/
def bsRel (w : World) (N p : Nat) (i j : Value) (wr : World) : Prop :=
  ∃ a b : Nat, i = .int .i64 (a : Int) ∧ j = .int .i64 (b : Int) ∧ a ≤ p ∧ p ≤ b ∧ b ≤ N ∧ Below w.heap.size w wr
def bsP (w : World) (p : Nat) (e : Ending) (w' : World) : Prop := e = .returned (.tuple #[.int .i64 (p : Int), .bool true]) ∧ Below w.heap.size w w'
set_option maxHeartbeats 1000000 in
theorem Search76 {G : Gr} {gv : Value} {bn cn bl cl : Nat} (p : Nat) (w : World) (h : GraphAt w gv G bn cn bl cl) (hok : G.ok) (hp : p < G.ns.length) :
    Calls Try.prog 76 #[.slice (some ⟨bn, 0, none⟩) G.ns.length cn, .int .i64 (G.nd p : Int), .func (.func 77) #[] #[]] w (bsP w p) := by
  have hN := hok.len
  go_enter Try.func76, Try.ntmps76
  go_wp2
  go_loopw [9, 10] (bsRel w G.ns.length p) (fun i j _ => (intOf j).toNat - (intOf i).toNat)
  case atStart => exact ⟨0, _, rfl, rfl, Nat.zero_le _, Nat.le_of_lt hp, Nat.le_refl _, Below.refl _ _⟩
  case round =>
    obtain ⟨a, b, rfl, rfl, ha, hb, hbN, hB⟩ := hrel
    by_cases hlt : a < b
    · have hlt' : (a : Int) < (b : Int) := by omega
      have hb128 : (b : Int) ≤ 128 := by omega
      have hh : (a + b) / 2 < G.ns.length := by omega
      have hg := h.below' hB
      have n0 := hg.n0 hh
      have n1 := hg.n1 hh
      have n2 : wr.cell? ⟨bn, (a + b) / 2 * 3 + 2, none⟩ = some (.complex .f64 0 0) := hg.n2 hh
      clear hg h
      by_cases hc : (a + b) / 2 < p
      · have hv : cmpI (G.nd ((a + b) / 2) : Int) (G.nd p : Int) = -1 := cmpI_lt (by have := (hok.lt_iff hh hp).2 hc; omega)
        have HV := Lib.hid hv; clear hv
        go_wp2_with fail
        refine (compareNode77 _ _ _ _ rfl _).mono ?_
        rintro e w1 ⟨rfl, hb1⟩
        rw [HV.out]
        go_wp2_with fail
        go_roundw
        case rel => exact ⟨(a + b) / 2 + 1, b, by simp, rfl, by omega, hb, hbN, hB.trans (hb1.mono hB.size)⟩
        case measure => simp [intOf]; omega
      · have hv : 0 ≤ cmpI (G.nd ((a + b) / 2) : Int) (G.nd p : Int) := by
          rcases Nat.lt_or_ge p ((a + b) / 2) with h1 | h1
          · rw [cmpI_gt (by have := (hok.lt_iff hp hh).2 h1; omega)]; omega
          · rw [show (a + b) / 2 = p by omega, cmpI_eq]; omega
        generalize hcv : cmpI (G.nd ((a + b) / 2) : Int) (G.nd p : Int) = cv at hv
        have HV := Lib.hid hcv; clear hcv
        go_wp2_with fail
        refine (compareNode77 _ _ _ _ rfl _).mono ?_
        rintro e w1 ⟨rfl, hb1⟩
        rw [HV.out]
        go_wp2_with fail
        go_roundw
        case rel => exact ⟨a, (a + b) / 2, rfl, by simp, ha, by omega, by omega, hB.trans (hb1.mono hB.size)⟩
        case measure => simp [intOf]; omega
    · obtain rfl : a = p := by omega
      have hlt' : ¬ ((a : Int) < (b : Int)) := by omega
      have hg := h.below' hB
      have n0 := hg.n0 hp
      have n1 := hg.n1 hp
      have n2 : wr.cell? ⟨bn, a * 3 + 2, none⟩ = some (.complex .f64 0 0) := hg.n2 hp
      have hpI : (a : Int) < (G.ns.length : Int) := by omega
      clear hg h
      go_wp2_with fail
      refine (compareNode77 _ _ _ _ rfl _).mono ?_
      rintro e w1 ⟨rfl, hb1⟩
      rw [cmpI_eq]
      go_wp2_with fail
      go_ret2
      exact ⟨rfl, hB.trans (hb1.mono hB.size)⟩
end Go.Proofs.Ythllmpgffdocmaa
