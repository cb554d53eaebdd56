/-
  Labels: how two of them are compared (dual.put's inner function).
-/
import Derived.Test.YthllmpgffdocmaaF2
namespace Go.Proofs.Ythllmpgffdocmaa
open Go.RowKit Go.Deep

structure Lb where
  c : Nat
  d : Nat
  n : Nat
  deriving DecidableEq
def lbC (l : Lb) : List Value := [.complex .f64 (fN l.c) (fN l.d), .int .i64 (l.n : Int)]
def lbV (l : Lb) : Value := .agg #[.complex .f64 (fN l.c) (fN l.d), .int .i64 (l.n : Int)]
def Lb.ok (l : Lb) : Prop := l.c < 1024 ∧ l.d < 1024 ∧ l.n < 128
def cmpL (a b : Lb) : Int := if befB a.c a.d b.c b.d then 1 else if befB b.c b.d a.c a.d then -1 else (b.n : Int) - (a.n : Int)
set_option maxHeartbeats 1000000 in
theorem cmp71 (a b : Lb) (w : World) (ha : a.ok) (hb : b.ok) : Calls Try.prog 71 #[lbV a, lbV b] w fun e w' => e = .returned (.int .i64 (cmpL a b)) ∧ Below w.heap.size w w' := by
  obtain ⟨ac, ad, an⟩ := a
  obtain ⟨bc, bd, bn⟩ := b
  obtain ⟨a1, a2, a3⟩ := ha
  obtain ⟨b1, b2, b3⟩ := hb
  simp only at a1 a2 a3 b1 b2 b3
  unfold lbV
  simp only
  go_enter Try.func71, Try.ntmps71
  go_wp2_with fail
  refine (Before72 ac ad bc bd _ a1 a2 b1 b2).mono ?_
  rintro e w' ⟨rfl, rfl⟩
  by_cases h1 : befB ac ad bc bd = true
  · go_wp2_with fail
    go_ret
    refine ⟨by simp [cmpL, h1], ((Below.refl _ _).alloc (Nat.le_refl _) _).alloc (by simp) _⟩
  · go_wp2_with fail
    refine (Before72 bc bd ac ad _ b1 b2 a1 a2).mono ?_
    rintro e w' ⟨rfl, rfl⟩
    by_cases h2 : befB bc bd ac ad = true
    · go_wp2_with fail
      go_ret
      refine ⟨by simp [cmpL, h1, h2], ((Below.refl _ _).alloc (Nat.le_refl _) _).alloc (by simp) _⟩
    · go_wp2_with fail
      go_ret
      refine ⟨by simp [cmpL, h1, h2], ((Below.refl _ _).alloc (Nat.le_refl _) _).alloc (by simp) _⟩
end Go.Proofs.Ythllmpgffdocmaa
