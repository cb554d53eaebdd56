/-
  Walks over dist.fits, dist.pair, dist.Before, of small whole parts.
-/
import Derived.Test.YthllmpgffdocmaaF
import Derived.Test.YthllmpgffdocmaaA
import Derived.Laws.ComplexArith
namespace Go.Proofs.Ythllmpgffdocmaa
open Go.RowKit Go.Deep

def top : Nat := 4742290407621132288
def topOk (n : Nat) : Bool := decide (FloatKind.f64.format.order (fN n) top = some .lt) && decide (floatToIntVal .f64 (fN n) .i64 = some (n : Int))
theorem top_all : (List.range 1024).all topOk = true := by kernel_rfl
theorem fN_top {n : Nat} (h : n < 1024) : FloatKind.f64.format.order (fN n) 4742290407621132288 = some .lt := by
  have := List.all_eq_true.1 top_all n (List.mem_range.2 h)
  unfold topOk at this
  rw [Bool.and_eq_true] at this
  exact of_decide_eq_true this.1
theorem fN_int {n : Nat} (h : n < 1024) : floatToIntVal .f64 (fN n) .i64 = some (n : Int) := by
  have := List.all_eq_true.1 top_all n (List.mem_range.2 h)
  unfold topOk at this
  rw [Bool.and_eq_true] at this
  exact of_decide_eq_true this.2
theorem fN_zero : fN 0 = 0 := fi0
theorem fN_ge {n : Nat} (h : n < 1024) : FloatKind.f64.format.order (fN n) 0 = some (compare n 0) := by
  have := fN_order (b := 0) h (by omega)
  rw [fN_zero] at this
  exact this
theorem fN_eq {n : Nat} (h : n < 1024) : FloatKind.f64.format.order (fN n) (fN n) = some .eq := by rw [fN_order h h, Nat.compare_eq_eq.2 rfl]
theorem fN_pos {n : Nat} (h : n < 1024) : FloatKind.f64.format.order (fN n) 0 = some .gt ∨ FloatKind.f64.format.order (fN n) 0 = some .eq := by
  rw [fN_ge h]
  rcases Nat.eq_zero_or_pos n with h1 | h1
  · exact Or.inr (by rw [Nat.compare_eq_eq.2 h1])
  · exact Or.inl (by rw [Nat.compare_eq_gt.2 h1])
theorem fits103 (n : Nat) (w : World) (h : n < 1024) : Calls Try.prog 103 #[.float .f64 (fN n)] w fun e w' => e = .returned (.bool true) ∧ w = w' := by
  have h1 := fN_top h
  have h2 := fN_int h
  have h4 := fN_eq h
  have h5 := fun w : World => run_convert_float_int (P := Try.prog) w 72 3 .f64 .i64 (fN n) n (by kernel_rfl) (by kernel_rfl) h2
  have h6 := fun w : World => run_convert_int_float (P := Try.prog) w 3 72 .i64 .f64 n (by kernel_rfl) (by kernel_rfl)
  rw [show floatOfInt .f64 (n : Int) = fN n from rfl] at h6
  rcases fN_pos h with h3 | h3
  · go_enter Try.func103, Try.ntmps103
    go_wp2_with fail
    go_ret
    exact ⟨rfl, rfl⟩
  · go_enter Try.func103, Try.ntmps103
    go_wp2_with fail
    go_ret
    exact ⟨rfl, rfl⟩
theorem pair88 (a b : Nat) (w : World) (ha : a < 1024) (hb : b < 1024) : Calls Try.prog 88 #[.complex .f64 (fN a) (fN b)] w fun e w' => e = .returned (.bool true) ∧ w = w' := by
  go_enter Try.func88, Try.ntmps88
  go_wp2_with fail
  refine (fits103 a _ ha).mono ?_
  rintro e w' ⟨rfl, rfl⟩
  go_wp2_with fail
  refine (fits103 b _ hb).mono ?_
  rintro e w' ⟨rfl, rfl⟩
  go_wp2_with fail
  go_ret
  exact ⟨rfl, rfl⟩
/-- Which of two pairs comes first. -/
def befB (a b c d : Nat) : Bool := decide (a < c) || (decide (a = c) && decide (b < d))
theorem Before72 (a b c d : Nat) (w : World) (ha : a < 1024) (hb : b < 1024) (hc : c < 1024) (hd : d < 1024) :
    Calls Try.prog 72 #[.complex .f64 (fN a) (fN b), .complex .f64 (fN c) (fN d)] w fun e w' => e = .returned (.bool (befB a b c d)) ∧ w = w' := by
  have h1 := fN_order ha hc
  have h2 := fN_order hb hd
  go_enter Try.func72, Try.ntmps72
  go_wp2_with fail
  refine (pair88 a b _ ha hb).mono ?_
  rintro e w' ⟨rfl, rfl⟩
  go_wp2_with fail
  refine (pair88 c d _ hc hd).mono ?_
  rintro e w' ⟨rfl, rfl⟩
  rcases Nat.lt_trichotomy a c with h | h | h
  · rw [Nat.compare_eq_lt.2 h] at h1
    go_wp2_with fail
    go_ret
    simp [befB, h]
  · subst h
    rw [Nat.compare_eq_eq.2 rfl] at h1
    rcases Nat.lt_trichotomy b d with g | g | g
    · rw [Nat.compare_eq_lt.2 g] at h2
      go_wp2_with fail
      go_ret
      simp [befB, g]
    · subst g
      rw [Nat.compare_eq_eq.2 rfl] at h2
      go_wp2_with fail
      go_ret
      simp [befB]
    · rw [Nat.compare_eq_gt.2 g] at h2
      go_wp2_with fail
      go_ret
      have e1 : ¬ b < d := by omega
      simp [befB, e1]
  · rw [Nat.compare_eq_gt.2 h] at h1
    go_wp2_with fail
    go_ret
    have e1 : ¬ a < c := by omega
    have e2 : ¬ a = c := by omega
    simp [befB, e1, e2]
end Go.Proofs.Ythllmpgffdocmaa
