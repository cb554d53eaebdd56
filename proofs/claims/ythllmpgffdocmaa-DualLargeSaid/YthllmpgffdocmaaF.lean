/-
  Small whole numbers as floats: how they are read, compared, added.
-/
import Derived.Laws.FloatArith
import Derived.Test.YthllmpgffdocmaaM
namespace Go.Proofs.Ythllmpgffdocmaa
open Go.RowKit Go.Deep

def fN (n : Nat) : Nat := floatOfInt .f64 (n : Int)
def fK (n : Nat) : Nat := if n = 0 then 1074 else 52 - n.log2
def readOk (n : Nat) : Bool := decide (FloatKind.f64.format.read (fN n) = Ieee.Datum.number false (n * 2 ^ fK n) (-(fK n : Int)))
theorem read_all : (List.range 1024).all readOk = true := by kernel_rfl
theorem fN_read {n : Nat} (h : n < 1024) : FloatKind.f64.format.read (fN n) = Ieee.Datum.number false (n * 2 ^ fK n) (-(fK n : Int)) :=
  of_decide_eq_true (List.all_eq_true.1 read_all n (List.mem_range.2 h))

theorem signed_scale (n k u : Nat) : Ieee.signed false (n * 2 ^ k) u = ((n * 2 ^ (k + u) : Nat) : Int) := by
  unfold Ieee.signed
  rw [if_neg (by simp), Nat.shiftLeft_eq, Nat.mul_assoc, ← Nat.pow_add]
theorem scale_up (a b : Nat) : b + (-(b : Int) - min (-(a : Int)) (-(b : Int))).toNat = max a b := by omega
theorem scale_up' (a b : Nat) : a + (-(a : Int) - min (-(a : Int)) (-(b : Int))).toNat = max a b := by omega
theorem compare_scale (a b k : Nat) : compare ((a * 2 ^ k : Nat) : Int) ((b * 2 ^ k : Nat) : Int) = compare a b := by
  have h2 : 0 < 2 ^ k := Nat.two_pow_pos k
  rcases Nat.lt_trichotomy a b with h | h | h
  · have : a * 2 ^ k < b * 2 ^ k := Nat.mul_lt_mul_of_pos_right h h2
    rw [Nat.compare_eq_lt.2 h]
    have h3 : ((a * 2 ^ k : Nat) : Int) < ((b * 2 ^ k : Nat) : Int) := by omega
    unfold compare
    simp only [instOrdInt, compareOfLessAndEq]
    rw [if_pos h3]
  · subst h
    rw [Nat.compare_eq_eq.2 rfl]
    simp [compare, compareOfLessAndEq]
  · have : b * 2 ^ k < a * 2 ^ k := Nat.mul_lt_mul_of_pos_right h h2
    rw [Nat.compare_eq_gt.2 h]
    have h3 : ¬ ((a * 2 ^ k : Nat) : Int) < ((b * 2 ^ k : Nat) : Int) := by omega
    have h4 : ¬ ((a * 2 ^ k : Nat) : Int) = ((b * 2 ^ k : Nat) : Int) := by omega
    unfold compare
    simp only [instOrdInt, compareOfLessAndEq]
    rw [if_neg h3, if_neg h4]
theorem fN_order {a b : Nat} (ha : a < 1024) (hb : b < 1024) : FloatKind.f64.format.order (fN a) (fN b) = some (compare a b) := by
  unfold Ieee.Format.order
  rw [fN_read ha, fN_read hb]
  unfold Ieee.Datum.order
  simp only
  rw [signed_scale, signed_scale, scale_up, scale_up', compare_scale]

def writeOk (n : Nat) (k : Nat) : Bool := decide (FloatKind.f64.format.write (Ieee.Datum.number false (n * 2 ^ k) (-(k : Int))) = fN n)
theorem write_all : (List.range 1024).all (fun n => [1074, 43, 44, 45, 46, 47, 48, 49, 50, 51, 52].all (writeOk n)) = true := by kernel_rfl
theorem fK_mem {n : Nat} (h : n < 1024) : fK n ∈ [1074, 43, 44, 45, 46, 47, 48, 49, 50, 51, 52] := by
  unfold fK
  split
  · simp
  · have : n.log2 < 10 := (Nat.log2_lt (by assumption)).2 h
    simp; omega
theorem fN_write {n k : Nat} (h : n < 1024) (hk : k ∈ [1074, 43, 44, 45, 46, 47, 48, 49, 50, 51, 52]) : FloatKind.f64.format.write (Ieee.Datum.number false (n * 2 ^ k) (-(k : Int))) = fN n :=
  of_decide_eq_true (List.all_eq_true.1 (List.all_eq_true.1 write_all n (List.mem_range.2 h)) k hk)
theorem fN_add {a b : Nat} (h : a + b < 1024) : FloatKind.f64.format.add (fN a) (fN b) = some (fN (a + b)) := by
  unfold Ieee.Format.add
  rw [fN_read (by omega), fN_read (by omega)]
  unfold Ieee.Datum.sum
  simp only
  rw [signed_scale, signed_scale, scale_up, scale_up']
  have hm : max (fK a) (fK b) ∈ [1074, 43, 44, 45, 46, 47, 48, 49, 50, 51, 52] := by
    rcases Nat.le_total (fK a) (fK b) with h1 | h1
    · rw [Nat.max_eq_right h1]; exact fK_mem (by omega)
    · rw [Nat.max_eq_left h1]; exact fK_mem (by omega)
  have hb : min (-(fK a : Int)) (-(fK b : Int)) = -((max (fK a) (fK b) : Nat) : Int) := by omega
  rw [hb, ← Int.natCast_add, ← Nat.add_mul, Int.natAbs_natCast]
  have hs : (if (((a + b) * 2 ^ max (fK a) (fK b) : Nat) : Int) = 0 then false && false else decide ((((a + b) * 2 ^ max (fK a) (fK b) : Nat) : Int) < 0)) = false := by
    split
    · rfl
    · exact decide_eq_false (by omega)
  rw [hs, Option.map_some, fN_write h hm]
end Go.Proofs.Ythllmpgffdocmaa
