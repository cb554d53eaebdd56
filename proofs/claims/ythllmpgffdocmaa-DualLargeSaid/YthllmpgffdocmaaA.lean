/-
  Walks over the leaves of the translation: numbers, bounds, comparisons, the place (0, 0). Each contract says what the function returns for the arguments named, and what becomes of the world.
-/
import Derived.Test.YthllmpgffdocmaaProg
import Derived.WalkKit
import Derived.WalkSpells
import Derived.WalkLawsBesides
namespace Go.Proofs.Ythllmpgffdocmaa
open Go.RowKit

theorem ret_int {k : IntKind} {a b : Int} (h : a = b) : Ending.returned (.int k a) = .returned (.int k b) := by rw [h]
theorem ret_bool {a b : Bool} (h : a = b) : Ending.returned (.bool a) = .returned (.bool b) := by rw [h]
/-- cmp.Compare on ints. -/
def cmpI (x y : Int) : Int := if x < y then -1 else if y < x then 1 else 0
theorem cmpI_lt {x y : Int} (h : x < y) : cmpI x y = -1 := by unfold cmpI; rw [if_pos h]
theorem cmpI_gt {x y : Int} (h : y < x) : cmpI x y = 1 := by unfold cmpI; rw [if_neg (by omega), if_pos h]
theorem cmpI_eq (x : Int) : cmpI x x = 0 := by unfold cmpI; rw [if_neg (by omega), if_neg (by omega)]
/-- dist.Sum on distances. -/
def sumI (a b : Int) : Int := if a + b < 1073741824 then a + b else 1073741824

set_option maxHeartbeats 400000 in
theorem isNaN_any (n : Int) (w : World)  : Calls Try.prog 108 #[.int .i64 n] w fun e w' => e = .returned (.bool false) ∧ w = w' := by
  go_enter Try.func108, Try.ntmps108
  go_wp2
  all_goals go_ret
  all_goals exact ⟨by simp, rfl⟩

set_option maxHeartbeats 400000 in
theorem clamp_in (n : Int) (w : World) (h0 : 0 ≤ n) (h1 : n ≤ 1073741824) : Calls Try.prog 84 #[.int .i64 n] w fun e w' => e = .returned (.int .i64 n) ∧ w = w' := by
  go_enter Try.func84, Try.ntmps84
  go_wp2
  all_goals go_ret
  all_goals exact ⟨ret_int (by first | rfl | omega), rfl⟩

set_option maxHeartbeats 400000 in
theorem Clamp_in (n : Int) (w : World) (h0 : 0 ≤ n) (h1 : n ≤ 1073741824) : Calls Try.prog 87 #[.int .i64 n] w fun e w' => e = .returned (.int .i64 n) ∧ w = w' := by
  go_enter Try.func87, Try.ntmps87
  go_wp2
  all_goals go_ret
  all_goals exact ⟨ret_int (by first | rfl | omega), rfl⟩

set_option maxHeartbeats 400000 in
theorem in75 (n : Int) (w : World) (h0 : 0 ≤ n) (h1 : n ≤ 127) : Calls Try.prog 75 #[.int .i64 n] w fun e w' => e = .returned (.bool true) ∧ w = w' := by
  go_enter Try.func75, Try.ntmps75
  go_wp2
  all_goals go_ret
  all_goals exact ⟨ret_bool (by first | rfl | (simp; done) | (simp; omega)), rfl⟩

set_option maxHeartbeats 400000 in
theorem in80 (n : Int) (w : World) (h0 : 0 ≤ n) (h1 : n ≤ 127) : Calls Try.prog 80 #[.int .i64 n] w fun e w' => e = .returned (.bool true) ∧ w = w' := by
  go_enter Try.func80, Try.ntmps80
  go_wp2
  all_goals go_ret
  all_goals exact ⟨ret_bool (by first | rfl | (simp; done) | (simp; omega)), rfl⟩

set_option maxHeartbeats 400000 in
theorem in38 (n : Int) (w : World) (h0 : 0 ≤ n) (h1 : n ≤ 127) : Calls Try.prog 38 #[.int .i64 n] w fun e w' => e = .returned (.bool true) ∧ w = w' := by
  go_enter Try.func38, Try.ntmps38
  go_wp2
  all_goals go_ret
  all_goals exact ⟨ret_bool (by first | rfl | (simp; done) | (simp; omega)), rfl⟩

set_option maxHeartbeats 400000 in
theorem In40 (n : Int) (w : World) (h0 : 0 ≤ n) (h1 : n ≤ 127) : Calls Try.prog 40 #[.int .i64 n] w fun e w' => e = .returned (.bool true) ∧ w = w' := by
  go_enter Try.func40, Try.ntmps40
  go_wp2
  all_goals go_ret
  all_goals exact ⟨ret_bool (by first | rfl | (simp; done) | (simp; omega)), rfl⟩

set_option maxHeartbeats 400000 in
theorem costOk92 (n : Int) (w : World) (h0 : 1 ≤ n) (h1 : n ≤ 65535) : Calls Try.prog 92 #[.int .i64 n] w fun e w' => e = .returned (.bool true) ∧ w = w' := by
  go_enter Try.func92, Try.ntmps92
  go_wp2
  all_goals go_ret
  all_goals exact ⟨ret_bool (by first | rfl | (simp; done) | (simp; omega)), rfl⟩

set_option maxHeartbeats 400000 in
theorem costOk62 (n : Int) (w : World) (h0 : 1 ≤ n) (h1 : n ≤ 65535) : Calls Try.prog 62 #[.int .i64 n] w fun e w' => e = .returned (.bool true) ∧ w = w' := by
  go_enter Try.func62, Try.ntmps62
  go_wp2
  all_goals go_ret
  all_goals exact ⟨ret_bool (by first | rfl | (simp; done) | (simp; omega)), rfl⟩

set_option maxHeartbeats 400000 in
theorem delayOk93 (n : Int) (w : World) (h0 : 0 ≤ n) (h1 : n ≤ 65535) : Calls Try.prog 93 #[.int .i64 n] w fun e w' => e = .returned (.bool true) ∧ w = w' := by
  go_enter Try.func93, Try.ntmps93
  go_wp2
  all_goals go_ret
  all_goals exact ⟨ret_bool (by first | rfl | (simp; done) | (simp; omega)), rfl⟩

set_option maxHeartbeats 400000 in
theorem smallOk63 (n : Int) (w : World) (h0 : 0 ≤ n) (h1 : n ≤ 65535) : Calls Try.prog 63 #[.int .i64 n] w fun e w' => e = .returned (.bool true) ∧ w = w' := by
  go_enter Try.func63, Try.ntmps63
  go_wp2
  all_goals go_ret
  all_goals exact ⟨ret_bool (by first | rfl | (simp; done) | (simp; omega)), rfl⟩

theorem fo1 : FloatKind.f64.format.order 0 13920626448202203136 = some .gt := by decide +kernel
theorem fo2 : FloatKind.f64.format.order 0 4697254411347427328 = some .lt := by decide +kernel
theorem fo0 : FloatKind.f64.format.order 0 0 = some .eq := by decide +kernel
theorem fi0 : floatOfInt FloatKind.f64 0 = 0 := by decide +kernel
theorem fc0 (w : World) : (convert 72 3 (.float .f64 0)).run Try.prog w = .ok (.int .i64 0) w :=
  run_convert_float_int (P := Try.prog) w 72 3 .f64 .i64 0 0 (by kernel_rfl) Try.underlying3 (by decide +kernel)
theorem fa0 (w : World) : (binOp .add 72 (.float .f64 0) (.float .f64 0)).run Try.prog w = .ok (.float .f64 0) w :=
  run_float_arith (P := Try.prog) w .add 72 .f64 0 0 0 (by decide +kernel)

set_option maxHeartbeats 400000 in
theorem plain_zero  (w : World)  : Calls Try.prog 51 #[.complex .f64 0 0] w fun e w' => e = .returned (.complex .f64 0 0) ∧ w = w' := by
  have f1 := fa0
  go_enter Try.func51, Try.ntmps51
  go_wp2
  all_goals go_ret
  all_goals exact ⟨rfl, rfl⟩

set_option maxHeartbeats 400000 in
set_option maxRecDepth 10000 in
theorem whole_zero  (w : World)  : Calls Try.prog 105 #[.float .f64 0] w fun e w' => e = .returned (.bool true) ∧ w = w' := by
  have f1 := fo1
  have f2 := fo2
  have f3 := fo0
  have f4 := fi0
  have f5 := fc0
  go_enter Try.func105, Try.ntmps105
  go_wp2
  all_goals go_ret
  all_goals exact ⟨ret_bool (by simp), rfl⟩

set_option maxHeartbeats 400000 in
set_option maxRecDepth 10000 in
theorem Ok91_zero  (w : World)  : Calls Try.prog 91 #[.complex .f64 0 0] w fun e w' => e = .returned (.bool true) ∧ w = w' := by
  have f1 := fo1
  have f2 := fo2
  have f3 := fo0
  have f4 := fi0
  have f5 := fc0
  go_enter Try.func91, Try.ntmps91
  go_wp2
  all_goals go_ret
  all_goals exact ⟨rfl, rfl⟩

set_option maxHeartbeats 400000 in
theorem Compare97 (x y : Int) (w : World) : Calls Try.prog 97 #[.int .i64 x, .int .i64 y] w fun e w' => e = .returned (.int .i64 (cmpI x y)) ∧ w = w' := by
  rcases Int.lt_trichotomy x y with h | rfl | h
  · rw [cmpI_lt h]
    go_enter Try.func97, Try.ntmps97
    go_wp2
    all_goals go_ret
    all_goals exact ⟨rfl, rfl⟩
  · rw [cmpI_eq]
    go_enter Try.func97, Try.ntmps97
    go_wp2
    all_goals go_ret
    all_goals exact ⟨rfl, rfl⟩
  · rw [cmpI_gt h]
    go_enter Try.func97, Try.ntmps97
    go_wp2
    all_goals go_ret
    all_goals exact ⟨rfl, rfl⟩

set_option maxHeartbeats 400000 in
theorem Sum56 (a b : Int) (w : World) (ha : 0 ≤ a) (ha1 : a ≤ 1073741824) (hb : 0 ≤ b) (hb1 : b ≤ 1073741824) : Calls Try.prog 56 #[.int .i64 a, .int .i64 b] w fun e w' => e = .returned (.int .i64 (sumI a b)) ∧ w = w' := by
  go_enter Try.func56, Try.ntmps56
  go_wp2_with fail
  refine (clamp_in a _ ha ha1).mono ?_
  rintro e w' ⟨rfl, rfl⟩
  go_wp2_with fail
  refine (clamp_in b _ hb hb1).mono ?_
  rintro e w' ⟨rfl, rfl⟩
  go_wp2
  all_goals go_ret
  all_goals exact ⟨ret_int (by unfold sumI; first | rw [if_pos (by omega)] | rw [if_neg (by omega)] | (split <;> omega)), rfl⟩

set_option maxHeartbeats 400000 in
theorem Sum68 (a b : Int) (w : World) (ha : 0 ≤ a) (ha1 : a ≤ 1073741824) (hb : 0 ≤ b) (hb1 : b ≤ 1073741824) : Calls Try.prog 68 #[.int .i64 a, .int .i64 b] w fun e w' => e = .returned (.int .i64 (sumI a b)) ∧ w = w' := by
  go_enter Try.func68, Try.ntmps68
  go_wp2_with fail
  refine (Clamp_in a _ ha ha1).mono ?_
  rintro e w' ⟨rfl, rfl⟩
  go_wp2_with fail
  refine (Clamp_in b _ hb hb1).mono ?_
  rintro e w' ⟨rfl, rfl⟩
  go_wp2
  all_goals go_ret
  all_goals exact ⟨ret_int (by unfold sumI; first | rw [if_pos (by omega)] | rw [if_neg (by omega)] | (split <;> omega)), rfl⟩

set_option maxHeartbeats 400000 in
theorem Less58 (a b : Int) (w : World) (ha : 0 ≤ a) (ha1 : a ≤ 1073741824) (hb : 0 ≤ b) (hb1 : b ≤ 1073741824) : Calls Try.prog 58 #[.int .i64 a, .int .i64 b] w fun e w' => e = .returned (.bool (decide (a < b))) ∧ w = w' := by
  go_enter Try.func58, Try.ntmps58
  go_wp2_with fail
  refine (clamp_in a _ ha ha1).mono ?_
  rintro e w' ⟨rfl, rfl⟩
  go_wp2_with fail
  refine (clamp_in b _ hb hb1).mono ?_
  rintro e w' ⟨rfl, rfl⟩
  go_wp2
  all_goals go_ret
  all_goals exact ⟨rfl, rfl⟩

set_option maxHeartbeats 400000 in
theorem Less67 (a b : Int) (w : World) (ha : 0 ≤ a) (ha1 : a ≤ 1073741824) (hb : 0 ≤ b) (hb1 : b ≤ 1073741824) : Calls Try.prog 67 #[.int .i64 a, .int .i64 b] w fun e w' => e = .returned (.bool (decide (a < b))) ∧ w = w' := by
  go_enter Try.func67, Try.ntmps67
  go_wp2_with fail
  refine (Clamp_in a _ ha ha1).mono ?_
  rintro e w' ⟨rfl, rfl⟩
  go_wp2_with fail
  refine (Clamp_in b _ hb hb1).mono ?_
  rintro e w' ⟨rfl, rfl⟩
  go_wp2
  all_goals go_ret
  all_goals exact ⟨rfl, rfl⟩

set_option maxHeartbeats 400000 in
theorem compareNode77 (x y : Int) (o : Bool) (p : Value) (hp : p = .complex .f64 0 0) (w : World) : Calls Try.prog 77 #[.agg #[.int .i64 x, .bool o, p], .int .i64 y] w fun e w' => e = .returned (.int .i64 (cmpI x y)) ∧ Below w.heap.size w w' := by
  subst hp
  go_enter Try.func77, Try.ntmps77
  go_wp2_with fail
  refine (Compare97 _ _ _).mono ?_
  rintro e w' ⟨rfl, rfl⟩
  go_wp2
  go_ret
  exact ⟨rfl, (Below.refl _ _).alloc (Nat.le_refl _) _⟩

set_option maxHeartbeats 400000 in
set_option maxRecDepth 10000 in
theorem part_zero (w : World) : Calls Try.prog 102 #[.float .f64 0] w fun e w' => e = .returned (.tuple #[.int .i64 0, .bool true]) ∧ w = w' := by
  have f1 := fo1
  have f2 := fo2
  have f3 := fo0
  have f4 := fi0
  have f5 := fc0
  go_enter Try.func102, Try.ntmps102
  go_wp2
  go_ret2
  exact ⟨rfl, rfl⟩

set_option maxHeartbeats 400000 in
theorem Of85_zero (w : World) : Calls Try.prog 85 #[.complex .f64 0 0] w fun e w' => e = .returned (.tuple #[.agg #[.int .i64 0, .int .i64 0], .bool true]) ∧ Below w.heap.size w w' := by
  go_enter Try.func85, Try.ntmps85
  go_wp2_with fail
  refine (part_zero _).mono ?_
  rintro e w' ⟨rfl, rfl⟩
  go_wp2_with fail
  refine (part_zero _).mono ?_
  rintro e w' ⟨rfl, rfl⟩
  go_wp2
  refine bodyPost_ret (v := .tuple #[.agg #[.int .i64 0, .int .i64 0], .bool true]) (by simp [results, Try.results85, go_sem]) rfl ⟨rfl, ?_⟩
  exact (Below.refl _ _).alloc (Nat.le_refl _) _

set_option maxHeartbeats 400000 in
theorem Ok61_zero (w : World) : Calls Try.prog 61 #[.complex .f64 0 0] w fun e w' => e = .returned (.bool true) ∧ Below w.heap.size w w' := by
  go_enter Try.func61, Try.ntmps61
  go_wp2_with fail
  refine (Of85_zero _).mono ?_
  rintro e w' ⟨rfl, hb⟩
  go_wp2
  go_ret
  exact ⟨rfl, hb.alloc hb.size _⟩

set_option maxHeartbeats 400000 in
theorem linkAhead64 (a1 a2 a3 a4 b1 b2 b3 b4 : Int) (w : World) (h : (a1 < b1 ∨ a1 = b1 ∧ a2 < b2)) : Calls Try.prog 64 #[.agg #[.int .i64 a1, .int .i64 a2, .int .i64 a3, .int .i64 a4], .agg #[.int .i64 b1, .int .i64 b2, .int .i64 b3, .int .i64 b4]] w fun e w' => e = .returned (.bool true) ∧ Below w.heap.size w w' := by
  rcases h with h | ⟨rfl, h⟩
  all_goals
    go_enter Try.func64, Try.ntmps64
    go_wp2
    go_ret
    exact ⟨rfl, ((Below.refl _ _).alloc (Nat.le_refl _) _).alloc (by simp) _⟩

end Go.Proofs.Ythllmpgffdocmaa
