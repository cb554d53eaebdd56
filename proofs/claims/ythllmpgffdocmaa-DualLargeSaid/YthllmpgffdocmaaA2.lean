/-
  Walks over cmp.Or of two numbers and graph.compareLink, of links of which the first comes ahead.
-/
import Derived.Test.YthllmpgffdocmaaA
import Derived.Test.YthllmpgffdocmaaM
import Derived.Deep.QuietTactic
import Derived.BigQuiet
import Derived.StillTailTactics
import Derived.Deep.RegionHeld3
import Derived.Lib.Hide
namespace Go.Proofs.Ythllmpgffdocmaa
open Go.RowKit Go.Deep

def orI (a b : Int) : Int := if a = 0 then b else a
def orRel (a b : Int) (i : Value) : Prop := ∃ k : Nat, i = .int .i64 (k : Int) ∧ (k = 0 ∨ (k = 1 ∧ a = 0) ∨ (k = 2 ∧ a = 0 ∧ b = 0))
set_option maxHeartbeats 400000 in
theorem Or98 (a b : Int) (g cap : Nat) (w : World) (h0 : w.cell? ⟨g, 0, none⟩ = some (.int .i64 a)) (h1 : w.cell? ⟨g, 1, none⟩ = some (.int .i64 b)) :
    Calls Try.prog 98 #[.slice (some ⟨g, 0, none⟩) 2 cap] w fun e w' => e = .returned (.int .i64 (orI a b)) ∧ w = w' := by
  generalize hr : orI a b = r
  have HR := Lib.hid hr; clear hr
  go_enter Try.func98, Try.ntmps98
  go_wp2
  go_loop [8] (orRel a b) (fun i => 2 - (intOf i).toNat)
  case atStart => exact ⟨0, rfl, Or.inl rfl⟩
  case round =>
    obtain ⟨k, rfl, hk | ⟨hk, ha⟩ | ⟨hk, ha, hb⟩⟩ := hrel
    · subst hk
      by_cases ha : a = 0
      · have ha' : (a != 0) = false := by simp [ha]
        have HA := Lib.hid ha; clear ha
        go_wp2
        go_round
        case rel => exact ⟨1, rfl, Or.inr (Or.inl ⟨rfl, HA.out⟩)⟩
        case measure => simp [intOf]
      · have ha' : (a != 0) = true := by simp [ha]
        have hr : r = a := by rw [← HR.out, orI, if_neg ha]
        have HRR := Lib.hid hr; clear hr ha
        go_wp2
        go_ret
        exact ⟨ret_int HRR.out.symm, rfl⟩
    · subst hk
      by_cases hb : b = 0
      · have hb' : (b != 0) = false := by simp [hb]
        have HA := Lib.hid ha; clear ha
        have HB := Lib.hid hb; clear hb
        go_wp2
        go_round
        case rel => exact ⟨2, rfl, Or.inr (Or.inr ⟨rfl, HA.out, HB.out⟩)⟩
        case measure => simp [intOf]
      · have hb' : (b != 0) = true := by simp [hb]
        have hr : r = b := by rw [← HR.out, orI, if_pos ha]
        have HRR := Lib.hid hr; clear hr ha hb
        go_wp2
        go_ret
        exact ⟨ret_int HRR.out.symm, rfl⟩
    · subst hk
      have hr : r = 0 := by rw [← HR.out, orI, if_pos ha, hb]
      have HRR := Lib.hid hr; clear hr ha hb
      go_wp2
      go_ret
      exact ⟨ret_int HRR.out.symm, rfl⟩

set_option maxHeartbeats 1000000 in
theorem compareLink79' (a1 a2 a3 a4 b1 b2 b3 b4 : Int) (w : World) : Calls Try.prog 79 #[.agg #[.int .i64 a1, .int .i64 a2, .int .i64 a3, .int .i64 a4], .agg #[.int .i64 b1, .int .i64 b2, .int .i64 b3, .int .i64 b4]] w fun e w' => e = .returned (.int .i64 (orI (cmpI a1 b1) (cmpI a2 b2))) ∧ Below w.heap.size w w' := by
  go_enter Try.func79, Try.ntmps79
  go_wp2_with fail
  go_region_held3 (fun w' => w'.cell? ⟨w.heap.size, 0, none⟩ = some (.int .i64 a1) ∧ w'.cell? ⟨w.heap.size, 1, none⟩ = some (.int .i64 a2) ∧ w'.cell? ⟨w.heap.size + 1, 0, none⟩ = some (.int .i64 b1) ∧ w'.cell? ⟨w.heap.size + 1, 1, none⟩ = some (.int .i64 b2))
    (first
      | go_keep
      | trivial)
    (first
      | (go_at_call 97; refine (Compare97 _ _ _).mono ?_; rintro e w' ⟨rfl, rfl⟩)
      | (go_at_call 98
         refine (Or98 (cmpI a1 b1) (cmpI a2 b2) _ _ _ ?ha ?hb).mono ?_
         case ha => simp [go_sem]
         case hb => simp [go_sem]
         rintro e w' ⟨rfl, rfl⟩))
  go_wp2
  go_ret
  exact ⟨rfl, ((((Below.refl _ _).alloc (Nat.le_refl _) _).alloc (by simp) _).alloc (by simp; omega) _).drew⟩
theorem cmpL_lt {a1 a2 b1 b2 : Int} (h : a1 < b1 ∨ a1 = b1 ∧ a2 < b2) : orI (cmpI a1 b1) (cmpI a2 b2) = -1 := by
  rcases h with h | ⟨h, h2⟩
  · rw [cmpI_lt h]; rfl
  · rw [h, cmpI_eq, cmpI_lt h2]; rfl
theorem compareLink79 (a1 a2 a3 a4 b1 b2 b3 b4 : Int) (w : World) (h : a1 < b1 ∨ a1 = b1 ∧ a2 < b2) : Calls Try.prog 79 #[.agg #[.int .i64 a1, .int .i64 a2, .int .i64 a3, .int .i64 a4], .agg #[.int .i64 b1, .int .i64 b2, .int .i64 b3, .int .i64 b4]] w fun e w' => e = .returned (.int .i64 (-1)) ∧ Below w.heap.size w w' := by
  rw [← cmpL_lt h]
  exact compareLink79' a1 a2 a3 a4 b1 b2 b3 b4 w

end Go.Proofs.Ythllmpgffdocmaa
