/-
  Walks over package bits: Of of one node, Or, With.
-/
import Derived.Test.YthllmpgffdocmaaA
import Derived.Test.YthllmpgffdocmaaM
import Derived.RegionTactic
import Derived.BigRegion
import Derived.Lib.Hide
import Derived.Laws.Bits64
namespace Go.Proofs.Ythllmpgffdocmaa
open Go.RowKit Go.Deep

theorem wrap_u64_nat (n : Nat) (h : n < 2 ^ 64) : IntKind.u64.wrap (n : Int) = (n : Int) := by
  rw [IntKind.wrap_u64]; omega
theorem bits_or (a b : Nat) (ha : a < 2 ^ 64) (hb : b < 2 ^ 64) : bits .or .u64 (a : Int) (b : Int) = ((a ||| b : Nat) : Int) := by
  have h := Nat.or_lt_two_pow ha hb
  have e : (BitVec.ofInt 64 (a : Int) ||| BitVec.ofInt 64 (b : Int)).toNat = a ||| b := by
    rw [BitVec.toNat_or, BitVec.ofInt_natCast, BitVec.ofInt_natCast, BitVec.toNat_ofNat, BitVec.toNat_ofNat, Nat.mod_eq_of_lt ha, Nat.mod_eq_of_lt hb]
  show IntKind.u64.wrap (((BitVec.ofInt 64 (a : Int) ||| BitVec.ofInt 64 (b : Int)).toNat : Nat) : Int) = _
  rw [e]
  exact wrap_u64_nat _ h
theorem pow_u64 (n : Nat) (hn : n < 64) : (2 : Nat) ^ n < 2 ^ 64 := Nat.pow_lt_pow_right (by omega) hn
theorem bits_or0 (n : Nat) (hn : n < 64) : bits BinOp.or IntKind.u64 0 (IntKind.u64.wrap (2 ^ n)) = ((2 ^ n : Nat) : Int) := by
  have e : IntKind.u64.wrap (2 ^ n) = ((2 ^ n : Nat) : Int) := by
    rw [show ((2 : Int) ^ n) = ((2 ^ n : Nat) : Int) by simp]
    exact wrap_u64_nat _ (pow_u64 n hn)
  rw [e]
  have := bits_or 0 (2 ^ n) (by decide) (pow_u64 n hn)
  rw [Nat.zero_or] at this
  exact this

/-- The two words of the set of one node. -/
def oneLo (n : Nat) : Nat := if n < 64 then 2 ^ n else 0
def oneHi (n : Nat) : Nat := if n < 64 then 0 else 2 ^ (n - 64)
theorem oneLo_lt (n : Nat) : oneLo n < 2 ^ 64 := by unfold oneLo; split; exact pow_u64 n (by assumption); decide
theorem oneHi_lt {n : Nat} (h : n < 128) : oneHi n < 2 ^ 64 := by unfold oneHi; split; decide; exact pow_u64 _ (by omega)
def setV (a b : Nat) : Value := .agg #[.int .u64 (a : Int), .int .u64 (b : Int)]
def ofRel (w0 : World) (a b : Nat) (i : Value) (wr : World) : Prop :=
  (i = .int .i64 0 ∧ wr = (w0.alloc (.cells #[.int .u64 0, .int .u64 0] 25)).alloc (.cells #[.int .u64 0, .int .u64 0] 25)) ∨
  (i = .int .i64 1 ∧ ∃ nq, wr = ((w0.alloc (.cells #[.int .u64 0, .int .u64 0] 25)).alloc (.cells #[.int .u64 (a : Int), .int .u64 (b : Int)] 25)).drewN nq)
def setP (w : World) (a b : Nat) (e : Ending) (w' : World) : Prop := e = .returned (.tuple #[setV a b, .int .i64 0]) ∧ Below w.heap.size w w'
set_option maxHeartbeats 1000000 in
theorem Of59 (g c : Nat) (n : Nat) (w : World) (hn : n < 128) (h0 : w.cell? ⟨g, 0, none⟩ = some (.int .i64 n)) (hg : g < w.heap.size) :
    Calls Try.prog 59 #[.slice (some ⟨g, 0, none⟩) 1 c] w (setP w (oneLo n) (oneHi n)) := by
  have hn1 : (n : Int) < 128 := by omega
  have hn0 : (0 : Int) ≤ (n : Int) := by omega
  go_enter Try.func59, Try.ntmps59
  go_wp2_with fail
  go_loopw [9] (ofRel w (oneLo n) (oneHi n)) (fun i _ => 1 - (intOf i).toNat)
  case atStart => exact Or.inl ⟨rfl, rfl⟩
  case round =>
    rcases hrel with ⟨rfl, rfl⟩ | ⟨rfl, nq, rfl⟩
    · go_wp2_with fail
      refine (in38 _ _ (by omega) (by omega)).mono ?_
      rintro e w' ⟨rfl, rfl⟩
      by_cases h64 : n < 64
      · have hd : (n : Int) / 64 = 0 := by omega
        have hm : n % 64 = n := by omega
        have hv := bits_or0 n h64
        have hlo : oneLo n = 2 ^ n := by unfold oneLo; rw [if_pos h64]
        have hhi : oneHi n = 0 := by unfold oneHi; rw [if_pos h64]
        have HM := Lib.hid hm; clear hm
        have HLO := Lib.hid hlo; clear hlo
        have HHI := Lib.hid hhi; clear hhi
        have HV := Lib.hid hv; clear hv
        go_wp2_with fail
        go_region
        go_wp2_with fail
        go_roundw
        case rel => exact Or.inr ⟨rfl, 1, by rw [HM.out, HV.out, HLO.out, HHI.out]; rfl⟩
        case measure => simp [intOf]
      · have hd : (n : Int) / 64 = 1 := by omega
        have hm : n % 64 = n - 64 := by omega
        have hv := bits_or0 (n - 64) (by omega)
        have hlo : oneLo n = 0 := by unfold oneLo; rw [if_neg h64]
        have hhi : oneHi n = 2 ^ (n - 64) := by unfold oneHi; rw [if_neg h64]
        have HM := Lib.hid hm; clear hm
        have HLO := Lib.hid hlo; clear hlo
        have HHI := Lib.hid hhi; clear hhi
        have HV := Lib.hid hv; clear hv
        go_wp2_with fail
        go_region
        go_wp2_with fail
        go_roundw
        case rel => exact Or.inr ⟨rfl, 1, by rw [HM.out, HV.out, HLO.out, HHI.out]; rfl⟩
        case measure => simp [intOf]
    · go_wp2_with fail
      refine bodyPost_ret (v := .tuple #[setV (oneLo n) (oneHi n), .int .i64 0]) (by simp [results, Try.results59, go_sem, setV]) rfl ⟨rfl, ?_⟩
      exact ((below_drewN (((Below.refl _ _).alloc (Nat.le_refl _) _).alloc (by simp) _) nq).setCell (p := ⟨w.heap.size, 0, none⟩) (by simp) _).setCell (p := ⟨w.heap.size, 1, none⟩) (by simp) _

set_option maxHeartbeats 1000000 in
theorem Or60 (a b c d : Nat) (w : World) (ha : a < 2 ^ 64) (hb : b < 2 ^ 64) (hc : c < 2 ^ 64) (hd : d < 2 ^ 64) :
    Calls Try.prog 60 #[setV a b, setV c d] w fun e w' => e = .returned (setV (a ||| c) (b ||| d)) ∧ Below w.heap.size w w' := by
  rw [setV, setV, setV, ← bits_or a c ha hc, ← bits_or b d hb hd]
  clear ha hb hc hd
  go_enter Try.func60, Try.ntmps60
  go_wp2_with fail
  refine bodyPost_ret (v := .agg #[.int .u64 (bits .or .u64 (a : Int) (c : Int)), .int .u64 (bits .or .u64 (b : Int) (d : Int))]) (by simp [results, Try.results60, go_sem]) rfl ⟨rfl, ?_⟩
  exact (((Below.refl _ _).alloc (Nat.le_refl _) _).alloc (by simp) _).alloc (by simp; omega) _

set_option maxHeartbeats 1000000 in
theorem With37 (a b : Nat) (n : Int) (w : World) (ha : a < 2 ^ 64) (hb : b < 2 ^ 64) (h0 : 0 ≤ n) (h1 : n ≤ 127) :
    Calls Try.prog 37 #[setV a b, .int .i64 n] w (setP w (a ||| oneLo n.toNat) (b ||| oneHi n.toNat)) := by
  obtain ⟨n, rfl⟩ := Int.eq_ofNat_of_zero_le h0
  rw [Int.toNat_natCast]
  have hn : n < 128 := by omega
  have ol := oneLo_lt n
  have oh := oneHi_lt hn
  have HA := Lib.hid ha; clear ha
  have HB := Lib.hid hb; clear hb
  have HL := Lib.hid ol; clear ol
  have HH := Lib.hid oh; clear oh
  unfold setV
  go_enter Try.func37, Try.ntmps37
  go_wp2_with fail
  generalize hw1 : World.alloc (World.alloc (World.alloc w _) _) _ = w1
  have hb1 : Below w.heap.size w w1 := by rw [← hw1]; exact (((Below.refl _ _).alloc (Nat.le_refl _) _).alloc (by simp) _).alloc (by simp; omega) _
  have hs1 : w1.heap.size = w.heap.size + 3 := by rw [← hw1]; simp
  have x0 : w1.cell? ⟨w.heap.size, 0, none⟩ = some (.int .u64 (a : Int)) := by rw [← hw1]; simp [go_sem]
  have x1 : w1.cell? ⟨w.heap.size, 1, none⟩ = some (.int .u64 (b : Int)) := by rw [← hw1]; simp [go_sem]
  have y0 : w1.cell? ⟨w.heap.size + 1, 0, none⟩ = some (.int .u64 0) := by rw [← hw1]; simp [go_sem]
  have y1 : w1.cell? ⟨w.heap.size + 1, 1, none⟩ = some (.int .u64 0) := by rw [← hw1]; simp [go_sem]
  have yf : ∀ o, w1.frozen? ⟨w.heap.size + 1, o, none⟩ = false := by rw [← hw1]; intro o; simp [go_sem]
  have z0 : w1.cell? ⟨w.heap.size + 1 + 1, 0, none⟩ = some (.int .i64 (n : Int)) := by rw [← hw1]; simp [go_sem]
  clear hw1
  refine (Of59 (w.heap.size + 1 + 1) 1 n w1 hn z0 (by omega)).mono ?_
  rintro e w2 ⟨rfl, hb2⟩
  unfold setV
  have X0 : w2.cell? ⟨w.heap.size, 0, none⟩ = some (.int .u64 (a : Int)) := by rw [hb2.cell (p := ⟨w.heap.size, 0, none⟩) (by simp; omega)]; exact x0
  have X1 : w2.cell? ⟨w.heap.size, 1, none⟩ = some (.int .u64 (b : Int)) := by rw [hb2.cell (p := ⟨w.heap.size, 1, none⟩) (by simp; omega)]; exact x1
  have Y0 : w2.cell? ⟨w.heap.size + 1, 0, none⟩ = some (.int .u64 0) := by rw [hb2.cell (p := ⟨w.heap.size + 1, 0, none⟩) (by simp; omega)]; exact y0
  have Y1 : w2.cell? ⟨w.heap.size + 1, 1, none⟩ = some (.int .u64 0) := by rw [hb2.cell (p := ⟨w.heap.size + 1, 1, none⟩) (by simp; omega)]; exact y1
  have YF : ∀ o, w2.frozen? ⟨w.heap.size + 1, o, none⟩ = false := fun o => by rw [hb2.frozen (p := ⟨w.heap.size + 1, o, none⟩) (by simp; omega)]; exact yf o
  have hs2 : w.heap.size + 3 ≤ w2.heap.size := by have := hb2.size; omega
  have hl0 : w.heap.size < w2.heap.size := by omega
  have hl1 : w.heap.size + 1 < w2.heap.size := by omega
  have hB2 : Below w.heap.size w w2 := hb1.trans (hb2.mono (by omega))
  clear x0 x1 y0 y1 yf z0 hs1 hb1 hb2
  generalize oneLo n = p at *
  generalize oneHi n = q at *
  go_wp2_with fail
  have ho := Or60 a b p q (w2.alloc (.cells #[.int .u64 (p : Int), .int .u64 (q : Int)] 25)) HA.out HB.out HL.out HH.out
  unfold setV at ho
  refine ho.mono ?_
  rintro e w3 ⟨rfl, hb3⟩
  have Z0 : w3.cell? ⟨w.heap.size + 1, 0, none⟩ = some (.int .u64 0) := by rw [hb3.cell (p := ⟨w.heap.size + 1, 0, none⟩) (by simp; omega)]; simpa [go_sem, hl1] using Y0
  have Z1 : w3.cell? ⟨w.heap.size + 1, 1, none⟩ = some (.int .u64 0) := by rw [hb3.cell (p := ⟨w.heap.size + 1, 1, none⟩) (by simp; omega)]; simpa [go_sem, hl1] using Y1
  have ZF : ∀ o, w3.frozen? ⟨w.heap.size + 1, o, none⟩ = false := fun o => by rw [hb3.frozen (p := ⟨w.heap.size + 1, o, none⟩) (by simp; omega)]; simpa [go_sem, hl1] using YF o
  have hB3 : Below w.heap.size w w3 := (hB2.alloc (by omega) _).trans (hb3.mono (by simp; omega))
  clear X0 X1 Y0 Y1 YF hB2 hb3
  go_wp2_with fail
  refine bodyPost_ret (v := .tuple #[.agg #[.int .u64 ((a ||| p : Nat) : Int), .int .u64 ((b ||| q : Nat) : Int)], .int .i64 0]) (by simp [results, Try.results37, go_sem, Z0, Z1]) rfl ⟨rfl, ?_⟩
  exact (hB3.setCell (p := ⟨w.heap.size + 1, 0, none⟩) (by simp) _).setCell (p := ⟨w.heap.size + 1, 1, none⟩) (by simp) _
end Go.Proofs.Ythllmpgffdocmaa
