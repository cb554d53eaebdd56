/-
  Walk over the heap's method 'up'.
-/
import Derived.Test.YthllmpgffdocmaaB
import Derived.Test.YthllmpgffdocmaaB2
import Derived.Scope
import Derived.WalkMore
import Derived.ScopeJumps
import Derived.Lib.Hide
namespace Go.Proofs.Ythllmpgffdocmaa
open Go.RowKit Go.Deep

def upJ (base hb : Nat) (v : Value) (w : World) (R : Hp) (a' : Act) (w' : World) : Prop :=
  ∃ (i k : Nat) (H : Hp) (u2 u3 u4 u5 u6 u7 u8 u9 u10 u11 u12 u13 u14 u15 u16 u17 u18 u19 u20 u21 u22 : Value), a' = { tmps := #[.pointer (some ⟨hb, 0, none⟩), .int .i64 (i : Int), u2, u3, u4, u5, u6, u7, u8, u9, u10, u11, u12, u13, u14, u15, u16, u17, u18, u19, u20, u21, u22], defers := [] } ∧
    i < H.list.length ∧ i ≤ k ∧ upF k H i = R ∧ HeapAt w' base hb v H ∧ Tch (heapS hb v) w w'
def upP (base hb : Nat) (v : Value) (w : World) (R : Hp) (e : Ending) (w' : World) : Prop := e = .returned (.tuple #[]) ∧ HeapAt w' base hb v R ∧ Tch (heapS hb v) w w'
theorem half_cast (i : Nat) (h : 0 < i) : ((i : Int) - 1) / 2 = (((i - 1) / 2 : Nat) : Int) := by omega

theorem upF_stay {k i : Nat} {H R : Hp} (h : upF k H i = R) (hn : i = 0 ∨ lessE (H.ent i) (H.ent ((i - 1) / 2)) = false) : H = R := by
  cases k with
  | zero => exact h
  | succ k =>
    unfold upF at h
    by_cases h0 : 0 < i
    · rw [if_pos h0] at h
      rcases hn with h1 | h1
      · omega
      · rw [h1] at h; simpa using h
    · rw [if_neg h0] at h; exact h
theorem upF_go {k i : Nat} {H R : Hp} (h : upF k H i = R) (hi : i ≤ k) (h0 : 0 < i) (hl : lessE (H.ent i) (H.ent ((i - 1) / 2)) = true) : ∃ k', (i - 1) / 2 ≤ k' ∧ upF k' (swapH H i ((i - 1) / 2)) ((i - 1) / 2) = R := by
  cases k with
  | zero => omega
  | succ k =>
    unfold upF at h
    rw [if_pos h0, hl, if_pos rfl] at h
    exact ⟨k, by omega, h⟩

set_option maxHeartbeats 1000000 in
theorem up81 {base hb : Nat} {v : Value} {H : Hp} (i : Int) (w : World) (h : HeapAt w base hb v H) (i0 : 0 ≤ i) (i1 : i < H.list.length) :
    Calls Try.prog 81 #[.pointer (some ⟨hb, 0, none⟩), .int .i64 i] w (upP base hb v w (upF i.toNat H i.toNat)) := by
  obtain ⟨i, rfl⟩ := Int.eq_ofNat_of_zero_le i0
  rw [Int.toNat_natCast]
  generalize hR : upF i H i = R
  have HR := Lib.hid hR; clear hR
  obtain ⟨k, hk, HR⟩ : ∃ k, i ≤ k ∧ Hid (upF k H i = R) := ⟨i, Nat.le_refl _, HR⟩
  have hA := h
  have hT := Tch.refl (heapS hb v) w
  have i2 : i < H.list.length := by omega
  clear h i0 i1
  go_enter Try.func81, Try.ntmps81
  refine wp_scope_jumps 0 (upJ base hb v w R) (fun a' _ => (intOf (a'.tmps.getD 1 undef)).toNat) rfl ?_ ?_
  · go_wp2_with fail
    go_step3
    have hi40 : i < 4096 := by have := hA.small; omega
    by_cases h0 : 0 < i
    · have e1 : (((i : Int) - 1) / 2).toNat = (i - 1) / 2 := by omega
      by_cases hl : lessE (H.ent i) (H.ent ((i - 1) / 2)) = true
      · obtain ⟨k', hk', hR'⟩ := upF_go HR.out hk h0 hl
        have c := before99 (i : Int) (((i : Int) - 1) / 2) w hA (by omega) (by omega) (by omega) (by omega)
        rw [Int.toNat_natCast, e1, hl] at c
        have HR' := Lib.hid hR'; clear hR' HR
        have HL := Lib.hid hl; clear hl
        have E1 := Lib.hid e1; clear e1
        go_wp2_with fail
        refine c.mono ?_
        rintro e w2 ⟨rfl, hb2⟩
        go_wp2_with fail
        have c2 := swap100 (i : Int) (((i : Int) - 1) / 2) w2 (hA.below' hb2) (by omega) (by omega) (by omega) (by omega)
        rw [Int.toNat_natCast, E1.out] at c2
        refine c2.mono ?_
        rintro e w3 ⟨rfl, hA3, hT3⟩
        go_wp2_with fail
        go_step3
        rw [half_cast i h0]
        refine ⟨rfl, (i - 1) / 2, k', _, _, _, _, _, _, _, _, _, _, _, _, _, _, _, _, _, _, _, _, _, _, rfl, by rw [swapH_len]; omega, hk', HR'.out, hA3, (hT.trans (Tch.of_below hb2) (fun n hn f => f)).trans hT3 (fun n hn f => f)⟩
      · have hl' : lessE (H.ent i) (H.ent ((i - 1) / 2)) = false := by simpa using hl
        obtain rfl := upF_stay HR.out (Or.inr hl')
        have c := before99 (i : Int) (((i : Int) - 1) / 2) w hA (by omega) (by omega) (by omega) (by omega)
        rw [Int.toNat_natCast, e1, hl'] at c
        clear HR hl hl' e1
        go_wp2_with fail
        refine c.mono ?_
        rintro e w2 ⟨rfl, hb2⟩
        go_wp2_with fail
        try simp only [Exit.jump]
        go_end0
        exact ⟨rfl, hA.below' hb2, hT.trans (Tch.of_below hb2) (fun n hn f => f)⟩
    · obtain rfl := upF_stay HR.out (Or.inl (by omega))
      have hz : ¬ (0 < (i : Int)) := by omega
      clear HR
      go_wp2_with fail
      try simp only [Exit.jump]
      go_end0
      exact ⟨rfl, hA, hT⟩
  · rintro a' w' ⟨i, k, H, u2, u3, u4, u5, u6, u7, u8, u9, u10, u11, u12, u13, u14, u15, u16, u17, u18, u19, u20, u21, u22, rfl, i2, hk, hR, hA, hT⟩
    have HR := Lib.hid hR; clear hR
    obtain ⟨w1, rfl⟩ : ∃ w1, w1 = w' := ⟨w', rfl⟩
    have hi40 : i < 4096 := by have := hA.small; omega
    by_cases h0 : 0 < i
    · have e1 : (((i : Int) - 1) / 2).toNat = (i - 1) / 2 := by omega
      by_cases hl : lessE (H.ent i) (H.ent ((i - 1) / 2)) = true
      · obtain ⟨k', hk', hR'⟩ := upF_go HR.out hk h0 hl
        have c := before99 (i : Int) (((i : Int) - 1) / 2) w1 hA (by omega) (by omega) (by omega) (by omega)
        rw [Int.toNat_natCast, e1, hl] at c
        have HR' := Lib.hid hR'; clear hR' HR
        have HL := Lib.hid hl; clear hl
        have E1 := Lib.hid e1; clear e1
        go_wp2_with fail
        refine c.mono ?_
        rintro e w2 ⟨rfl, hb2⟩
        go_wp2_with fail
        have c2 := swap100 (i : Int) (((i : Int) - 1) / 2) w2 (hA.below' hb2) (by omega) (by omega) (by omega) (by omega)
        rw [Int.toNat_natCast, E1.out] at c2
        refine c2.mono ?_
        rintro e w3 ⟨rfl, hA3, hT3⟩
        go_wp2_with fail
        go_step3
        rw [half_cast i h0]
        refine ⟨rfl, ⟨(i - 1) / 2, k', _, _, _, _, _, _, _, _, _, _, _, _, _, _, _, _, _, _, _, _, _, _, rfl, by rw [swapH_len]; omega, hk', HR'.out, hA3, (hT.trans (Tch.of_below hb2) (fun n hn f => f)).trans hT3 (fun n hn f => f)⟩, ?_⟩
        simp [intOf]; omega
      · have hl' : lessE (H.ent i) (H.ent ((i - 1) / 2)) = false := by simpa using hl
        obtain rfl := upF_stay HR.out (Or.inr hl')
        have c := before99 (i : Int) (((i : Int) - 1) / 2) w1 hA (by omega) (by omega) (by omega) (by omega)
        rw [Int.toNat_natCast, e1, hl'] at c
        clear HR hl hl' e1
        go_wp2_with fail
        refine c.mono ?_
        rintro e w2 ⟨rfl, hb2⟩
        go_wp2_with fail
        try simp only [Exit.jump]
        go_end0
        exact ⟨rfl, hA.below' hb2, hT.trans (Tch.of_below hb2) (fun n hn f => f)⟩
    · obtain rfl := upF_stay HR.out (Or.inl (by omega))
      have hz : ¬ (0 < (i : Int)) := by omega
      clear HR
      go_wp2_with fail
      try simp only [Exit.jump]
      go_end0
      exact ⟨rfl, hA, hT⟩

end Go.Proofs.Ythllmpgffdocmaa
