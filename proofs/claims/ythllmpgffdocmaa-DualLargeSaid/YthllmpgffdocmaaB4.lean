/-
  Walk over the heap's method 'down'.
-/
import Derived.Test.YthllmpgffdocmaaB
import Derived.Test.YthllmpgffdocmaaB2
import Derived.Scope
import Derived.WalkMore
import Derived.ScopeJumps
import Derived.Lib.Hide
namespace Go.Proofs.Ythllmpgffdocmaa
open Go.RowKit Go.Deep

def downJ (base hb : Nat) (v : Value) (w : World) (R : Hp) (a' : Act) (w' : World) : Prop :=
  ∃ (i k : Nat) (H : Hp) (u2 u3 u4 u5 u6 u7 u8 u9 u10 u11 u12 u13 u14 u15 u16 u17 u18 u19 u20 u21 u22 u23 u24 u25 u26 u27 u28 u29 u30 u31 u32 u33 u34 u35 u36 u37 u38 u39 u40 : Value), a' = { tmps := #[.pointer (some ⟨hb, 0, none⟩), .int .i64 (i : Int), u2, u3, u4, u5, u6, u7, u8, u9, u10, u11, u12, u13, u14, u15, u16, u17, u18, u19, u20, u21, u22, u23, u24, u25, u26, u27, u28, u29, u30, u31, u32, u33, u34, u35, u36, u37, u38, u39, u40], defers := [] } ∧
    i < H.list.length ∧ H.list.length ≤ i + k ∧ downF k H i = R ∧ HeapAt w' base hb v H ∧ Tch (heapS hb v) w w'
def downP (base hb : Nat) (v : Value) (w : World) (R : Hp) (e : Ending) (w' : World) : Prop := e = .returned (.tuple #[]) ∧ HeapAt w' base hb v R ∧ Tch (heapS hb v) w w'
theorem downF_leaf {k i : Nat} {H R : Hp} (h : downF k H i = R) (hn : H.list.length ≤ 2 * i + 1) : H = R := by
  cases k with
  | zero => exact h
  | succ k => unfold downF at h; rw [if_neg (by omega)] at h; exact h
theorem downF_stay {k i : Nat} {H R : Hp} (h : downF k H i = R) (hn : lessE (H.ent (kidH H i)) (H.ent i) = false) : H = R := by
  cases k with
  | zero => exact h
  | succ k =>
    unfold downF at h
    by_cases h0 : 2 * i + 1 < H.list.length
    · rw [if_pos h0, hn] at h; simpa using h
    · rw [if_neg h0] at h; exact h
theorem kid_lt {H : Hp} {i : Nat} (h : 2 * i + 1 < H.list.length) : kidH H i < H.list.length ∧ i < kidH H i := by
  unfold kidH
  split
  · split <;> omega
  · omega
theorem downF_go {k i : Nat} {H R : Hp} (h : downF k H i = R) (hk : H.list.length ≤ i + k) (h0 : 2 * i + 1 < H.list.length) (hl : lessE (H.ent (kidH H i)) (H.ent i) = true) :
    ∃ k', H.list.length ≤ kidH H i + k' ∧ downF k' (swapH H i (kidH H i)) (kidH H i) = R := by
  cases k with
  | zero => omega
  | succ k =>
    unfold downF at h
    rw [if_pos h0, hl, if_pos rfl] at h
    exact ⟨k, by have := kid_lt h0; omega, h⟩
theorem kid_one {H : Hp} {i : Nat} (h : ¬ 2 * i + 2 < H.list.length) : kidH H i = 2 * i + 1 := by unfold kidH; rw [if_neg h]
theorem kid_two {H : Hp} {i : Nat} (h : 2 * i + 2 < H.list.length) (hl : lessE (H.ent (2 * i + 2)) (H.ent (2 * i + 1)) = true) : kidH H i = 2 * i + 2 := by unfold kidH; rw [if_pos h, if_pos hl]
theorem kid_two' {H : Hp} {i : Nat} (h : 2 * i + 2 < H.list.length) (hl : lessE (H.ent (2 * i + 2)) (H.ent (2 * i + 1)) = false) : kidH H i = 2 * i + 1 := by unfold kidH; rw [if_pos h, hl]; rfl
theorem form_or {w : World} {base hb : Nat} {v : Value} {H : Hp} (h : HeapAt w base hb v H) : ∃ a cap, v = .slice a H.list.length cap := by
  rcases h.own.2 with ⟨h1, h0⟩ | ⟨g, cap, cur, hv, _⟩
  · exact ⟨none, 0, by rw [h1, h0]⟩
  · exact ⟨_, cap, hv⟩

set_option maxHeartbeats 2000000 in
theorem down101 {base hb : Nat} {v : Value} {H : Hp} (i : Int) (w : World) (h : HeapAt w base hb v H) (i0 : 0 ≤ i) (i1 : i < H.list.length) :
    Calls Try.prog 101 #[.pointer (some ⟨hb, 0, none⟩), .int .i64 i] w (downP base hb v w (downF H.list.length H i.toNat)) := by
  obtain ⟨i, rfl⟩ := Int.eq_ofNat_of_zero_le i0
  rw [Int.toNat_natCast]
  generalize hR : downF H.list.length H i = R
  have HR := Lib.hid hR; clear hR
  obtain ⟨k, hk, HR⟩ : ∃ k, H.list.length ≤ i + k ∧ Hid (downF k H i = R) := ⟨H.list.length, by omega, HR⟩
  have hA := h
  have hT := Tch.refl (heapS hb v) w
  have i2 : i < H.list.length := by omega
  clear h i0 i1
  go_enter Try.func101, Try.ntmps101
  refine wp_scope_jumps 0 (downJ base hb v w R) (fun a' _ => 4096 - (intOf (a'.tmps.getD 1 undef)).toNat) rfl ?_ ?_
  · go_wp2_with fail
    go_step3
    have hi40 : i < 4096 := by have := hA.small; omega
    have hlen := hA.small
    obtain ⟨av, cap, hv⟩ := form_or hA
    have hlst := hA.lst
    rw [hv] at hlst
    have HV := Lib.hid hv; clear hv
    by_cases h0 : 2 * i + 1 < H.list.length
    · by_cases h2 : 2 * i + 2 < H.list.length
      · have e1 : (2 * (i : Int) + 1 + 1).toNat = 2 * i + 2 := by omega
        have e2 : (2 * (i : Int) + 1).toNat = 2 * i + 1 := by omega
        have d := before99 (2 * (i : Int) + 1 + 1) (2 * (i : Int) + 1) w hA (by omega) (by omega) (by omega) (by omega)
        rw [e1, e2] at d
        have h2' : 2 * (i : Int) + 1 + 1 < (H.list.length : Int) := by omega
        have h0' : ¬ ((H.list.length : Int) ≤ 2 * (i : Int) + 1) := by omega
        clear e1 e2
        by_cases hd : lessE (H.ent (2 * i + 2)) (H.ent (2 * i + 1)) = true
        · have hkid := kid_two h2 hd
          rw [hd] at d
          clear hd
          have HKK := Lib.hid hkid; clear hkid
          go_wp2_with fail
          refine d.mono ?_
          rintro e w2 ⟨rfl, hb2⟩
          have hA2 := hA.below' hb2
          have hT2 := hT.trans (Tch.of_below hb2) (fun n hn f => f)
          go_wp2_with fail
          have hkid := HKK.out; clear HKK
          by_cases hl : lessE (H.ent (kidH H i)) (H.ent i) = true
          · obtain ⟨k', hk', hR'⟩ := downF_go HR.out hk h0 hl
            have hkl := kid_lt h0
            have c := before99 (2 * (i : Int) + 1 + 1) (i : Int) w2 hA2 (by omega) (by omega) (by omega) (by omega)
            have e3 : (2 * (i : Int) + 1 + 1).toNat = kidH H i := by rw [hkid]; omega
            rw [Int.toNat_natCast, e3, hl] at c
            have c2 := fun (w3 : World) (hb3 : Below w2.heap.size w2 w3) => swap100 (i : Int) (2 * (i : Int) + 1 + 1) w3 (hA2.below' hb3) (by omega) (by omega) (by omega) (by omega)
            rw [Int.toNat_natCast, e3] at c2
            have HR' := Lib.hid hR'; clear hR' HR
            have HL := Lib.hid hl; clear hl
            have E3 := Lib.hid e3; clear e3
            have HK := Lib.hid hkid; clear hkid
            go_wp2_with fail
            refine c.mono ?_
            rintro e w3 ⟨rfl, hb3⟩
            go_wp2_with fail
            refine (c2 w3 hb3).mono ?_
            rintro e w4 ⟨rfl, hA4, hT4⟩
            go_wp2_with fail
            go_step3
            rw [show (2 * (i : Int) + 1 + 1) = ((kidH H i : Nat) : Int) from by rw [HK.out]; omega]
            exact ⟨rfl, kidH H i, k', _, _, _, _, _, _, _, _, _, _, _, _, _, _, _, _, _, _, _, _, _, _, _, _, _, _, _, _, _, _, _, _, _, _, _, _, _, _, _, _, rfl, by rw [swapH_len]; omega, by rw [swapH_len]; omega, HR'.out, hA4, (hT2.trans (Tch.of_below hb3) (fun n hn f => f)).trans hT4 (fun n hn f => f)⟩
          · have hl' : lessE (H.ent (kidH H i)) (H.ent i) = false := by simpa using hl
            have hkl := kid_lt h0
            have e3 : (2 * (i : Int) + 1 + 1).toNat = kidH H i := by rw [hkid]; omega
            obtain rfl := downF_stay HR.out hl'
            have c := before99 (2 * (i : Int) + 1 + 1) (i : Int) w2 hA2 (by omega) (by omega) (by omega) (by omega)
            rw [Int.toNat_natCast, e3, hl'] at c
            clear HR hl hl' e3 hkid
            go_wp2_with fail
            refine c.mono ?_
            rintro e w3 ⟨rfl, hb3⟩
            go_wp2_with fail
            try simp only [Exit.jump]
            go_end0
            exact ⟨rfl, hA2.below' hb3, hT2.trans (Tch.of_below hb3) (fun n hn f => f)⟩
        · have hd' : lessE (H.ent (2 * i + 2)) (H.ent (2 * i + 1)) = false := by simpa using hd
          have hkid := kid_two' h2 hd'
          rw [hd'] at d
          clear hd hd'
          have HKK := Lib.hid hkid; clear hkid
          go_wp2_with fail
          refine d.mono ?_
          rintro e w2 ⟨rfl, hb2⟩
          have hA2 := hA.below' hb2
          have hT2 := hT.trans (Tch.of_below hb2) (fun n hn f => f)
          go_wp2_with fail
          have hkid := HKK.out; clear HKK
          by_cases hl : lessE (H.ent (kidH H i)) (H.ent i) = true
          · obtain ⟨k', hk', hR'⟩ := downF_go HR.out hk h0 hl
            have hkl := kid_lt h0
            have c := before99 (2 * (i : Int) + 1) (i : Int) w2 hA2 (by omega) (by omega) (by omega) (by omega)
            have e3 : (2 * (i : Int) + 1).toNat = kidH H i := by rw [hkid]; omega
            rw [Int.toNat_natCast, e3, hl] at c
            have c2 := fun (w3 : World) (hb3 : Below w2.heap.size w2 w3) => swap100 (i : Int) (2 * (i : Int) + 1) w3 (hA2.below' hb3) (by omega) (by omega) (by omega) (by omega)
            rw [Int.toNat_natCast, e3] at c2
            have HR' := Lib.hid hR'; clear hR' HR
            have HL := Lib.hid hl; clear hl
            have E3 := Lib.hid e3; clear e3
            have HK := Lib.hid hkid; clear hkid
            go_wp2_with fail
            refine c.mono ?_
            rintro e w3 ⟨rfl, hb3⟩
            go_wp2_with fail
            refine (c2 w3 hb3).mono ?_
            rintro e w4 ⟨rfl, hA4, hT4⟩
            go_wp2_with fail
            go_step3
            rw [show (2 * (i : Int) + 1) = ((kidH H i : Nat) : Int) from by rw [HK.out]; omega]
            exact ⟨rfl, kidH H i, k', _, _, _, _, _, _, _, _, _, _, _, _, _, _, _, _, _, _, _, _, _, _, _, _, _, _, _, _, _, _, _, _, _, _, _, _, _, _, _, _, rfl, by rw [swapH_len]; omega, by rw [swapH_len]; omega, HR'.out, hA4, (hT2.trans (Tch.of_below hb3) (fun n hn f => f)).trans hT4 (fun n hn f => f)⟩
          · have hl' : lessE (H.ent (kidH H i)) (H.ent i) = false := by simpa using hl
            have hkl := kid_lt h0
            have e3 : (2 * (i : Int) + 1).toNat = kidH H i := by rw [hkid]; omega
            obtain rfl := downF_stay HR.out hl'
            have c := before99 (2 * (i : Int) + 1) (i : Int) w2 hA2 (by omega) (by omega) (by omega) (by omega)
            rw [Int.toNat_natCast, e3, hl'] at c
            clear HR hl hl' e3 hkid
            go_wp2_with fail
            refine c.mono ?_
            rintro e w3 ⟨rfl, hb3⟩
            go_wp2_with fail
            try simp only [Exit.jump]
            go_end0
            exact ⟨rfl, hA2.below' hb3, hT2.trans (Tch.of_below hb3) (fun n hn f => f)⟩
      · have hkid := kid_one h2
        have h2' : ¬ (2 * (i : Int) + 1 + 1 < (H.list.length : Int)) := by omega
        have h0' : ¬ ((H.list.length : Int) ≤ 2 * (i : Int) + 1) := by omega
        obtain ⟨w2, hw2⟩ : ∃ w2, w2 = w := ⟨w, rfl⟩
        have hA2 : HeapAt w2 base hb v H := by rw [hw2]; exact hA
        have hT2 : Tch (heapS hb v) w w2 := by rw [hw2]; exact hT
        have HKK := Lib.hid hkid; clear hkid
        have hlst2 : w2.cell? ⟨hb, 0, none⟩ = some (.slice av H.list.length cap) := by rw [hw2]; exact hlst
        have HW := Lib.hid hw2.symm; clear hw2
        rw [HW.out]
        go_wp2_with fail
        have hkid := HKK.out; clear HKK
        by_cases hl : lessE (H.ent (kidH H i)) (H.ent i) = true
        · obtain ⟨k', hk', hR'⟩ := downF_go HR.out hk h0 hl
          have hkl := kid_lt h0
          have c := before99 (2 * (i : Int) + 1) (i : Int) w2 hA2 (by omega) (by omega) (by omega) (by omega)
          have e3 : (2 * (i : Int) + 1).toNat = kidH H i := by rw [hkid]; omega
          rw [Int.toNat_natCast, e3, hl] at c
          have c2 := fun (w3 : World) (hb3 : Below w2.heap.size w2 w3) => swap100 (i : Int) (2 * (i : Int) + 1) w3 (hA2.below' hb3) (by omega) (by omega) (by omega) (by omega)
          rw [Int.toNat_natCast, e3] at c2
          have HR' := Lib.hid hR'; clear hR' HR
          have HL := Lib.hid hl; clear hl
          have E3 := Lib.hid e3; clear e3
          have HK := Lib.hid hkid; clear hkid
          go_wp2_with fail
          refine c.mono ?_
          rintro e w3 ⟨rfl, hb3⟩
          go_wp2_with fail
          refine (c2 w3 hb3).mono ?_
          rintro e w4 ⟨rfl, hA4, hT4⟩
          go_wp2_with fail
          go_step3
          rw [show (2 * (i : Int) + 1) = ((kidH H i : Nat) : Int) from by rw [HK.out]; omega]
          exact ⟨rfl, kidH H i, k', _, _, _, _, _, _, _, _, _, _, _, _, _, _, _, _, _, _, _, _, _, _, _, _, _, _, _, _, _, _, _, _, _, _, _, _, _, _, _, _, rfl, by rw [swapH_len]; omega, by rw [swapH_len]; omega, HR'.out, hA4, (hT2.trans (Tch.of_below hb3) (fun n hn f => f)).trans hT4 (fun n hn f => f)⟩
        · have hl' : lessE (H.ent (kidH H i)) (H.ent i) = false := by simpa using hl
          have hkl := kid_lt h0
          have e3 : (2 * (i : Int) + 1).toNat = kidH H i := by rw [hkid]; omega
          obtain rfl := downF_stay HR.out hl'
          have c := before99 (2 * (i : Int) + 1) (i : Int) w2 hA2 (by omega) (by omega) (by omega) (by omega)
          rw [Int.toNat_natCast, e3, hl'] at c
          clear HR hl hl' e3 hkid
          go_wp2_with fail
          refine c.mono ?_
          rintro e w3 ⟨rfl, hb3⟩
          go_wp2_with fail
          try simp only [Exit.jump]
          go_end0
          exact ⟨rfl, hA2.below' hb3, hT2.trans (Tch.of_below hb3) (fun n hn f => f)⟩
    · obtain rfl := downF_leaf HR.out (by omega)
      have h0' : (H.list.length : Int) ≤ 2 * (i : Int) + 1 := by omega
      clear HR
      go_wp2_with fail
      try simp only [Exit.jump]
      refine bodyPost_ret (results_none rfl _ _ _) rfl ?_
      exact ⟨rfl, hA, hT⟩
  · rintro a' w' ⟨i, k, H, u2, u3, u4, u5, u6, u7, u8, u9, u10, u11, u12, u13, u14, u15, u16, u17, u18, u19, u20, u21, u22, u23, u24, u25, u26, u27, u28, u29, u30, u31, u32, u33, u34, u35, u36, u37, u38, u39, u40, rfl, i2, hk, hR, hA, hT⟩
    have HR := Lib.hid hR; clear hR
    obtain ⟨w1, rfl⟩ : ∃ w1, w1 = w' := ⟨w', rfl⟩
    have hi40 : i < 4096 := by have := hA.small; omega
    have hlen := hA.small
    obtain ⟨av, cap, hv⟩ := form_or hA
    have hlst := hA.lst
    rw [hv] at hlst
    have HV := Lib.hid hv; clear hv
    by_cases h0 : 2 * i + 1 < H.list.length
    · by_cases h2 : 2 * i + 2 < H.list.length
      · have e1 : (2 * (i : Int) + 1 + 1).toNat = 2 * i + 2 := by omega
        have e2 : (2 * (i : Int) + 1).toNat = 2 * i + 1 := by omega
        have d := before99 (2 * (i : Int) + 1 + 1) (2 * (i : Int) + 1) w1 hA (by omega) (by omega) (by omega) (by omega)
        rw [e1, e2] at d
        have h2' : 2 * (i : Int) + 1 + 1 < (H.list.length : Int) := by omega
        have h0' : ¬ ((H.list.length : Int) ≤ 2 * (i : Int) + 1) := by omega
        clear e1 e2
        by_cases hd : lessE (H.ent (2 * i + 2)) (H.ent (2 * i + 1)) = true
        · have hkid := kid_two h2 hd
          rw [hd] at d
          clear hd
          have HKK := Lib.hid hkid; clear hkid
          go_wp2_with fail
          refine d.mono ?_
          rintro e w2 ⟨rfl, hb2⟩
          have hA2 := hA.below' hb2
          have hT2 := hT.trans (Tch.of_below hb2) (fun n hn f => f)
          go_wp2_with fail
          have hkid := HKK.out; clear HKK
          by_cases hl : lessE (H.ent (kidH H i)) (H.ent i) = true
          · obtain ⟨k', hk', hR'⟩ := downF_go HR.out hk h0 hl
            have hkl := kid_lt h0
            have c := before99 (2 * (i : Int) + 1 + 1) (i : Int) w2 hA2 (by omega) (by omega) (by omega) (by omega)
            have e3 : (2 * (i : Int) + 1 + 1).toNat = kidH H i := by rw [hkid]; omega
            rw [Int.toNat_natCast, e3, hl] at c
            have c2 := fun (w3 : World) (hb3 : Below w2.heap.size w2 w3) => swap100 (i : Int) (2 * (i : Int) + 1 + 1) w3 (hA2.below' hb3) (by omega) (by omega) (by omega) (by omega)
            rw [Int.toNat_natCast, e3] at c2
            have HR' := Lib.hid hR'; clear hR' HR
            have HL := Lib.hid hl; clear hl
            have E3 := Lib.hid e3; clear e3
            have HK := Lib.hid hkid; clear hkid
            go_wp2_with fail
            refine c.mono ?_
            rintro e w3 ⟨rfl, hb3⟩
            go_wp2_with fail
            refine (c2 w3 hb3).mono ?_
            rintro e w4 ⟨rfl, hA4, hT4⟩
            go_wp2_with fail
            go_step3
            rw [show (2 * (i : Int) + 1 + 1) = ((kidH H i : Nat) : Int) from by rw [HK.out]; omega]
            exact ⟨rfl, ⟨kidH H i, k', _, _, _, _, _, _, _, _, _, _, _, _, _, _, _, _, _, _, _, _, _, _, _, _, _, _, _, _, _, _, _, _, _, _, _, _, _, _, _, _, rfl, by rw [swapH_len]; omega, by rw [swapH_len]; omega, HR'.out, hA4, (hT2.trans (Tch.of_below hb3) (fun n hn f => f)).trans hT4 (fun n hn f => f)⟩, by simp [intOf]; omega⟩
          · have hl' : lessE (H.ent (kidH H i)) (H.ent i) = false := by simpa using hl
            have hkl := kid_lt h0
            have e3 : (2 * (i : Int) + 1 + 1).toNat = kidH H i := by rw [hkid]; omega
            obtain rfl := downF_stay HR.out hl'
            have c := before99 (2 * (i : Int) + 1 + 1) (i : Int) w2 hA2 (by omega) (by omega) (by omega) (by omega)
            rw [Int.toNat_natCast, e3, hl'] at c
            clear HR hl hl' e3 hkid
            go_wp2_with fail
            refine c.mono ?_
            rintro e w3 ⟨rfl, hb3⟩
            go_wp2_with fail
            try simp only [Exit.jump]
            go_end0
            exact ⟨rfl, hA2.below' hb3, hT2.trans (Tch.of_below hb3) (fun n hn f => f)⟩
        · have hd' : lessE (H.ent (2 * i + 2)) (H.ent (2 * i + 1)) = false := by simpa using hd
          have hkid := kid_two' h2 hd'
          rw [hd'] at d
          clear hd hd'
          have HKK := Lib.hid hkid; clear hkid
          go_wp2_with fail
          refine d.mono ?_
          rintro e w2 ⟨rfl, hb2⟩
          have hA2 := hA.below' hb2
          have hT2 := hT.trans (Tch.of_below hb2) (fun n hn f => f)
          go_wp2_with fail
          have hkid := HKK.out; clear HKK
          by_cases hl : lessE (H.ent (kidH H i)) (H.ent i) = true
          · obtain ⟨k', hk', hR'⟩ := downF_go HR.out hk h0 hl
            have hkl := kid_lt h0
            have c := before99 (2 * (i : Int) + 1) (i : Int) w2 hA2 (by omega) (by omega) (by omega) (by omega)
            have e3 : (2 * (i : Int) + 1).toNat = kidH H i := by rw [hkid]; omega
            rw [Int.toNat_natCast, e3, hl] at c
            have c2 := fun (w3 : World) (hb3 : Below w2.heap.size w2 w3) => swap100 (i : Int) (2 * (i : Int) + 1) w3 (hA2.below' hb3) (by omega) (by omega) (by omega) (by omega)
            rw [Int.toNat_natCast, e3] at c2
            have HR' := Lib.hid hR'; clear hR' HR
            have HL := Lib.hid hl; clear hl
            have E3 := Lib.hid e3; clear e3
            have HK := Lib.hid hkid; clear hkid
            go_wp2_with fail
            refine c.mono ?_
            rintro e w3 ⟨rfl, hb3⟩
            go_wp2_with fail
            refine (c2 w3 hb3).mono ?_
            rintro e w4 ⟨rfl, hA4, hT4⟩
            go_wp2_with fail
            go_step3
            rw [show (2 * (i : Int) + 1) = ((kidH H i : Nat) : Int) from by rw [HK.out]; omega]
            exact ⟨rfl, ⟨kidH H i, k', _, _, _, _, _, _, _, _, _, _, _, _, _, _, _, _, _, _, _, _, _, _, _, _, _, _, _, _, _, _, _, _, _, _, _, _, _, _, _, _, rfl, by rw [swapH_len]; omega, by rw [swapH_len]; omega, HR'.out, hA4, (hT2.trans (Tch.of_below hb3) (fun n hn f => f)).trans hT4 (fun n hn f => f)⟩, by simp [intOf]; omega⟩
          · have hl' : lessE (H.ent (kidH H i)) (H.ent i) = false := by simpa using hl
            have hkl := kid_lt h0
            have e3 : (2 * (i : Int) + 1).toNat = kidH H i := by rw [hkid]; omega
            obtain rfl := downF_stay HR.out hl'
            have c := before99 (2 * (i : Int) + 1) (i : Int) w2 hA2 (by omega) (by omega) (by omega) (by omega)
            rw [Int.toNat_natCast, e3, hl'] at c
            clear HR hl hl' e3 hkid
            go_wp2_with fail
            refine c.mono ?_
            rintro e w3 ⟨rfl, hb3⟩
            go_wp2_with fail
            try simp only [Exit.jump]
            go_end0
            exact ⟨rfl, hA2.below' hb3, hT2.trans (Tch.of_below hb3) (fun n hn f => f)⟩
      · have hkid := kid_one h2
        have h2' : ¬ (2 * (i : Int) + 1 + 1 < (H.list.length : Int)) := by omega
        have h0' : ¬ ((H.list.length : Int) ≤ 2 * (i : Int) + 1) := by omega
        obtain ⟨w2, hw2⟩ : ∃ w2, w2 = w1 := ⟨w1, rfl⟩
        have hA2 : HeapAt w2 base hb v H := by rw [hw2]; exact hA
        have hT2 : Tch (heapS hb v) w w2 := by rw [hw2]; exact hT
        have HKK := Lib.hid hkid; clear hkid
        have hlst2 : w2.cell? ⟨hb, 0, none⟩ = some (.slice av H.list.length cap) := by rw [hw2]; exact hlst
        have HW := Lib.hid hw2.symm; clear hw2
        rw [HW.out]
        go_wp2_with fail
        have hkid := HKK.out; clear HKK
        by_cases hl : lessE (H.ent (kidH H i)) (H.ent i) = true
        · obtain ⟨k', hk', hR'⟩ := downF_go HR.out hk h0 hl
          have hkl := kid_lt h0
          have c := before99 (2 * (i : Int) + 1) (i : Int) w2 hA2 (by omega) (by omega) (by omega) (by omega)
          have e3 : (2 * (i : Int) + 1).toNat = kidH H i := by rw [hkid]; omega
          rw [Int.toNat_natCast, e3, hl] at c
          have c2 := fun (w3 : World) (hb3 : Below w2.heap.size w2 w3) => swap100 (i : Int) (2 * (i : Int) + 1) w3 (hA2.below' hb3) (by omega) (by omega) (by omega) (by omega)
          rw [Int.toNat_natCast, e3] at c2
          have HR' := Lib.hid hR'; clear hR' HR
          have HL := Lib.hid hl; clear hl
          have E3 := Lib.hid e3; clear e3
          have HK := Lib.hid hkid; clear hkid
          go_wp2_with fail
          refine c.mono ?_
          rintro e w3 ⟨rfl, hb3⟩
          go_wp2_with fail
          refine (c2 w3 hb3).mono ?_
          rintro e w4 ⟨rfl, hA4, hT4⟩
          go_wp2_with fail
          go_step3
          rw [show (2 * (i : Int) + 1) = ((kidH H i : Nat) : Int) from by rw [HK.out]; omega]
          exact ⟨rfl, ⟨kidH H i, k', _, _, _, _, _, _, _, _, _, _, _, _, _, _, _, _, _, _, _, _, _, _, _, _, _, _, _, _, _, _, _, _, _, _, _, _, _, _, _, _, rfl, by rw [swapH_len]; omega, by rw [swapH_len]; omega, HR'.out, hA4, (hT2.trans (Tch.of_below hb3) (fun n hn f => f)).trans hT4 (fun n hn f => f)⟩, by simp [intOf]; omega⟩
        · have hl' : lessE (H.ent (kidH H i)) (H.ent i) = false := by simpa using hl
          have hkl := kid_lt h0
          have e3 : (2 * (i : Int) + 1).toNat = kidH H i := by rw [hkid]; omega
          obtain rfl := downF_stay HR.out hl'
          have c := before99 (2 * (i : Int) + 1) (i : Int) w2 hA2 (by omega) (by omega) (by omega) (by omega)
          rw [Int.toNat_natCast, e3, hl'] at c
          clear HR hl hl' e3 hkid
          go_wp2_with fail
          refine c.mono ?_
          rintro e w3 ⟨rfl, hb3⟩
          go_wp2_with fail
          try simp only [Exit.jump]
          go_end0
          exact ⟨rfl, hA2.below' hb3, hT2.trans (Tch.of_below hb3) (fun n hn f => f)⟩
    · obtain rfl := downF_leaf HR.out (by omega)
      have h0' : (H.list.length : Int) ≤ 2 * (i : Int) + 1 := by omega
      clear HR
      go_wp2_with fail
      try simp only [Exit.jump]
      refine bodyPost_ret (results_none rfl _ _ _) rfl ?_
      exact ⟨rfl, hA, hT⟩

end Go.Proofs.Ythllmpgffdocmaa
