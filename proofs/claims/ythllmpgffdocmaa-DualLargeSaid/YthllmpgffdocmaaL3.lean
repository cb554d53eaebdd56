/-
  Walk over the search for a label's place.
-/
import Derived.Test.YthllmpgffdocmaaL2
import Derived.Test.YthllmpgffdocmaaX2
import Derived.RegionTactic
import Derived.Deep.RegionHeld3
import Derived.BigRegion
namespace Go.Proofs.Ythllmpgffdocmaa
open Go.RowKit Go.Deep

def bsRelL (w : World) (xs : List Lb) (t : Lb) (r : Nat) (i j : Value) (wr : World) : Prop :=
  ∃ a b k, i = .int .i64 (a : Nat) ∧ j = .int .i64 (b : Nat) ∧ a ≤ b ∧ b ≤ xs.length ∧ b - a < k ∧ Below w.heap.size w wr ∧ bsF xs t k a b = r
def bsLP (w : World) (r : Nat) (e : Ending) (w' : World) : Prop := (∃ b, e = .returned (.tuple #[.int .i64 (r : Int), .bool b])) ∧ Below w.heap.size w w'
set_option maxHeartbeats 4000000 in
theorem Search70 {base : Nat} {v : Value} {xs : List Lb} (t : Lb) (w : World) (h : LabAt w base v xs) (ht : t.ok) (hn : xs.length ≤ 4096) :
    Calls Try.prog 70 #[v, lbV t, .func (.func 71) #[] #[]] w (bsLP w (bsF xs t 5000 0 xs.length)) := by
  obtain ⟨av, cap, rfl, hc⟩ := h.form
  have HC := Lib.hid hc; clear hc
  clear h
  unfold lbV
  go_enter Try.func70, Try.ntmps70
  go_wp2_with fail
  generalize hw1 : World.alloc w _ = w1
  have hB1 : Below w.heap.size w w1 := by rw [← hw1]; exact (Below.refl _ _).alloc (Nat.le_refl _) _
  have hs1 : w.heap.size < w1.heap.size := by rw [← hw1]; simp
  have t0 : w1.cell? ⟨w.heap.size, 0, none⟩ = some (.complex .f64 (fN t.c) (fN t.d)) := by rw [← hw1]; simp [go_sem]
  have t1 : w1.cell? ⟨w.heap.size, 1, none⟩ = some (.int .i64 (t.n : Int)) := by rw [← hw1]; simp [go_sem]
  clear hw1
  have T0 := Lib.hid t0; clear t0
  have T1 := Lib.hid t1; clear t1
  go_loopw [9, 10] (fun i j wr => bsRelL w xs t (bsF xs t 5000 0 xs.length) i j wr ∧ Below w1.heap.size w1 wr) (fun i j _ => (intOf j).toNat - (intOf i).toNat)
  case atStart => exact ⟨⟨0, _, 5000, rfl, rfl, Nat.zero_le _, Nat.le_refl _, by omega, hB1, rfl⟩, Below.refl _ _⟩
  case round =>
    obtain ⟨⟨a, b, k, rfl, rfl, ha, hb, hk, hB, hr⟩, hB2⟩ := hrel
    have t0 := (hB2.cell (p := ⟨w.heap.size, 0, none⟩) hs1).trans T0.out
    have t1 := (hB2.cell (p := ⟨w.heap.size, 1, none⟩) hs1).trans T1.out
    by_cases hlt : a < b
    · have hlt' : (a : Int) < (b : Int) := by omega
      obtain ⟨m, hm⟩ : ∃ m, m = (a + b) / 2 := ⟨_, rfl⟩
      have hmI : ((a : Int) + (b : Int)) / 2 = (m : Int) := by omega
      have hget : xs[m]? = some (xs.getD m lb0) := by rw [List.getD_eq_getElem?_getD, List.getElem?_eq_getElem (by omega)]; rfl
      obtain ⟨hxo, g, rfl, hg, hcell⟩ := HC.out _ _ hget
      have p0 := (hB.cell (p := ⟨g, m * 2, none⟩) hg).trans (hcell 0 (by omega))
      have p1 := (hB.cell (p := ⟨g, m * 2 + 1, none⟩) hg).trans (hcell 1 (by omega))
      generalize hx : xs.getD m lb0 = x at *
      obtain ⟨xc, xd, xn⟩ := x
      simp only [lbC, List.getElem?_cons_zero, List.getElem?_cons_succ] at p0 p1
      have HX := Lib.hid hx; clear hx
      have HRR := Lib.hid hr; clear hr
      have hbI : (b : Int) ≤ 4096 := by omega
      have z1 := hB.size
      have z2 := hB2.size
      clear hget hcell
      have hmL : (m : Int) < (xs.length : Int) := by omega
      have HM := Lib.hid hm; clear hm
      have HMI := Lib.hid hmI; clear hmI
      go_wp2_with fail
      rw [HMI.out]
      refine wp_region_lastM (fun w' => w'.cell? ⟨g, m * 2, none⟩ = some (.complex .f64 (fN xc) (fN xd)) ∧ w'.cell? ⟨g, m * 2 + 1, none⟩ = some (.int .i64 (xn : Int)) ∧ w'.cell? ⟨w.heap.size, 0, none⟩ = some (.complex .f64 (fN t.c) (fN t.d)) ∧ w'.cell? ⟨w.heap.size, 1, none⟩ = some (.int .i64 (t.n : Int))) 7 (by kernel_rfl) (by (try dsimp only); first | exact ⟨p0, p1, t0, t1⟩ | go_keep) (fun hSS hcl => ?_)
      refine wpAnyM_take (n := 9) (i := 0) (v := ?_) rfl (by kernel_rfl) (by kernel_rfl) (by kernel_rfl) rfl (by kernel_rfl) hcl (fun _ _ _ h => h) (Or.inr hSS) (Or.inl ⟨by rfl, ?_⟩) (fun hcl2 => ?_)
      rotate_left
      · intro w hSw
        (try dsimp only at hSw)
        go_simp
        try with_reducible rfl
      clear hcl
      have hcl := hcl2; clear hcl2
      try simp only [Act.put]
      try simp only [List.getElem_toArray]
      try simp only [List.getElem_cons_succ]
      try simp only [List.getElem_cons_zero]
      try simp only [List.setIfInBounds_toArray]
      try simp only [List.set_cons_succ]
      try simp only [List.set_cons_zero]
      refine wpAnyM_take (n := 9) (i := 1) (v := ?_) rfl (by kernel_rfl) (by kernel_rfl) (by kernel_rfl) rfl (by kernel_rfl) hcl (fun _ _ _ h => h) (Or.inr hSS) (Or.inl ⟨by rfl, ?_⟩) (fun hcl2 => ?_)
      rotate_left
      · intro w hSw
        (try dsimp only at hSw)
        go_simp
        try with_reducible rfl
      clear hcl
      have hcl := hcl2; clear hcl2
      try simp only [Act.put]
      try simp only [List.getElem_toArray]
      try simp only [List.getElem_cons_succ]
      try simp only [List.getElem_cons_zero]
      try simp only [List.setIfInBounds_toArray]
      try simp only [List.set_cons_succ]
      try simp only [List.set_cons_zero]
      refine wpAnyM_take (n := 9) (i := 2) (v := ?_) rfl (by kernel_rfl) (by kernel_rfl) (by kernel_rfl) rfl (by kernel_rfl) hcl (fun _ _ _ h => h) (Or.inr hSS) (Or.inl ⟨by rfl, ?_⟩) (fun hcl2 => ?_)
      rotate_left
      · intro w hSw
        (try dsimp only at hSw)
        go_simp
        try with_reducible rfl
      clear hcl
      have hcl := hcl2; clear hcl2
      try simp only [Act.put]
      try simp only [List.getElem_toArray]
      try simp only [List.getElem_cons_succ]
      try simp only [List.getElem_cons_zero]
      try simp only [List.setIfInBounds_toArray]
      try simp only [List.set_cons_succ]
      try simp only [List.set_cons_zero]
      refine wpAnyM_take (n := 9) (i := 3) (v := ?_) rfl (by kernel_rfl) (by kernel_rfl) (by kernel_rfl) rfl (by kernel_rfl) hcl (fun _ _ _ h => h) (Or.inr hSS) (Or.inl ⟨by rfl, ?_⟩) (fun hcl2 => ?_)
      rotate_left
      · intro w hSw
        (try dsimp only at hSw)
        go_simp
        try with_reducible rfl
      clear hcl
      have hcl := hcl2; clear hcl2
      try simp only [Act.put]
      try simp only [List.getElem_toArray]
      try simp only [List.getElem_cons_succ]
      try simp only [List.getElem_cons_zero]
      try simp only [List.setIfInBounds_toArray]
      try simp only [List.set_cons_succ]
      try simp only [List.set_cons_zero]
      refine wpAnyM_take (n := 9) (i := 4) (v := ?_) rfl (by kernel_rfl) (by kernel_rfl) (by kernel_rfl) rfl (by kernel_rfl) hcl (fun _ _ _ h => h) (Or.inr hSS) (Or.inl ⟨by rfl, ?_⟩) (fun hcl2 => ?_)
      rotate_left
      · intro w hSw
        (try dsimp only at hSw)
        go_simp
        try with_reducible rfl
      clear hcl
      have hcl := hcl2; clear hcl2
      try simp only [Act.put]
      try simp only [List.getElem_toArray]
      try simp only [List.getElem_cons_succ]
      try simp only [List.getElem_cons_zero]
      try simp only [List.setIfInBounds_toArray]
      try simp only [List.set_cons_succ]
      try simp only [List.set_cons_zero]
      refine wpAnyM_take (n := 9) (i := 5) (v := ?_) rfl (by kernel_rfl) (by kernel_rfl) (by kernel_rfl) rfl (by kernel_rfl) hcl (fun _ _ _ h => h) (Or.inr hSS) (Or.inl ⟨by rfl, ?_⟩) (fun hcl2 => ?_)
      rotate_left
      · intro w hSw
        (try dsimp only at hSw)
        go_simp
        try with_reducible rfl
      clear hcl
      have hcl := hcl2; clear hcl2
      try simp only [Act.put]
      try simp only [List.getElem_toArray]
      try simp only [List.getElem_cons_succ]
      try simp only [List.getElem_cons_zero]
      try simp only [List.setIfInBounds_toArray]
      try simp only [List.set_cons_succ]
      try simp only [List.set_cons_zero]
      refine wpAnyM_one (i := 6) rfl (by kernel_rfl) hcl (fun K hK0 => ?_)
      have hK := Lib.hid hK0; clear hK0
      go_simp
      have h71 := cmp71 ⟨xc, xd, xn⟩ t wr.drew hxo ht
      simp only [lbV] at h71
      refine h71.mono ?_
      clear h71
      rintro e w8 ⟨rfl, hB8⟩
      (try dsimp only)
      refine hK.out _ _ ?_ (fun hSS2 hcl2 => ?_)
      · refine Or.inr ?_
        (try dsimp only)
        go_split_ands
        refine ⟨?_, ?_, ?_, ?_⟩
        all_goals (rw [hB8.cell (by first | (simp; done) | (simp; omega))]; first | assumption | go_keep)
      clear hcl hK K
      have hSS3 := hSS2.resolve_left (fun h => Bool.noConfusion (show false = true from h)); clear hSS2 hSS; have hSS := hSS3; clear hSS3
      have hcl := hcl2; clear hcl2
      try simp only [Act.put]
      try simp only [List.getElem_toArray]
      try simp only [List.getElem_cons_succ]
      try simp only [List.getElem_cons_zero]
      try simp only [List.setIfInBounds_toArray]
      try simp only [List.set_cons_succ]
      try simp only [List.set_cons_zero]
      refine wpAnyM_one (i := 7) rfl (by kernel_rfl) hcl (fun K hK0 => ?_)
      have hK := Lib.hid hK0; clear hK0
      go_simp
      refine hK.out _ _ ?_ (fun hSS2 hcl2 => ?_)
      · exact Or.inl (by kernel_rfl)
      clear hcl hK K
      have hcl := hcl2; clear hcl2
      try simp only [Act.put]
      try simp only [List.getElem_toArray]
      try simp only [List.getElem_cons_succ]
      try simp only [List.getElem_cons_zero]
      try simp only [List.setIfInBounds_toArray]
      try simp only [List.set_cons_succ]
      try simp only [List.set_cons_zero]
      refine wpAnyM_done (by kernel_rfl) ?_ _
      have hx2 := HX.out
      have hm := HM.out
      have hr := HRR.out
      cases k with
      | zero => omega
      | succ k =>
        unfold bsF at hr
        rw [if_pos hlt, ← hm, hx2] at hr
        have hB' := hB.drew.trans (hB8.mono hB.size)
        have hB2' := hB2.drew.trans (hB8.mono hB2.size)
        clear hSS hcl p0 p1 t0 t1 HX HRR HMI hx2 hB hB2 hB8
        by_cases hc : cmpL ⟨xc, xd, xn⟩ t < 0
        · rw [if_pos hc] at hr
          have HR := Lib.hid hr; clear hr
          have HM2 := Lib.hid hm; clear hm
          go_wp2_with fail
          go_roundw
          case rel => exact ⟨⟨m + 1, b, k, by simp, rfl, by have := HM2.out; omega, hb, by have := HM2.out; omega, hB', HR.out⟩, hB2'⟩
          case measure => have := HM2.out; simp [intOf]; omega
        · rw [if_neg hc] at hr
          have HR := Lib.hid hr; clear hr
          have HM2 := Lib.hid hm; clear hm
          go_wp2_with fail
          go_roundw
          case rel => exact ⟨⟨a, m, k, rfl, by simp, by have := HM2.out; omega, by have := HM2.out; omega, by have := HM2.out; omega, hB', HR.out⟩, hB2'⟩
          case measure => have := HM2.out; simp [intOf]; omega
    · have hge : ¬ ((a : Int) < (b : Int)) := by omega
      have hra : bsF xs t 5000 0 xs.length = a := by
        rw [← hr]
        cases k with
        | zero => rfl
        | succ k => unfold bsF; rw [if_neg hlt]
      by_cases hn2 : a < xs.length
      · have hn3 : (a : Int) < (xs.length : Int) := by omega
        have hget : xs[a]? = some (xs.getD a lb0) := by rw [List.getD_eq_getElem?_getD, List.getElem?_eq_getElem (by omega)]; rfl
        obtain ⟨hxo, g, rfl, hg, hcell⟩ := HC.out _ _ hget
        have p0 := (hB.cell (p := ⟨g, a * 2, none⟩) hg).trans (hcell 0 (by omega))
        have p1 := (hB.cell (p := ⟨g, a * 2 + 1, none⟩) hg).trans (hcell 1 (by omega))
        generalize hx : xs.getD a lb0 = x at *
        obtain ⟨xc, xd, xn⟩ := x
        simp only [lbC, List.getElem?_cons_zero, List.getElem?_cons_succ] at p0 p1
        have HRA := Lib.hid hra; clear hra
        have z1 := hB.size
        have z2 := hB2.size
        clear hget hcell hx hr
        go_wp2_with fail
        refine wp_region_lastM (fun w' => w'.cell? ⟨g, a * 2, none⟩ = some (.complex .f64 (fN xc) (fN xd)) ∧ w'.cell? ⟨g, a * 2 + 1, none⟩ = some (.int .i64 (xn : Int)) ∧ w'.cell? ⟨w.heap.size, 0, none⟩ = some (.complex .f64 (fN t.c) (fN t.d)) ∧ w'.cell? ⟨w.heap.size, 1, none⟩ = some (.int .i64 (t.n : Int))) 15 (by kernel_rfl) (by (try dsimp only); first | exact ⟨p0, p1, t0, t1⟩ | go_keep) (fun hSS hcl => ?_)
        refine wpAnyM_take (n := 17) (i := 0) (v := ?_) rfl (by kernel_rfl) (by kernel_rfl) (by kernel_rfl) rfl (by kernel_rfl) hcl (fun _ _ _ h => h) (Or.inr hSS) (Or.inl ⟨by rfl, ?_⟩) (fun hcl2 => ?_)
        rotate_left
        · intro w hSw
          (try dsimp only at hSw)
          go_simp
          try with_reducible rfl
        clear hcl
        have hcl := hcl2; clear hcl2
        try simp only [Act.put]
        try simp only [List.getElem_toArray]
        try simp only [List.getElem_cons_succ]
        try simp only [List.getElem_cons_zero]
        try simp only [List.setIfInBounds_toArray]
        try simp only [List.set_cons_succ]
        try simp only [List.set_cons_zero]
        refine wpAnyM_take (n := 17) (i := 1) (v := ?_) rfl (by kernel_rfl) (by kernel_rfl) (by kernel_rfl) rfl (by kernel_rfl) hcl (fun _ _ _ h => h) (Or.inr hSS) (Or.inl ⟨by rfl, ?_⟩) (fun hcl2 => ?_)
        rotate_left
        · intro w hSw
          (try dsimp only at hSw)
          go_simp
          try with_reducible rfl
        clear hcl
        have hcl := hcl2; clear hcl2
        try simp only [Act.put]
        try simp only [List.getElem_toArray]
        try simp only [List.getElem_cons_succ]
        try simp only [List.getElem_cons_zero]
        try simp only [List.setIfInBounds_toArray]
        try simp only [List.set_cons_succ]
        try simp only [List.set_cons_zero]
        refine wpAnyM_take (n := 17) (i := 2) (v := ?_) rfl (by kernel_rfl) (by kernel_rfl) (by kernel_rfl) rfl (by kernel_rfl) hcl (fun _ _ _ h => h) (Or.inr hSS) (Or.inl ⟨by rfl, ?_⟩) (fun hcl2 => ?_)
        rotate_left
        · intro w hSw
          (try dsimp only at hSw)
          go_simp
          try with_reducible rfl
        clear hcl
        have hcl := hcl2; clear hcl2
        try simp only [Act.put]
        try simp only [List.getElem_toArray]
        try simp only [List.getElem_cons_succ]
        try simp only [List.getElem_cons_zero]
        try simp only [List.setIfInBounds_toArray]
        try simp only [List.set_cons_succ]
        try simp only [List.set_cons_zero]
        refine wpAnyM_take (n := 17) (i := 3) (v := ?_) rfl (by kernel_rfl) (by kernel_rfl) (by kernel_rfl) rfl (by kernel_rfl) hcl (fun _ _ _ h => h) (Or.inr hSS) (Or.inl ⟨by rfl, ?_⟩) (fun hcl2 => ?_)
        rotate_left
        · intro w hSw
          (try dsimp only at hSw)
          go_simp
          try with_reducible rfl
        clear hcl
        have hcl := hcl2; clear hcl2
        try simp only [Act.put]
        try simp only [List.getElem_toArray]
        try simp only [List.getElem_cons_succ]
        try simp only [List.getElem_cons_zero]
        try simp only [List.setIfInBounds_toArray]
        try simp only [List.set_cons_succ]
        try simp only [List.set_cons_zero]
        refine wpAnyM_take (n := 17) (i := 4) (v := ?_) rfl (by kernel_rfl) (by kernel_rfl) (by kernel_rfl) rfl (by kernel_rfl) hcl (fun _ _ _ h => h) (Or.inr hSS) (Or.inl ⟨by rfl, ?_⟩) (fun hcl2 => ?_)
        rotate_left
        · intro w hSw
          (try dsimp only at hSw)
          go_simp
          try with_reducible rfl
        clear hcl
        have hcl := hcl2; clear hcl2
        try simp only [Act.put]
        try simp only [List.getElem_toArray]
        try simp only [List.getElem_cons_succ]
        try simp only [List.getElem_cons_zero]
        try simp only [List.setIfInBounds_toArray]
        try simp only [List.set_cons_succ]
        try simp only [List.set_cons_zero]
        refine wpAnyM_take (n := 17) (i := 5) (v := ?_) rfl (by kernel_rfl) (by kernel_rfl) (by kernel_rfl) rfl (by kernel_rfl) hcl (fun _ _ _ h => h) (Or.inr hSS) (Or.inl ⟨by rfl, ?_⟩) (fun hcl2 => ?_)
        rotate_left
        · intro w hSw
          (try dsimp only at hSw)
          go_simp
          try with_reducible rfl
        clear hcl
        have hcl := hcl2; clear hcl2
        try simp only [Act.put]
        try simp only [List.getElem_toArray]
        try simp only [List.getElem_cons_succ]
        try simp only [List.getElem_cons_zero]
        try simp only [List.setIfInBounds_toArray]
        try simp only [List.set_cons_succ]
        try simp only [List.set_cons_zero]
        refine wpAnyM_take (n := 17) (i := 6) (v := ?_) rfl (by kernel_rfl) (by kernel_rfl) (by kernel_rfl) rfl (by kernel_rfl) hcl (fun _ _ _ h => h) (Or.inr hSS) (Or.inl ⟨by rfl, ?_⟩) (fun hcl2 => ?_)
        rotate_left
        · intro w hSw
          (try dsimp only at hSw)
          go_simp
          try with_reducible rfl
        clear hcl
        have hcl := hcl2; clear hcl2
        try simp only [Act.put]
        try simp only [List.getElem_toArray]
        try simp only [List.getElem_cons_succ]
        try simp only [List.getElem_cons_zero]
        try simp only [List.setIfInBounds_toArray]
        try simp only [List.set_cons_succ]
        try simp only [List.set_cons_zero]
        refine wpAnyM_take (n := 17) (i := 7) (v := ?_) rfl (by kernel_rfl) (by kernel_rfl) (by kernel_rfl) rfl (by kernel_rfl) hcl (fun _ _ _ h => h) (Or.inr hSS) (Or.inl ⟨by rfl, ?_⟩) (fun hcl2 => ?_)
        rotate_left
        · intro w hSw
          (try dsimp only at hSw)
          go_simp
          try with_reducible rfl
        clear hcl
        have hcl := hcl2; clear hcl2
        try simp only [Act.put]
        try simp only [List.getElem_toArray]
        try simp only [List.getElem_cons_succ]
        try simp only [List.getElem_cons_zero]
        try simp only [List.setIfInBounds_toArray]
        try simp only [List.set_cons_succ]
        try simp only [List.set_cons_zero]
        refine wpAnyM_take (n := 17) (i := 8) (v := ?_) rfl (by kernel_rfl) (by kernel_rfl) (by kernel_rfl) rfl (by kernel_rfl) hcl (fun _ _ _ h => h) (Or.inr hSS) (Or.inl ⟨by rfl, ?_⟩) (fun hcl2 => ?_)
        rotate_left
        · intro w hSw
          (try dsimp only at hSw)
          go_simp
          try with_reducible rfl
        clear hcl
        have hcl := hcl2; clear hcl2
        try simp only [Act.put]
        try simp only [List.getElem_toArray]
        try simp only [List.getElem_cons_succ]
        try simp only [List.getElem_cons_zero]
        try simp only [List.setIfInBounds_toArray]
        try simp only [List.set_cons_succ]
        try simp only [List.set_cons_zero]
        refine wpAnyM_take (n := 17) (i := 9) (v := ?_) rfl (by kernel_rfl) (by kernel_rfl) (by kernel_rfl) rfl (by kernel_rfl) hcl (fun _ _ _ h => h) (Or.inr hSS) (Or.inl ⟨by rfl, ?_⟩) (fun hcl2 => ?_)
        rotate_left
        · intro w hSw
          (try dsimp only at hSw)
          go_simp
          try with_reducible rfl
        clear hcl
        have hcl := hcl2; clear hcl2
        try simp only [Act.put]
        try simp only [List.getElem_toArray]
        try simp only [List.getElem_cons_succ]
        try simp only [List.getElem_cons_zero]
        try simp only [List.setIfInBounds_toArray]
        try simp only [List.set_cons_succ]
        try simp only [List.set_cons_zero]
        refine wpAnyM_take (n := 17) (i := 10) (v := ?_) rfl (by kernel_rfl) (by kernel_rfl) (by kernel_rfl) rfl (by kernel_rfl) hcl (fun _ _ _ h => h) (Or.inr hSS) (Or.inl ⟨by rfl, ?_⟩) (fun hcl2 => ?_)
        rotate_left
        · intro w hSw
          (try dsimp only at hSw)
          go_simp
          try with_reducible rfl
        clear hcl
        have hcl := hcl2; clear hcl2
        try simp only [Act.put]
        try simp only [List.getElem_toArray]
        try simp only [List.getElem_cons_succ]
        try simp only [List.getElem_cons_zero]
        try simp only [List.setIfInBounds_toArray]
        try simp only [List.set_cons_succ]
        try simp only [List.set_cons_zero]
        refine wpAnyM_one (i := 11) rfl (by kernel_rfl) hcl (fun K hK0 => ?_)
        have hK := Lib.hid hK0; clear hK0
        go_simp
        have h71 := cmp71 ⟨xc, xd, xn⟩ t wr.drew hxo ht
        simp only [lbV] at h71
        refine h71.mono ?_
        clear h71
        rintro e w8 ⟨rfl, hB8⟩
        (try dsimp only)
        refine hK.out _ _ ?_ (fun hSS2 hcl2 => ?_)
        · refine Or.inr ?_
          (try dsimp only)
          go_split_ands
          refine ⟨?_, ?_, ?_, ?_⟩
          all_goals (rw [hB8.cell (by first | (simp; done) | (simp; omega))]; first | assumption | go_keep)
        clear hcl hK K
        have hSS3 := hSS2.resolve_left (fun h => Bool.noConfusion (show false = true from h)); clear hSS2 hSS; have hSS := hSS3; clear hSS3
        have hcl := hcl2; clear hcl2
        try simp only [Act.put]
        try simp only [List.getElem_toArray]
        try simp only [List.getElem_cons_succ]
        try simp only [List.getElem_cons_zero]
        try simp only [List.setIfInBounds_toArray]
        try simp only [List.set_cons_succ]
        try simp only [List.set_cons_zero]
        refine wpAnyM_take (n := 17) (i := 12) (v := ?_) rfl (by kernel_rfl) (by kernel_rfl) (by kernel_rfl) rfl (by kernel_rfl) hcl (fun _ _ _ h => h) (Or.inr hSS) (Or.inl ⟨by rfl, ?_⟩) (fun hcl2 => ?_)
        rotate_left
        · intro w hSw
          (try dsimp only at hSw)
          go_simp
          try with_reducible rfl
        clear hcl
        have hcl := hcl2; clear hcl2
        try simp only [Act.put]
        try simp only [List.getElem_toArray]
        try simp only [List.getElem_cons_succ]
        try simp only [List.getElem_cons_zero]
        try simp only [List.setIfInBounds_toArray]
        try simp only [List.set_cons_succ]
        try simp only [List.set_cons_zero]
        refine wpAnyM_take (n := 17) (i := 13) (v := ?_) rfl (by kernel_rfl) (by kernel_rfl) (by kernel_rfl) rfl (by kernel_rfl) hcl (fun _ _ _ h => h) (Or.inr hSS) (Or.inl ⟨by rfl, ?_⟩) (fun hcl2 => ?_)
        rotate_left
        · intro w hSw
          (try dsimp only at hSw)
          go_simp
          try with_reducible rfl
        clear hcl
        have hcl := hcl2; clear hcl2
        try simp only [Act.put]
        try simp only [List.getElem_toArray]
        try simp only [List.getElem_cons_succ]
        try simp only [List.getElem_cons_zero]
        try simp only [List.setIfInBounds_toArray]
        try simp only [List.set_cons_succ]
        try simp only [List.set_cons_zero]
        refine wpAnyM_take (n := 17) (i := 14) (v := ?_) rfl (by kernel_rfl) (by kernel_rfl) (by kernel_rfl) rfl (by kernel_rfl) hcl (fun _ _ _ h => h) (Or.inr hSS) (Or.inl ⟨by rfl, ?_⟩) (fun hcl2 => ?_)
        rotate_left
        · intro w hSw
          (try dsimp only at hSw)
          go_simp
          try with_reducible rfl
        clear hcl
        have hcl := hcl2; clear hcl2
        try simp only [Act.put]
        try simp only [List.getElem_toArray]
        try simp only [List.getElem_cons_succ]
        try simp only [List.getElem_cons_zero]
        try simp only [List.setIfInBounds_toArray]
        try simp only [List.set_cons_succ]
        try simp only [List.set_cons_zero]
        refine wpAnyM_one (i := 15) rfl (by kernel_rfl) hcl (fun K hK0 => ?_)
        have hK := Lib.hid hK0; clear hK0
        go_simp
        refine hK.out _ _ ?_ (fun hSS2 hcl2 => ?_)
        · exact Or.inl (by kernel_rfl)
        clear hcl hK K
        have hcl := hcl2; clear hcl2
        try simp only [Act.put]
        try simp only [List.getElem_toArray]
        try simp only [List.getElem_cons_succ]
        try simp only [List.getElem_cons_zero]
        try simp only [List.setIfInBounds_toArray]
        try simp only [List.set_cons_succ]
        try simp only [List.set_cons_zero]
        refine wpAnyM_done (by kernel_rfl) ?_ _
        go_wp2_with fail
        go_ret2
        exact ⟨⟨_, by rw [HRA.out]; rfl⟩, hB.drew.trans (hB8.mono hB.size)⟩
      · have hn3 : ¬ ((a : Int) < (xs.length : Int)) := by omega
        have HRA := Lib.hid hra; clear hra
        clear hr
        go_wp2_with fail
        go_region
        go_wp2_with fail
        go_ret2
        exact ⟨⟨false, by rw [HRA.out]; rfl⟩, hB.drew⟩
end Go.Proofs.Ythllmpgffdocmaa
