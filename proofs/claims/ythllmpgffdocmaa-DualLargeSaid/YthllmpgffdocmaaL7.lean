/-
  Walk over dual.put: a label laid in at its place.
-/
import Derived.Test.YthllmpgffdocmaaL3
import Derived.Test.YthllmpgffdocmaaL6
import Derived.Test.YthllmpgffdocmaaW
namespace Go.Proofs.Ythllmpgffdocmaa
open Go.RowKit Go.Deep

theorem bsF_le (xs : List Lb) (t : Lb) : ∀ k i j, i ≤ j → bsF xs t k i j ≤ j
  | 0, i, j, h => h
  | k + 1, i, j, h => by
    unfold bsF
    split
    · split
      · exact bsF_le xs t k _ _ (by omega)
      · exact Nat.le_trans (bsF_le xs t k _ _ (by omega)) (by omega)
    · exact h
/-- put: the label laid in where the search says. -/
def putL (xs : List Lb) (t : Lb) : List Lb := insL xs (bsF xs t 5000 0 xs.length) t
def putP (base wb : Nat) (v : Value) (w : World) (ys : List Lb) (e : Ending) (w' : World) : Prop :=
  e = .returned (.tuple #[]) ∧ ∃ v', WaysAt w' base wb v' ys ∧ Tch (waysS wb v) w w' ∧ (∀ k, v'.ownBlock = some k → v.ownBlock = some k ∨ w.heap.size ≤ k)
set_option maxHeartbeats 8000000 in
set_option maxRecDepth 100000 in
theorem put47 {base wb : Nat} {v : Value} {xs : List Lb} (t : Lb) (w : World) (h : WaysAt w base wb v xs) (ht : t.ok) (hn1 : xs.length < 4096) (hb : base ≤ w.heap.size) :
    Calls Try.prog 47 #[.pointer (some ⟨wb, 0, none⟩), lbV t] w (putP base wb v w (putL xs t)) := by
  obtain ⟨hrow, hL, hvw⟩ := h
  have hn : xs.length ≤ 4096 := by omega
  have hwl := hrow.lt
  unfold lbV
  go_enter Try.func47, Try.ntmps47
  go_wp2_with fail
  generalize hw1 : World.alloc w _ = w1
  have hB1 : Below w.heap.size w w1 := by rw [← hw1]; exact (Below.refl _ _).alloc (Nat.le_refl _) _
  have hs1 : w1.heap.size = w.heap.size + 1 := by rw [← hw1]; simp
  have c1 : w1.cell? ⟨w.heap.size, 0, none⟩ = some (.complex .f64 (fN t.c) (fN t.d)) := by rw [← hw1]; simp [go_sem]
  have c2 : w1.cell? ⟨w.heap.size, 1, none⟩ = some (.int .i64 (t.n : Int)) := by rw [← hw1]; simp [go_sem]
  clear hw1
  have hrow1 := rowIs_below hB1 hrow hwl
  have c0 : w1.cell? ⟨wb, 0, none⟩ = some v := hrow1.cell (i := 0) (by omega)
  have hL1 := hL.below' hB1
  have hL1d : LabAt w1.drew base v xs := hL1.below' (Below.refl _ _).drew
  have hvl := hL.lt
  have hT1 := Tch.of_below (S := waysS wb v) hB1
  have HT1 := Lib.hid hT1; clear hT1
  generalize hlb : w.heap.size = lb at *
  have hvb : v.ownBlock ≠ some lb := fun e => by have := hvl _ e; omega
  have HVL := Lib.hid hvl; clear hvl
  have HLB := Lib.hid hlb; clear hlb
  have hlb1 : lb < w1.heap.size := by omega
  have hwb1 : wb < w1.heap.size := by omega
  have hb1 : base ≤ w1.heap.size := by omega
  clear hs1 hB1 hL hrow
  refine wp_region_lastM (fun w' => w'.cell? ⟨wb, 0, none⟩ = some v ∧ w'.cell? ⟨lb, 0, none⟩ = some (.complex .f64 (fN t.c) (fN t.d)) ∧ w'.cell? ⟨lb, 1, none⟩ = some (.int .i64 (t.n : Int))) 5 (by kernel_rfl) (by (try dsimp only); first | exact ⟨c0, c1, c2⟩ | go_keep) (fun hSS hcl => ?_)
  refine wpAnyM_take (n := 12) (i := 0) (v := ?_) rfl (by kernel_rfl) (by kernel_rfl) (by kernel_rfl) rfl (by kernel_rfl) hcl (fun _ _ _ h => h) (Or.inr hSS) (Or.inl ⟨by rfl, ?_⟩) (fun hcl2 => ?_)
  rotate_left
  · intro w hSw
    (try dsimp only at hSw)
    go_simp
    try with_reducible rfl
  clear hcl
  have hcl := hcl2; clear hcl2
  try simp only [Act.put]
  try simp only [List.getElem_toArray]
  try simp only [List.getElem_cons_succ]
  try simp only [List.getElem_cons_zero]
  try simp only [List.setIfInBounds_toArray]
  try simp only [List.set_cons_succ]
  try simp only [List.set_cons_zero]
  refine wpAnyM_take (n := 12) (i := 1) (v := ?_) rfl (by kernel_rfl) (by kernel_rfl) (by kernel_rfl) rfl (by kernel_rfl) hcl (fun _ _ _ h => h) (Or.inr hSS) (Or.inl ⟨by rfl, ?_⟩) (fun hcl2 => ?_)
  rotate_left
  · intro w hSw
    (try dsimp only at hSw)
    go_simp
    try with_reducible rfl
  clear hcl
  have hcl := hcl2; clear hcl2
  try simp only [Act.put]
  try simp only [List.getElem_toArray]
  try simp only [List.getElem_cons_succ]
  try simp only [List.getElem_cons_zero]
  try simp only [List.setIfInBounds_toArray]
  try simp only [List.set_cons_succ]
  try simp only [List.set_cons_zero]
  refine wpAnyM_take (n := 12) (i := 2) (v := ?_) rfl (by kernel_rfl) (by kernel_rfl) (by kernel_rfl) rfl (by kernel_rfl) hcl (fun _ _ _ h => h) (Or.inr hSS) (Or.inl ⟨by rfl, ?_⟩) (fun hcl2 => ?_)
  rotate_left
  · intro w hSw
    (try dsimp only at hSw)
    go_simp
    try with_reducible rfl
  clear hcl
  have hcl := hcl2; clear hcl2
  try simp only [Act.put]
  try simp only [List.getElem_toArray]
  try simp only [List.getElem_cons_succ]
  try simp only [List.getElem_cons_zero]
  try simp only [List.setIfInBounds_toArray]
  try simp only [List.set_cons_succ]
  try simp only [List.set_cons_zero]
  refine wpAnyM_take (n := 12) (i := 3) (v := ?_) rfl (by kernel_rfl) (by kernel_rfl) (by kernel_rfl) rfl (by kernel_rfl) hcl (fun _ _ _ h => h) (Or.inr hSS) (Or.inl ⟨by rfl, ?_⟩) (fun hcl2 => ?_)
  rotate_left
  · intro w hSw
    (try dsimp only at hSw)
    go_simp
    try with_reducible rfl
  clear hcl
  have hcl := hcl2; clear hcl2
  try simp only [Act.put]
  try simp only [List.getElem_toArray]
  try simp only [List.getElem_cons_succ]
  try simp only [List.getElem_cons_zero]
  try simp only [List.setIfInBounds_toArray]
  try simp only [List.set_cons_succ]
  try simp only [List.set_cons_zero]
  refine wpAnyM_take (n := 12) (i := 4) (v := ?_) rfl (by kernel_rfl) (by kernel_rfl) (by kernel_rfl) rfl (by kernel_rfl) hcl (fun _ _ _ h => h) (Or.inr hSS) (Or.inl ⟨by rfl, ?_⟩) (fun hcl2 => ?_)
  rotate_left
  · intro w hSw
    (try dsimp only at hSw)
    go_simp
    try with_reducible rfl
  clear hcl
  have hcl := hcl2; clear hcl2
  try simp only [Act.put]
  try simp only [List.getElem_toArray]
  try simp only [List.getElem_cons_succ]
  try simp only [List.getElem_cons_zero]
  try simp only [List.setIfInBounds_toArray]
  try simp only [List.set_cons_succ]
  try simp only [List.set_cons_zero]
  refine wpAnyM_one (i := 5) rfl (by kernel_rfl) hcl (fun K hK0 => ?_)
  have hK := Lib.hid hK0; clear hK0
  go_simp
  have h70 := Search70 t w1.drew hL1d ht hn
  simp only [lbV] at h70
  refine h70.mono ?_
  clear h70
  rintro e w2 ⟨⟨bb, rfl⟩, hB2⟩
  (try dsimp only)
  refine hK.out _ _ ?_ (fun hSS2 hcl2 => ?_)
  · exact Or.inl (by kernel_rfl)
  clear hcl hK K
  have hcl := hcl2; clear hcl2
  try simp only [Act.put]
  try simp only [List.getElem_toArray]
  try simp only [List.getElem_cons_succ]
  try simp only [List.getElem_cons_zero]
  try simp only [List.setIfInBounds_toArray]
  try simp only [List.set_cons_succ]
  try simp only [List.set_cons_zero]
  refine wpAnyM_free (i := 6) (v := ?_) rfl (by kernel_rfl) (by kernel_rfl) (by kernel_rfl) rfl hcl (fun _ _ _ h => h) (Or.inl (by kernel_rfl)) (Or.inl ⟨by rfl, ?_⟩) (fun hcl2 => ?_)
  rotate_left
  · intro w hSw
    (try dsimp only at hSw)
    go_simp
    try with_reducible rfl
  clear hcl
  have hcl := hcl2; clear hcl2
  try simp only [Act.put]
  try simp only [List.getElem_toArray]
  try simp only [List.getElem_cons_succ]
  try simp only [List.getElem_cons_zero]
  try simp only [List.setIfInBounds_toArray]
  try simp only [List.set_cons_succ]
  try simp only [List.set_cons_zero]
  refine wpAnyM_free (i := 7) (v := ?_) rfl (by kernel_rfl) (by kernel_rfl) (by kernel_rfl) rfl hcl (fun _ _ _ h => h) (Or.inl (by kernel_rfl)) (Or.inl ⟨by rfl, ?_⟩) (fun hcl2 => ?_)
  rotate_left
  · intro w hSw
    (try dsimp only at hSw)
    go_simp
    try with_reducible rfl
  clear hcl
  have hcl := hcl2; clear hcl2
  try simp only [Act.put]
  try simp only [List.getElem_toArray]
  try simp only [List.getElem_cons_succ]
  try simp only [List.getElem_cons_zero]
  try simp only [List.setIfInBounds_toArray]
  try simp only [List.set_cons_succ]
  try simp only [List.set_cons_zero]
  refine wpAnyM_free (i := 8) (v := ?_) rfl (by kernel_rfl) (by kernel_rfl) (by kernel_rfl) rfl hcl (fun _ _ _ h => h) (Or.inl (by kernel_rfl)) (Or.inl ⟨by rfl, ?_⟩) (fun hcl2 => ?_)
  rotate_left
  · intro w hSw
    (try dsimp only at hSw)
    go_simp
    try with_reducible rfl
  clear hcl
  have hcl := hcl2; clear hcl2
  try simp only [Act.put]
  try simp only [List.getElem_toArray]
  try simp only [List.getElem_cons_succ]
  try simp only [List.getElem_cons_zero]
  try simp only [List.setIfInBounds_toArray]
  try simp only [List.set_cons_succ]
  try simp only [List.set_cons_zero]
  refine wpAnyM_free (i := 9) (v := ?_) rfl (by kernel_rfl) (by kernel_rfl) (by kernel_rfl) rfl hcl (fun _ _ _ h => h) (Or.inl (by kernel_rfl)) (Or.inl ⟨by rfl, ?_⟩) (fun hcl2 => ?_)
  rotate_left
  · intro w hSw
    (try dsimp only at hSw)
    go_simp
    try with_reducible rfl
  clear hcl
  have hcl := hcl2; clear hcl2
  try simp only [Act.put]
  try simp only [List.getElem_toArray]
  try simp only [List.getElem_cons_succ]
  try simp only [List.getElem_cons_zero]
  try simp only [List.setIfInBounds_toArray]
  try simp only [List.set_cons_succ]
  try simp only [List.set_cons_zero]
  refine wpAnyM_free (i := 10) (v := ?_) rfl (by kernel_rfl) (by kernel_rfl) (by kernel_rfl) rfl hcl (fun _ _ _ h => h) (Or.inl (by kernel_rfl)) (Or.inl ⟨by rfl, ?_⟩) (fun hcl2 => ?_)
  rotate_left
  · intro w hSw
    (try dsimp only at hSw)
    go_simp
    try with_reducible rfl
  clear hcl
  have hcl := hcl2; clear hcl2
  try simp only [Act.put]
  try simp only [List.getElem_toArray]
  try simp only [List.getElem_cons_succ]
  try simp only [List.getElem_cons_zero]
  try simp only [List.setIfInBounds_toArray]
  try simp only [List.set_cons_succ]
  try simp only [List.set_cons_zero]
  refine wpAnyM_done (by kernel_rfl) ?_ _
  have hbs := bsF_le xs t 5000 0 xs.length (Nat.zero_le _)
  have hB2d : Below w1.heap.size w1 w2 := (Below.refl _ _).drew.trans hB2
  have hs2 := hB2d.size
  have hL2 := hL1.below' hB2d
  have hrow2 := rowIs_below hB2d hrow1 hwb1
  have HT2 := Lib.hid (HT1.out.trans (Tch.of_below (S := fun _ => False) hB2d) (fun _ _ f => f.elim))
  have d0 := (hB2d.cell (p := ⟨wb, 0, none⟩) hwb1).trans c0
  have d1 := (hB2d.cell (p := ⟨lb, 0, none⟩) hlb1).trans c1
  have d2 := (hB2d.cell (p := ⟨lb, 1, none⟩) hlb1).trans c2
  clear hcl hSS c0 c1 c2 hB2 hL1d
  have hwb2 : wb < w2.heap.size := by omega
  have hlb2 : lb < w2.heap.size := by omega
  have f2 : ∀ o, w2.frozen? ⟨wb, o, none⟩ = false := fun o => hrow2.frozen o
  have hL3 : ∀ o, LabAt ((w2.alloc o).drew) base v xs := fun o => (hL2.below' ((Below.refl _ _).alloc (Nat.le_refl _) o)).below' (Below.refl _ _).drew
  have hv3 : v.ownBlock ≠ some w2.heap.size := fun e => by have := HVL.out _ e; omega
  have HR2 := Lib.hid hrow2; clear hrow2
  have HLL := Lib.hid hL2; clear hL2
  have H2D := Lib.hid hB2d; clear hB2d
  have HBS := Lib.hid hbs
  clear hrow1 hL1
  go_wp2_with fail
  refine wp_region_lastM (fun w' => w'.cell? ⟨wb, 0, none⟩ = some v ∧ w'.cell? ⟨lb, 0, none⟩ = some (.complex .f64 (fN t.c) (fN t.d)) ∧ w'.cell? ⟨lb, 1, none⟩ = some (.int .i64 (t.n : Int))) 11 (by kernel_rfl) (by (try dsimp only); first | exact ⟨d0, d1, d2⟩ | go_keep) (fun hSS hcl => ?_)
  refine wpAnyM_take (n := 13) (i := 0) (v := ?_) rfl (by kernel_rfl) (by kernel_rfl) (by kernel_rfl) rfl (by kernel_rfl) hcl (fun _ _ _ h => h) (Or.inr hSS) (Or.inl ⟨by rfl, ?_⟩) (fun hcl2 => ?_)
  rotate_left
  · intro w hSw
    (try dsimp only at hSw)
    go_simp
    try with_reducible rfl
  clear hcl
  have hcl := hcl2; clear hcl2
  try simp only [Act.put]
  try simp only [List.getElem_toArray]
  try simp only [List.getElem_cons_succ]
  try simp only [List.getElem_cons_zero]
  try simp only [List.setIfInBounds_toArray]
  try simp only [List.set_cons_succ]
  try simp only [List.set_cons_zero]
  refine wpAnyM_take (n := 13) (i := 1) (v := ?_) rfl (by kernel_rfl) (by kernel_rfl) (by kernel_rfl) rfl (by kernel_rfl) hcl (fun _ _ _ h => h) (Or.inr hSS) (Or.inl ⟨by rfl, ?_⟩) (fun hcl2 => ?_)
  rotate_left
  · intro w hSw
    (try dsimp only at hSw)
    go_simp
    try with_reducible rfl
  clear hcl
  have hcl := hcl2; clear hcl2
  try simp only [Act.put]
  try simp only [List.getElem_toArray]
  try simp only [List.getElem_cons_succ]
  try simp only [List.getElem_cons_zero]
  try simp only [List.setIfInBounds_toArray]
  try simp only [List.set_cons_succ]
  try simp only [List.set_cons_zero]
  refine wpAnyM_take (n := 13) (i := 2) (v := ?_) rfl (by kernel_rfl) (by kernel_rfl) (by kernel_rfl) rfl (by kernel_rfl) hcl (fun _ _ _ h => h) (Or.inr hSS) (Or.inl ⟨by rfl, ?_⟩) (fun hcl2 => ?_)
  rotate_left
  · intro w hSw
    (try dsimp only at hSw)
    go_simp
    try with_reducible rfl
  clear hcl
  have hcl := hcl2; clear hcl2
  try simp only [Act.put]
  try simp only [List.getElem_toArray]
  try simp only [List.getElem_cons_succ]
  try simp only [List.getElem_cons_zero]
  try simp only [List.setIfInBounds_toArray]
  try simp only [List.set_cons_succ]
  try simp only [List.set_cons_zero]
  refine wpAnyM_take (n := 13) (i := 3) (v := ?_) rfl (by kernel_rfl) (by kernel_rfl) (by kernel_rfl) rfl (by kernel_rfl) hcl (fun _ _ _ h => h) (Or.inr hSS) (Or.inl ⟨by rfl, ?_⟩) (fun hcl2 => ?_)
  rotate_left
  · intro w hSw
    (try dsimp only at hSw)
    go_simp
    try with_reducible rfl
  clear hcl
  have hcl := hcl2; clear hcl2
  try simp only [Act.put]
  try simp only [List.getElem_toArray]
  try simp only [List.getElem_cons_succ]
  try simp only [List.getElem_cons_zero]
  try simp only [List.setIfInBounds_toArray]
  try simp only [List.set_cons_succ]
  try simp only [List.set_cons_zero]
  refine wpAnyM_take (n := 13) (i := 4) (v := ?_) rfl (by kernel_rfl) (by kernel_rfl) (by kernel_rfl) rfl (by kernel_rfl) hcl (fun _ _ _ h => h) (Or.inr hSS) (Or.inl ⟨by rfl, ?_⟩) (fun hcl2 => ?_)
  rotate_left
  · intro w hSw
    (try dsimp only at hSw)
    go_simp
    try with_reducible rfl
  clear hcl
  have hcl := hcl2; clear hcl2
  try simp only [Act.put]
  try simp only [List.getElem_toArray]
  try simp only [List.getElem_cons_succ]
  try simp only [List.getElem_cons_zero]
  try simp only [List.setIfInBounds_toArray]
  try simp only [List.set_cons_succ]
  try simp only [List.set_cons_zero]
  refine wpAnyM_take (n := 13) (i := 5) (v := ?_) rfl (by kernel_rfl) (by kernel_rfl) (by kernel_rfl) rfl (by kernel_rfl) hcl (fun _ _ _ h => h) (Or.inr hSS) (Or.inl ⟨by rfl, ?_⟩) (fun hcl2 => ?_)
  rotate_left
  · intro w hSw
    (try dsimp only at hSw)
    go_simp
    try with_reducible rfl
  clear hcl
  have hcl := hcl2; clear hcl2
  try simp only [Act.put]
  try simp only [List.getElem_toArray]
  try simp only [List.getElem_cons_succ]
  try simp only [List.getElem_cons_zero]
  try simp only [List.setIfInBounds_toArray]
  try simp only [List.set_cons_succ]
  try simp only [List.set_cons_zero]
  refine wpAnyM_take (n := 13) (i := 6) (v := ?_) rfl (by kernel_rfl) (by kernel_rfl) (by kernel_rfl) rfl (by kernel_rfl) hcl (fun _ _ _ h => h) (Or.inr hSS) (Or.inl ⟨by rfl, ?_⟩) (fun hcl2 => ?_)
  rotate_left
  · intro w hSw
    (try dsimp only at hSw)
    go_simp
    try with_reducible rfl
  clear hcl
  have hcl := hcl2; clear hcl2
  try simp only [Act.put]
  try simp only [List.getElem_toArray]
  try simp only [List.getElem_cons_succ]
  try simp only [List.getElem_cons_zero]
  try simp only [List.setIfInBounds_toArray]
  try simp only [List.set_cons_succ]
  try simp only [List.set_cons_zero]
  refine wpAnyM_one (i := 7) rfl (by kernel_rfl) hcl (fun K hK0 => ?_)
  have hK := Lib.hid hK0; clear hK0
  go_simp
  refine hK.out _ _ ?_ (fun hSS2 hcl2 => ?_)
  · refine Or.inr ?_
    (try dsimp only)
    go_keep
  clear hcl hK K
  have hSS3 := hSS2.resolve_left (fun h => Bool.noConfusion (show false = true from h)); clear hSS2 hSS; have hSS := hSS3; clear hSS3
  have hcl := hcl2; clear hcl2
  try simp only [Act.put]
  try simp only [List.getElem_toArray]
  try simp only [List.getElem_cons_succ]
  try simp only [List.getElem_cons_zero]
  try simp only [List.setIfInBounds_toArray]
  try simp only [List.set_cons_succ]
  try simp only [List.set_cons_zero]
  refine wpAnyM_one (i := 8) rfl (by kernel_rfl) hcl (fun K hK0 => ?_)
  have hK := Lib.hid hK0; clear hK0
  go_simp
  have h73 := Insert73 t (bsF xs t 5000 0 xs.length) _ (hL3 _) ht hbs w2.heap.size (heap_alloc_new w2 _) hv3 hn1 (by simp; omega)
  refine h73.mono ?_
  clear h73
  rintro e w4 ⟨v4, rfl, hL4, hT4, hv4⟩
  obtain ⟨av4, cap4, hve, _⟩ := hL4.form
  subst hve
  have f4 : ∀ o, w4.frozen? ⟨wb, o, none⟩ = false := fun o => (hT4.frozen (p := ⟨wb, o, none⟩) (by simp; omega) hvw).trans (by simp [go_sem, hwb2, f2])
  (try dsimp only)
  refine hK.out _ _ ?_ (fun hSS2 hcl2 => ?_)
  · refine Or.inr ?_
    (try dsimp only)
    go_split_ands
    refine ⟨?_, ?_, ?_⟩
    all_goals (rw [hT4.cell (by first | (simp; done) | (simp; omega)) (by assumption)]; first | assumption | go_keep)
  clear hcl hK K
  have hSS3 := hSS2.resolve_left (fun h => Bool.noConfusion (show false = true from h)); clear hSS2 hSS; have hSS := hSS3; clear hSS3
  have hcl := hcl2; clear hcl2
  try simp only [Act.put]
  try simp only [List.getElem_toArray]
  try simp only [List.getElem_cons_succ]
  try simp only [List.getElem_cons_zero]
  try simp only [List.setIfInBounds_toArray]
  try simp only [List.set_cons_succ]
  try simp only [List.set_cons_zero]
  refine wpAnyM_take (n := 13) (i := 9) (v := ?_) rfl (by kernel_rfl) (by kernel_rfl) (by kernel_rfl) rfl (by kernel_rfl) hcl (fun _ _ _ h => h) (Or.inr hSS) (Or.inl ⟨by rfl, ?_⟩) (fun hcl2 => ?_)
  rotate_left
  · intro w hSw
    (try dsimp only at hSw)
    go_simp
    try with_reducible rfl
  clear hcl
  have hcl := hcl2; clear hcl2
  try simp only [Act.put]
  try simp only [List.getElem_toArray]
  try simp only [List.getElem_cons_succ]
  try simp only [List.getElem_cons_zero]
  try simp only [List.setIfInBounds_toArray]
  try simp only [List.set_cons_succ]
  try simp only [List.set_cons_zero]
  refine wpAnyM_take (n := 13) (i := 10) (v := ?_) rfl (by kernel_rfl) (by kernel_rfl) (by kernel_rfl) rfl (by kernel_rfl) hcl (fun _ _ _ h => h) (Or.inr hSS) (Or.inl ⟨by rfl, ?_⟩) (fun hcl2 => ?_)
  rotate_left
  · intro w hSw
    (try dsimp only at hSw)
    go_simp
    try with_reducible rfl
  clear hcl
  have hcl := hcl2; clear hcl2
  try simp only [Act.put]
  try simp only [List.getElem_toArray]
  try simp only [List.getElem_cons_succ]
  try simp only [List.getElem_cons_zero]
  try simp only [List.setIfInBounds_toArray]
  try simp only [List.set_cons_succ]
  try simp only [List.set_cons_zero]
  refine wpAnyM_one (i := 11) rfl (by kernel_rfl) hcl (fun K hK0 => ?_)
  have hK := Lib.hid hK0; clear hK0
  go_simp
  refine hK.out _ _ ?_ (fun hSS2 hcl2 => ?_)
  · exact Or.inl (by kernel_rfl)
  clear hcl hK K
  have hcl := hcl2; clear hcl2
  try simp only [Act.put]
  try simp only [List.getElem_toArray]
  try simp only [List.getElem_cons_succ]
  try simp only [List.getElem_cons_zero]
  try simp only [List.setIfInBounds_toArray]
  try simp only [List.set_cons_succ]
  try simp only [List.set_cons_zero]
  refine wpAnyM_done (by kernel_rfl) ?_ _
  have hR3 := (HR2.out.alloc (.cells #[.complex .f64 (fN t.c) (fN t.d), .int .i64 (t.n : Int)] 71)).drew
  have hR4 := rowIs_tch hT4 hR3 hvw
  have hT2 := (((HT2.out.alloc (.cells #[.complex .f64 (fN t.c) (fN t.d), .int .i64 (t.n : Int)] 71)).drew).trans hT4 (fun n _ h => Or.inr h))
  have hl4 := hT4.size
  have HT4 := Lib.hid hT2
  have HR4 := Lib.hid hR4
  have HL4 := Lib.hid hL4
  have HV4 := Lib.hid hv4
  clear hcl hT4 hR3 hR4 hT2 hL4 hv4 hL3 f4 d0 d1 d2
  go_wp2_with fail
  go_end0
  have hv5 : ∀ k, (Value.slice av4 (insL xs (bsF xs t 5000 0 xs.length) t).length cap4).ownBlock = some k → v.ownBlock = some k ∨ lb ≤ k := by
    intro k hk
    rcases HV4.out k hk with h | h
    · exact Or.inl h
    · simp at h; exact Or.inr (by omega)
  have hne : (Value.slice av4 (insL xs (bsF xs t 5000 0 xs.length) t).length cap4).ownBlock ≠ some wb := by
    intro e
    rcases hv5 wb e with h | h
    · exact hvw h
    · omega
  refine ⟨rfl, _, ⟨?_, ?_, hne⟩, ?_, fun k hk => by rw [HLB.out]; exact hv5 k hk⟩
  · exact (HR4.out.set 0 _).congr (fun i hi => by rw [if_pos (by omega)])
  · exact ⟨ownsRow_setCell_other HL4.out.own (a := ⟨wb, 0, none⟩) hne _, HL4.out.ok⟩
  · exact HT4.out.setCell (Or.inl (Or.inl rfl)) _
end Go.Proofs.Ythllmpgffdocmaa

