/-
  Walk over dual.Front's inner function: does a node want one label more?
-/
import Derived.Test.YthllmpgffdocmaaN
import Derived.Test.YthllmpgffdocmaaX2
import Derived.Deep.AppendLies
import Derived.RegionTactic
import Derived.Deep.RegionHeld3
import Derived.BigRegion
namespace Go.Proofs.Ythllmpgffdocmaa
open Go.RowKit Go.Deep

theorem Try.info39 : (Try.prog.info? 39).map (fun i => (i.zero, i.size, i.bytes)) = some (some (.complex .f64 0 0), 1, 16) := by kernel_rfl
def noP (w : World) (e : Ending) (w' : World) : Prop := e = .returned (.tuple #[.bool false, .bool false]) ∧ Below w.heap.size w w'
def fullP (eb : Nat) (w : World) (e : Ending) (w' : World) : Prop := e = .returned (.tuple #[.bool false, .bool true]) ∧ Tch (fun k => k = eb) w w' ∧ w'.rowIs eb 26 1 (fun _ => .int .i64 7)
def moreP (base fb : Nat) (f : Nat → Value) (u : Nat) (w : World) (F : List (List (Nat × Nat))) (e : Ending) (w' : World) : Prop :=
  e = .returned (.tuple #[.bool true, .bool false]) ∧ ∃ f', FrontsAt w' base fb f' F ∧ Tch (fun k => k = fb ∨ (f u).ownBlock = some k) w w' ∧ ∀ k, frS fb f' k → frS fb f k ∨ w.heap.size ≤ k
/-- Does a pair of the list stand under the label? -/
def underB (fs : List (Nat × Nat)) (d : Nat) : Bool := match fs.getLast? with | none => false | some p => decide (p.2 ≤ d)
theorem underB_last {fs : List (Nat × Nat)} {d : Nat} (h : underB fs d = true) : ∃ gs p, fs = gs ++ [p] ∧ p.2 ≤ d := by
  unfold underB at h
  split at h
  · cases h
  · rename_i p hp
    obtain ⟨gs, hfs⟩ := List.getLast?_eq_some_iff.1 hp
    exact ⟨gs, p, hfs, of_decide_eq_true h⟩
theorem underB_not {fs : List (Nat × Nat)} {d : Nat} (h : underB fs d = false) : fs = [] ∨ ∃ gs p, fs = gs ++ [p] ∧ d < p.2 := by
  unfold underB at h
  split at h
  · rename_i hp
    exact Or.inl (List.getLast?_eq_none_iff.1 hp)
  · rename_i p hp
    obtain ⟨gs, hfs⟩ := List.getLast?_eq_some_iff.1 hp
    have := of_decide_eq_false h
    exact Or.inr ⟨gs, p, hfs, by omega⟩
set_option maxHeartbeats 4000000 in
set_option maxRecDepth 100000 in
theorem keep_under {base fb eb : Nat} {f : Nat → Value} {F : List (List (Nat × Nat))} (l : Lb) (w : World) (h : FrontsAt w base fb f F) (hl : l.ok) (hu : underB (F.getD l.n []) l.d = true) (hn : (F.getD l.n []).length < 4096) :
    Calls Try.prog 30 #[lbV l, .pointer (some ⟨fb, 0, none⟩), .pointer (some ⟨eb, 0, none⟩)] w (noP w) := by
  obtain ⟨lc, ld, ln⟩ := l
  obtain ⟨a1, a2, a3⟩ := hl
  simp only at a1 a2 a3 hu hn
  obtain ⟨fs, p, hF, hp⟩ := underB_last hu
  obtain ⟨av, cap, hv, hc⟩ := h.form a3
  have hs := h.slot a3
  have hpo := h.ok ln a3 p (by rw [hF]; simp)
  rw [hv, hF] at hs
  rw [hF] at hn
  obtain ⟨g, rfl, hg, hc2⟩ := hc fs.length p (by rw [hF]; simp)
  simp only [List.length_append, List.length_singleton] at hs hn
  have hfl := h.row.lt
  obtain ⟨p1, p2⟩ := p
  simp only at hpo hp
  have ho := fN_order (a := p2) (b := ld) hpo.2 a2
  clear h hv hc hF hu
  generalize fs.length = n at *
  unfold prV at hc2
  simp only at hc2
  unfold lbV
  simp only
  rcases Nat.lt_or_ge p2 ld with hlt | hge
  · rw [Nat.compare_eq_lt.2 hlt] at ho
    go_enter Try.func30, Try.ntmps30
    go_wp2_with fail
    go_quiet (fail)
    go_wp2_with fail
    go_ret2
    exact ⟨rfl, below_drewN ((Below.refl _ _).alloc (Nat.le_refl _) _) _⟩
  · obtain rfl : p2 = ld := by omega
    rw [Nat.compare_eq_eq.2 rfl] at ho
    go_enter Try.func30, Try.ntmps30
    go_wp2_with fail
    go_quiet (fail)
    go_wp2_with fail
    go_ret2
    exact ⟨rfl, below_drewN ((Below.refl _ _).alloc (Nat.le_refl _) _) _⟩

set_option maxHeartbeats 4000000 in
set_option maxRecDepth 100000 in
theorem keep_full {base fb eb : Nat} {f : Nat → Value} {F : List (List (Nat × Nat))} (l : Lb) (w : World) (h : FrontsAt w base fb f F) (hl : l.ok) (hu : underB (F.getD l.n []) l.d = false) (hn : (F.getD l.n []).length < 4096) (hfull : 64 ≤ (F.getD l.n []).length)
    (he : w.rowIs eb 26 1 (fun _ => .int .i64 0)) :
    Calls Try.prog 30 #[lbV l, .pointer (some ⟨fb, 0, none⟩), .pointer (some ⟨eb, 0, none⟩)] w (fullP eb w) := by
  obtain ⟨lc, ld, ln⟩ := l
  obtain ⟨a1, a2, a3⟩ := hl
  simp only at a1 a2 a3 hu hn hfull
  obtain ⟨fs, p, hF, hp⟩ : ∃ fs p, F.getD ln [] = fs ++ [p] ∧ ld < p.2 := by
    rcases underB_not hu with h0 | h0
    · rw [h0] at hfull; simp at hfull
    · exact h0
  obtain ⟨av, cap, hv, hc⟩ := h.form a3
  have hs := h.slot a3
  have hpo := h.ok ln a3 p (by rw [hF]; simp)
  rw [hv, hF] at hs
  rw [hF] at hn
  obtain ⟨g, rfl, hg, hc2⟩ := hc fs.length p (by rw [hF]; simp)
  simp only [List.length_append, List.length_singleton] at hs hn
  have hfl := h.row.lt
  obtain ⟨p1, p2⟩ := p
  simp only at hpo hp
  have ho := fN_order (a := p2) (b := ld) hpo.2 a2
  rw [hF] at hfull
  simp only [List.length_append, List.length_singleton] at hfull
  rw [Nat.compare_eq_gt.2 hp] at ho
  clear h hv hc hF hu
  generalize fs.length = n at *
  unfold prV at hc2
  simp only at hc2
  unfold lbV
  simp only
  have e0 : w.cell? ⟨eb, 0, none⟩ = some (.int .i64 0) := he.cell (i := 0) (by omega)
  have ef : ∀ o, w.frozen? ⟨eb, o, none⟩ = false := fun o => he.frozen o
  have hel := he.lt
  have HE := Lib.hid he; clear he
  go_enter Try.func30, Try.ntmps30
  go_wp2_with fail
  go_quiet (fail)
  go_wp2_with fail
  go_ret2
  refine ⟨rfl, ?_, ?_⟩
  · exact (((Tch.refl (fun k => k = eb) w).alloc _).drewN _).setCell (Or.inl rfl) _
  · exact ((rowIs_drewN (HE.out.alloc _) _).set 0 _).congr (fun i hi => by rw [if_pos (by omega)])

set_option maxHeartbeats 8000000 in
set_option maxRecDepth 100000 in
theorem keep_more {base fb eb : Nat} {f : Nat → Value} {F : List (List (Nat × Nat))} (l : Lb) (w : World) (h : FrontsAt w base fb f F) (hl : l.ok) (hu : underB (F.getD l.n []) l.d = false) (hn : (F.getD l.n []).length < 64) (hb : base ≤ w.heap.size) :
    Calls Try.prog 30 #[lbV l, .pointer (some ⟨fb, 0, none⟩), .pointer (some ⟨eb, 0, none⟩)] w (moreP base fb f l.n w (F.set l.n (F.getD l.n [] ++ [(l.c, l.d)]))) := by
  obtain ⟨lc, ld, ln⟩ := l
  obtain ⟨a1, a2, a3⟩ := hl
  simp only
  simp only at a1 a2 a3 hu hn
  obtain ⟨av, cap, hv, hc⟩ := h.form a3
  have hs := h.slot a3
  have hfl := h.row.lt
  have hvl : ∀ k, (f ln).ownBlock = some k → k < w.heap.size := fun k hk => h.lt k (Or.inr ⟨ln, a3, hk⟩)
  have hvf := h.ne ln a3
  have hvb : (f ln).ownBlock ≠ some w.heap.size := fun e => by have := hvl _ e; omega
  have HVL := Lib.hid hvl; clear hvl
  have hun := underB_not hu
  have hpok := h.ok ln a3
  have HA := Lib.hid h; clear h
  generalize hF : F.getD ln [] = fs at *
  have HF := Lib.hid hF; clear hF
  clear hu
  rw [hv] at hs
  rcases hun with h0 | ⟨gs, p, hp, hlt⟩
  · have hlen : fs.length = 0 := by rw [h0]; rfl
    rw [hlen] at hs hv
    have hvf2 : (Value.slice av 0 cap).ownBlock ≠ some fb := by rw [← hv]; exact hvf
    have hvb2 : (Value.slice av 0 cap).ownBlock ≠ some w.heap.size := by rw [← hv]; exact hvb
    have HVV := Lib.hid hv; clear hv
    have HLEN := Lib.hid hlen; clear hlen
    clear h0 hc hpok hn hvf hvb
    unfold lbV
    simp only
    go_enter Try.func30, Try.ntmps30
    go_wp2_with fail
    go_quiet (fail)
    go_wp2_with fail
    generalize hw2 : World.drewN (World.alloc w _) _ = w2
    have hB2 : Below w.heap.size w w2 := by rw [← hw2]; exact below_drewN ((Below.refl _ _).alloc (Nat.le_refl _) _) _
    have hs2 : w2.heap.size = w.heap.size + 1 := by rw [← hw2]; simp
    have q0 : w2.cell? ⟨w.heap.size, 0, none⟩ = some (.complex .f64 (fN lc) (fN ld)) := by rw [← hw2]; simp [go_sem]
    have q1 : w2.cell? ⟨w.heap.size, 1, none⟩ = some (.int .i64 ln) := by rw [← hw2]; simp [go_sem]
    clear hw2
    have hA2 := HA.out.below' hB2
    have q2 : w2.cell? ⟨fb, ln, none⟩ = some (.slice av 0 cap) := by rw [← HVV.out]; exact hA2.slot a3
    have wf2 : ∀ o, w2.frozen? ⟨fb, o, none⟩ = false := fun o => hA2.row.frozen o
    have hown2 : w2.ownsRow base 39 1 (.slice av 0 cap) 0 (fs.map prV) := by have o := hA2.own ln a3; rw [HVV.out, HF.out, HLEN.out] at o; exact o
    have HOWN2 := Lib.hid hown2; clear hown2
    have HA2 := Lib.hid hA2; clear hA2
    have hfl2 : fb < w2.heap.size := by omega
    generalize hlb : w.heap.size = lb at *
    have HLB := Lib.hid hlb; clear hlb
    have hlb2 : lb < w2.heap.size := by omega
    have HB2 := Lib.hid hB2; clear hB2
    have HS2 := Lib.hid hs2; clear hs2
    have hb2 : base ≤ w2.heap.size := by omega
    obtain ⟨i0, hi0, hz0, hz1, hz2⟩ := info_parts Try.info39
    try clear ho
    have hln0 : (0 : Int) ≤ (ln : Int) := by omega
    have hln1 : (ln : Int) < 128 := by omega
    refine wp_region_lastM (fun w' => w'.cell? ⟨lb, 0, none⟩ = some (.complex .f64 (fN lc) (fN ld)) ∧ w'.cell? ⟨lb, 1, none⟩ = some (.int .i64 ln) ∧ w'.cell? ⟨fb, ln, none⟩ = some (.slice av 0 cap)) 8 (by kernel_rfl) (by (try dsimp only); first | exact ⟨q0, q1, q2⟩ | go_keep) (fun hSS hcl => ?_)
    refine wpAnyM_take (n := 10) (i := 0) (v := ?_) rfl (by kernel_rfl) (by kernel_rfl) (by kernel_rfl) rfl (by kernel_rfl) hcl (fun _ _ _ h => h) (Or.inr hSS) (Or.inl ⟨by rfl, ?_⟩) (fun hcl2 => ?_)
    rotate_left
    · intro w hSw
      (try dsimp only at hSw)
      go_simp
      try with_reducible rfl
    clear hcl
    have hcl := hcl2; clear hcl2
    try simp only [Act.put]
    refine wpAnyM_take (n := 10) (i := 1) (v := ?_) rfl (by kernel_rfl) (by kernel_rfl) (by kernel_rfl) rfl (by kernel_rfl) hcl (fun _ _ _ h => h) (Or.inr hSS) (Or.inl ⟨by rfl, ?_⟩) (fun hcl2 => ?_)
    rotate_left
    · intro w hSw
      (try dsimp only at hSw)
      go_simp
      try with_reducible rfl
    clear hcl
    have hcl := hcl2; clear hcl2
    try simp only [Act.put]
    refine wpAnyM_take (n := 10) (i := 2) (v := ?_) rfl (by kernel_rfl) (by kernel_rfl) (by kernel_rfl) rfl (by kernel_rfl) hcl (fun _ _ _ h => h) (Or.inr hSS) (Or.inl ⟨by rfl, ?_⟩) (fun hcl2 => ?_)
    rotate_left
    · intro w hSw
      (try dsimp only at hSw)
      go_simp
      try with_reducible rfl
    clear hcl
    have hcl := hcl2; clear hcl2
    try simp only [Act.put]
    refine wpAnyM_take (n := 10) (i := 3) (v := ?_) rfl (by kernel_rfl) (by kernel_rfl) (by kernel_rfl) rfl (by kernel_rfl) hcl (fun _ _ _ h => h) (Or.inr hSS) (Or.inl ⟨by rfl, ?_⟩) (fun hcl2 => ?_)
    rotate_left
    · intro w hSw
      (try dsimp only at hSw)
      go_simp
      try with_reducible rfl
    clear hcl
    have hcl := hcl2; clear hcl2
    try simp only [Act.put]
    refine wpAnyM_take (n := 10) (i := 4) (v := ?_) rfl (by kernel_rfl) (by kernel_rfl) (by kernel_rfl) rfl (by kernel_rfl) hcl (fun _ _ _ h => h) (Or.inr hSS) (Or.inl ⟨by rfl, ?_⟩) (fun hcl2 => ?_)
    rotate_left
    · intro w hSw
      (try dsimp only at hSw)
      go_simp
      try with_reducible rfl
    clear hcl
    have hcl := hcl2; clear hcl2
    try simp only [Act.put]
    refine wpAnyM_one (i := 5) rfl (by kernel_rfl) hcl (fun K hK0 => ?_)
    have hK := Lib.hid hK0; clear hK0
    go_simp
    refine hK.out _ _ ?_ (fun hSS2 hcl2 => ?_)
    · refine Or.inr ?_
      (try dsimp only)
      go_keep
    clear hcl hK K
    have hSS3 := hSS2.resolve_left (fun h => Bool.noConfusion (show false = true from h)); clear hSS2 hSS; have hSS := hSS3; clear hSS3
    have hcl := hcl2; clear hcl2
    try simp only [Act.put]
    refine wpAnyM_one (i := 6) rfl (by kernel_rfl) hcl (fun K hK0 => ?_)
    have hK := Lib.hid hK0; clear hK0
    refine step_append_lies _ (by rfl) _ _ _ (by rfl) base 39 i0 _ 1 16 Try.underlying44 hi0 hz0 hz1 hz2 rfl (by omega) (.slice av 0 cap) 0 _ (by rfl) ((HOWN2.out.alloc _).drew) ⟨w2.heap.size, 0, none⟩ 1 1 [.complex .f64 (fN lc) (fN ld)] (by rfl) (by rfl) (World.news_of_block (cs := #[.complex .f64 (fN lc) (fN ld)]) (t := 39) (fr := (0, 0)) (heap_alloc_new w2 _)) (by simp [Value.oneCell']) (by omega) (by unfold maxLen; omega) (by omega) (by simp; omega) (w2.heap.size + 1) (by simp) ?_
    intro g2 cap2 w3 hown3 hgrow hat hglt
    have wf3 : ∀ o, w3.frozen? ⟨fb, o, none⟩ = false := (fun o => (hgrow.frozen_far ⟨fb, o, none⟩ (by simp; omega) (Ne.symm hvf2)).trans (by simp [go_sem, hfl2, wf2]))
    refine hK.out _ _ ?_ (fun hSS2 hcl2 => ?_)
    · refine Or.inr ?_
      (try dsimp only)
      go_split_ands
      refine ⟨?_, ?_, ?_⟩
      all_goals (rw [hgrow.cell_far _ (by simp; omega) (Ne.symm (by assumption))]; first | assumption | go_keep)
    clear hcl hK K
    have hSS3 := hSS2.resolve_left (fun h => Bool.noConfusion (show false = true from h)); clear hSS2 hSS; have hSS := hSS3; clear hSS3
    have hcl := hcl2; clear hcl2
    try simp only [Act.put]
    refine wpAnyM_take (n := 10) (i := 7) (v := ?_) rfl (by kernel_rfl) (by kernel_rfl) (by kernel_rfl) rfl (by kernel_rfl) hcl (fun _ _ _ h => h) (Or.inr hSS) (Or.inl ⟨by rfl, ?_⟩) (fun hcl2 => ?_)
    rotate_left
    · intro w hSw
      (try dsimp only at hSw)
      go_simp
      try with_reducible rfl
    clear hcl
    have hcl := hcl2; clear hcl2
    try simp only [Act.put]
    refine wpAnyM_one (i := 8) rfl (by kernel_rfl) hcl (fun K hK0 => ?_)
    have hK := Lib.hid hK0; clear hK0
    go_simp
    refine hK.out _ _ ?_ (fun hSS2 hcl2 => ?_)
    · exact Or.inl (by kernel_rfl)
    clear hcl hK K
    have hcl := hcl2; clear hcl2
    try simp only [Act.put]
    refine wpAnyM_done (by kernel_rfl) ?_ _
    have hTg : Tch (fun k => (f ln).ownBlock = some k) w2 w3 := by rw [HVV.out]; exact (((Tch.refl _ _).alloc _).drew).grown hgrow (fun k hk => Or.inl hk)
    have hg2 : (f ln).ownBlock = some g2 ∨ w2.heap.size ≤ g2 := by
      rw [HVV.out]
      rcases hat with h | h
      · exact Or.inl h
      · exact Or.inr (by omega)
    have hP := HA2.out.push (p := (lc, ld)) a3 ⟨a1, a2⟩ hTg (by rw [HF.out, HLEN.out]; exact hown3) hg2
    rw [HF.out, HLEN.out] at hP
    have HP := Lib.hid hP; clear hP
    have HTG := Lib.hid hTg; clear hTg
    have HG2 := Lib.hid hg2; clear hg2
    clear hcl hSS wf3 hgrow hat hown3 q0 q1 q2
    go_wp2_with fail
    go_ret2
    refine ⟨rfl, _, HP.out, ?_, ?_⟩
    · have hB2 := HB2.out
      rw [← HLB.out] at hB2
      exact ((Tch.of_below (S := fun k => k = fb ∨ (f ln).ownBlock = some k) hB2).trans HTG.out (fun n _ h => Or.inr h)).setCell (Or.inl (Or.inl rfl)) _
    · intro k hk
      have e1 := HS2.out
      have e2 := HLB.out
      rcases hk with rfl | ⟨u, hu, hk⟩
      · exact Or.inl (Or.inl rfl)
      · simp only at hk
        by_cases e : u = ln
        · rw [if_pos e] at hk
          simp only [Value.ownBlock, Option.some.injEq] at hk
          subst hk
          rcases HG2.out with h | h
          · exact Or.inl (Or.inr ⟨ln, a3, h⟩)
          · exact Or.inr (by omega)
        · rw [if_neg e] at hk
          exact Or.inl (Or.inr ⟨u, hu, hk⟩)
  · obtain ⟨g, rfl, hg, hc2⟩ := hc gs.length p (by rw [hp]; simp)
    have hpo := hpok p (by rw [hp]; simp)
    have hlen : fs.length = gs.length + 1 := by rw [hp]; simp
    obtain ⟨p1, p2⟩ := p
    simp only at hpo hlt
    have ho := fN_order (a := p2) (b := ld) hpo.2 a2
    rw [Nat.compare_eq_gt.2 hlt] at ho
    unfold prV at hc2
    simp only at hc2
    rw [hlen] at hs hn hv
    have hvf2 : (Value.slice (some ⟨g, 0, none⟩) (gs.length + 1) cap).ownBlock ≠ some fb := by rw [← hv]; exact hvf
    have hvb2 : (Value.slice (some ⟨g, 0, none⟩) (gs.length + 1) cap).ownBlock ≠ some w.heap.size := by rw [← hv]; exact hvb
    have HVV := Lib.hid hv; clear hv
    have HLEN := Lib.hid hlen; clear hlen
    clear hp hc hpok hvf hvb
    generalize gs.length = n at *
    unfold lbV
    simp only
    go_enter Try.func30, Try.ntmps30
    go_wp2_with fail
    go_quiet (fail)
    go_wp2_with fail
    generalize hw2 : World.drewN (World.alloc w _) _ = w2
    have hB2 : Below w.heap.size w w2 := by rw [← hw2]; exact below_drewN ((Below.refl _ _).alloc (Nat.le_refl _) _) _
    have hs2 : w2.heap.size = w.heap.size + 1 := by rw [← hw2]; simp
    have q0 : w2.cell? ⟨w.heap.size, 0, none⟩ = some (.complex .f64 (fN lc) (fN ld)) := by rw [← hw2]; simp [go_sem]
    have q1 : w2.cell? ⟨w.heap.size, 1, none⟩ = some (.int .i64 ln) := by rw [← hw2]; simp [go_sem]
    clear hw2
    have hA2 := HA.out.below' hB2
    have q2 : w2.cell? ⟨fb, ln, none⟩ = some (.slice (some ⟨g, 0, none⟩) (n + 1) cap) := by rw [← HVV.out]; exact hA2.slot a3
    have wf2 : ∀ o, w2.frozen? ⟨fb, o, none⟩ = false := fun o => hA2.row.frozen o
    have hown2 : w2.ownsRow base 39 1 (.slice (some ⟨g, 0, none⟩) (n + 1) cap) (n + 1) (fs.map prV) := by have o := hA2.own ln a3; rw [HVV.out, HF.out, HLEN.out] at o; exact o
    have HOWN2 := Lib.hid hown2; clear hown2
    have HA2 := Lib.hid hA2; clear hA2
    have hfl2 : fb < w2.heap.size := by omega
    generalize hlb : w.heap.size = lb at *
    have HLB := Lib.hid hlb; clear hlb
    have hlb2 : lb < w2.heap.size := by omega
    have HB2 := Lib.hid hB2; clear hB2
    have HS2 := Lib.hid hs2; clear hs2
    have hb2 : base ≤ w2.heap.size := by omega
    obtain ⟨i0, hi0, hz0, hz1, hz2⟩ := info_parts Try.info39
    try clear ho
    have hln0 : (0 : Int) ≤ (ln : Int) := by omega
    have hln1 : (ln : Int) < 128 := by omega
    refine wp_region_lastM (fun w' => w'.cell? ⟨lb, 0, none⟩ = some (.complex .f64 (fN lc) (fN ld)) ∧ w'.cell? ⟨lb, 1, none⟩ = some (.int .i64 ln) ∧ w'.cell? ⟨fb, ln, none⟩ = some (.slice (some ⟨g, 0, none⟩) (n + 1) cap)) 8 (by kernel_rfl) (by (try dsimp only); first | exact ⟨q0, q1, q2⟩ | go_keep) (fun hSS hcl => ?_)
    refine wpAnyM_take (n := 10) (i := 0) (v := ?_) rfl (by kernel_rfl) (by kernel_rfl) (by kernel_rfl) rfl (by kernel_rfl) hcl (fun _ _ _ h => h) (Or.inr hSS) (Or.inl ⟨by rfl, ?_⟩) (fun hcl2 => ?_)
    rotate_left
    · intro w hSw
      (try dsimp only at hSw)
      go_simp
      try with_reducible rfl
    clear hcl
    have hcl := hcl2; clear hcl2
    try simp only [Act.put]
    refine wpAnyM_take (n := 10) (i := 1) (v := ?_) rfl (by kernel_rfl) (by kernel_rfl) (by kernel_rfl) rfl (by kernel_rfl) hcl (fun _ _ _ h => h) (Or.inr hSS) (Or.inl ⟨by rfl, ?_⟩) (fun hcl2 => ?_)
    rotate_left
    · intro w hSw
      (try dsimp only at hSw)
      go_simp
      try with_reducible rfl
    clear hcl
    have hcl := hcl2; clear hcl2
    try simp only [Act.put]
    refine wpAnyM_take (n := 10) (i := 2) (v := ?_) rfl (by kernel_rfl) (by kernel_rfl) (by kernel_rfl) rfl (by kernel_rfl) hcl (fun _ _ _ h => h) (Or.inr hSS) (Or.inl ⟨by rfl, ?_⟩) (fun hcl2 => ?_)
    rotate_left
    · intro w hSw
      (try dsimp only at hSw)
      go_simp
      try with_reducible rfl
    clear hcl
    have hcl := hcl2; clear hcl2
    try simp only [Act.put]
    refine wpAnyM_take (n := 10) (i := 3) (v := ?_) rfl (by kernel_rfl) (by kernel_rfl) (by kernel_rfl) rfl (by kernel_rfl) hcl (fun _ _ _ h => h) (Or.inr hSS) (Or.inl ⟨by rfl, ?_⟩) (fun hcl2 => ?_)
    rotate_left
    · intro w hSw
      (try dsimp only at hSw)
      go_simp
      try with_reducible rfl
    clear hcl
    have hcl := hcl2; clear hcl2
    try simp only [Act.put]
    refine wpAnyM_take (n := 10) (i := 4) (v := ?_) rfl (by kernel_rfl) (by kernel_rfl) (by kernel_rfl) rfl (by kernel_rfl) hcl (fun _ _ _ h => h) (Or.inr hSS) (Or.inl ⟨by rfl, ?_⟩) (fun hcl2 => ?_)
    rotate_left
    · intro w hSw
      (try dsimp only at hSw)
      go_simp
      try with_reducible rfl
    clear hcl
    have hcl := hcl2; clear hcl2
    try simp only [Act.put]
    refine wpAnyM_one (i := 5) rfl (by kernel_rfl) hcl (fun K hK0 => ?_)
    have hK := Lib.hid hK0; clear hK0
    go_simp
    refine hK.out _ _ ?_ (fun hSS2 hcl2 => ?_)
    · refine Or.inr ?_
      (try dsimp only)
      go_keep
    clear hcl hK K
    have hSS3 := hSS2.resolve_left (fun h => Bool.noConfusion (show false = true from h)); clear hSS2 hSS; have hSS := hSS3; clear hSS3
    have hcl := hcl2; clear hcl2
    try simp only [Act.put]
    refine wpAnyM_one (i := 6) rfl (by kernel_rfl) hcl (fun K hK0 => ?_)
    have hK := Lib.hid hK0; clear hK0
    refine step_append_lies _ (by rfl) _ _ _ (by rfl) base 39 i0 _ 1 16 Try.underlying44 hi0 hz0 hz1 hz2 rfl (by omega) (.slice (some ⟨g, 0, none⟩) (n + 1) cap) (n + 1) _ (by rfl) ((HOWN2.out.alloc _).drew) ⟨w2.heap.size, 0, none⟩ 1 1 [.complex .f64 (fN lc) (fN ld)] (by rfl) (by rfl) (World.news_of_block (cs := #[.complex .f64 (fN lc) (fN ld)]) (t := 39) (fr := (0, 0)) (heap_alloc_new w2 _)) (by simp [Value.oneCell']) (by omega) (by unfold maxLen; omega) (by omega) (by simp; omega) (w2.heap.size + 1) (by simp) ?_
    intro g2 cap2 w3 hown3 hgrow hat hglt
    have wf3 : ∀ o, w3.frozen? ⟨fb, o, none⟩ = false := (fun o => (hgrow.frozen_far ⟨fb, o, none⟩ (by simp; omega) (Ne.symm hvf2)).trans (by simp [go_sem, hfl2, wf2]))
    refine hK.out _ _ ?_ (fun hSS2 hcl2 => ?_)
    · refine Or.inr ?_
      (try dsimp only)
      go_split_ands
      refine ⟨?_, ?_, ?_⟩
      all_goals (rw [hgrow.cell_far _ (by simp; omega) (Ne.symm (by assumption))]; first | assumption | go_keep)
    clear hcl hK K
    have hSS3 := hSS2.resolve_left (fun h => Bool.noConfusion (show false = true from h)); clear hSS2 hSS; have hSS := hSS3; clear hSS3
    have hcl := hcl2; clear hcl2
    try simp only [Act.put]
    refine wpAnyM_take (n := 10) (i := 7) (v := ?_) rfl (by kernel_rfl) (by kernel_rfl) (by kernel_rfl) rfl (by kernel_rfl) hcl (fun _ _ _ h => h) (Or.inr hSS) (Or.inl ⟨by rfl, ?_⟩) (fun hcl2 => ?_)
    rotate_left
    · intro w hSw
      (try dsimp only at hSw)
      go_simp
      try with_reducible rfl
    clear hcl
    have hcl := hcl2; clear hcl2
    try simp only [Act.put]
    refine wpAnyM_one (i := 8) rfl (by kernel_rfl) hcl (fun K hK0 => ?_)
    have hK := Lib.hid hK0; clear hK0
    go_simp
    refine hK.out _ _ ?_ (fun hSS2 hcl2 => ?_)
    · exact Or.inl (by kernel_rfl)
    clear hcl hK K
    have hcl := hcl2; clear hcl2
    try simp only [Act.put]
    refine wpAnyM_done (by kernel_rfl) ?_ _
    have hTg : Tch (fun k => (f ln).ownBlock = some k) w2 w3 := by rw [HVV.out]; exact (((Tch.refl _ _).alloc _).drew).grown hgrow (fun k hk => Or.inl hk)
    have hg2 : (f ln).ownBlock = some g2 ∨ w2.heap.size ≤ g2 := by
      rw [HVV.out]
      rcases hat with h | h
      · exact Or.inl h
      · exact Or.inr (by omega)
    have hP := HA2.out.push (p := (lc, ld)) a3 ⟨a1, a2⟩ hTg (by rw [HF.out, HLEN.out]; exact hown3) hg2
    rw [HF.out, HLEN.out] at hP
    have HP := Lib.hid hP; clear hP
    have HTG := Lib.hid hTg; clear hTg
    have HG2 := Lib.hid hg2; clear hg2
    clear hcl hSS wf3 hgrow hat hown3 q0 q1 q2
    go_wp2_with fail
    go_ret2
    refine ⟨rfl, _, HP.out, ?_, ?_⟩
    · have hB2 := HB2.out
      rw [← HLB.out] at hB2
      exact ((Tch.of_below (S := fun k => k = fb ∨ (f ln).ownBlock = some k) hB2).trans HTG.out (fun n _ h => Or.inr h)).setCell (Or.inl (Or.inl rfl)) _
    · intro k hk
      have e1 := HS2.out
      have e2 := HLB.out
      rcases hk with rfl | ⟨u, hu, hk⟩
      · exact Or.inl (Or.inl rfl)
      · simp only at hk
        by_cases e : u = ln
        · rw [if_pos e] at hk
          simp only [Value.ownBlock, Option.some.injEq] at hk
          subst hk
          rcases HG2.out with h | h
          · exact Or.inl (Or.inr ⟨ln, a3, h⟩)
          · exact Or.inr (by omega)
        · rw [if_neg e] at hk
          exact Or.inl (Or.inr ⟨u, hu, hk⟩)
end Go.Proofs.Ythllmpgffdocmaa
