/-
  Walk over full.Of: the view of a sound graph.
-/
import Derived.Test.YthllmpgffdocmaaC2
import Derived.Test.YthllmpgffdocmaaV
import Derived.RegionTactic
import Derived.BigRegion
import Derived.Deep.RegionHeld3
import Derived.Deep.AppendLies
import Derived.Test.YthllmpgffdocmaaX
import Derived.Test.YthllmpgffdocmaaX
import Derived.Test.YthllmpgffdocmaaX
import Derived.Test.YthllmpgffdocmaaX
import Derived.Test.YthllmpgffdocmaaX
import Derived.Deep.RegionLaw
import Derived.Deep.RegionLaw
import Derived.Deep.RegionLaw
import Derived.Lib.Hide
namespace Go.Proofs.Ythllmpgffdocmaa
open Go.RowKit Go.Deep

theorem Try.info43 : (Try.prog.info? 43).map (fun i => (i.zero, i.size, i.bytes)) = some (some (.agg #[.int .i64 0, .int .i64 0, .int .i64 0, .int .i64 0]), 4, 32) := by kernel_rfl

set_option maxRecDepth 100000 in
theorem zero57 (w : World) : (w.alloc (.cells Try.zeroCells57 57)).rowIs w.heap.size 57 384 (viewRow fun _ => .slice none 0 0) := by
  have hs : Try.zeroCells57.size = 384 := by kernel_rfl
  have hall : (List.range 384).all (fun i => match Try.zeroCells57[i]?, decide (i < 128) with | some (.bool false), true => true | some (.slice none 0 0), false => true | _, _ => false) = true := by kernel_rfl
  have h := World.rowIs_alloc w Try.zeroCells57 57 (viewRow fun _ => .slice none 0 0) (by
    intro i hi
    have h1 := List.all_eq_true.1 hall i (by rw [hs] at hi; simpa using hi)
    unfold viewRow
    split at h1
    · rename_i e1 e2
      rw [if_pos (of_decide_eq_true e2)]; exact e1
    · rename_i e1 e2
      rw [if_neg (of_decide_eq_false e2)]; exact e1
    · cases h1)
  rw [hs] at h
  exact h

def lkRow (l : Lk) : Nat → Value := fun i => if i = 0 then .int .i64 (l.f : Int) else if i = 1 then .int .i64 (l.t : Int) else if i = 2 then .int .i64 (l.c : Int) else .int .i64 (l.d : Int)
theorem lkRow_alloc (w : World) (l : Lk) : (w.alloc (.cells #[.int .i64 (l.f : Int), .int .i64 (l.t : Int), .int .i64 (l.c : Int), .int .i64 (l.d : Int)] 43)).rowIs w.heap.size 43 4 (lkRow l) := by
  refine World.rowIs_alloc w _ _ _ ?_
  intro i hi
  match i, hi with
  | 0, _ => rfl
  | 1, _ => rfl
  | 2, _ => rfl
  | 3, _ => rfl
def ofP (w : World) (G : Gr) (e : Ending) (w' : World) : Prop :=
  ∃ vb f, e = .returned (.pointer (some ⟨vb, 0, none⟩)) ∧ Below w.heap.size w w' ∧ w.heap.size ≤ vb ∧ ViewAt w' w.heap.size vb f (rowLs G.ls)
def ofR1 (w1 : World) (vb N : Nat) (i : Value) (wr : World) : Prop :=
  ∃ k : Nat, i = .int .i64 (k : Int) ∧ k ≤ N ∧ Tch (fun x => x = vb) w1 wr ∧ wr.rowIs vb 57 384 (viewRow fun _ => .slice none 0 0)
/-- What stands when the first k links have been laid: base is the number of blocks that stood when the call began. -/
def ofR2 (w1 : World) (base vb : Nat) (ls : List Lk) (i : Value) (wr : World) : Prop :=
  ∃ (k : Nat) (f : Nat → Value), i = .int .i64 (k : Int) ∧ k ≤ ls.length ∧ Below base w1 wr ∧ w1.heap.size ≤ wr.heap.size ∧ ViewAt wr base vb f (rowLs (ls.take k))
set_option maxHeartbeats 4000000 in
set_option maxRecDepth 100000 in
theorem Of16 {G : Gr} {gv : Value} {bn cn bl cl : Nat} (w : World) (h : GraphAt w gv G bn cn bl cl) (hok : G.ok) : Calls Try.prog 16 #[gv] w (ofP w G) := by
  have hgv := h.eq
  subst hgv
  have hN := hok.len
  have hL := hok.lens
  have hbn := h.bnlt
  have hbl := h.bllt
  go_enter Try.func16, Try.ntmps16
  go_wp2_with fail
  generalize hw0 : World.alloc w _ = w0
  have hb0 : Below w.heap.size w w0 := by rw [← hw0]; exact (Below.refl _ _).alloc (Nat.le_refl _) _
  have hs0 : w0.heap.size = w.heap.size + 1 := by rw [← hw0]; simp
  have hrow : w0.rowIs w.heap.size 33 3 (fun i => if i = 0 then .slice (some ⟨bn, 0, none⟩) G.ns.length cn else if i = 1 then .slice (some ⟨bl, 0, none⟩) G.ls.length cl else .slice none 0 0) := by
    rw [← hw0]
    refine World.rowIs_alloc w _ _ _ ?_
    intro i hi
    match i, hi with
    | 0, _ => rfl
    | 1, _ => rfl
    | 2, _ => rfl
  clear hw0
  rw [← hs0]
  generalize hw1 : World.alloc w0 _ = w1
  have hv1 : w1.rowIs w0.heap.size 57 384 (viewRow fun _ => .slice none 0 0) := by rw [← hw1]; exact zero57 w0
  have hb1 : Below w0.heap.size w0 w1 := by rw [← hw1]; exact (Below.refl _ _).alloc (Nat.le_refl _) _
  have hs1 : w1.heap.size = w0.heap.size + 1 := by rw [← hw1]; simp
  clear hw1
  have hB1 : Below w.heap.size w w1 := hb0.trans (hb1.mono (by omega))
  have h1 := h.below' hB1
  have hrow1 := rowIs_below hb1 hrow (by omega)
  have x0 : w1.cell? ⟨w.heap.size, 0, none⟩ = some (.slice (some ⟨bn, 0, none⟩) G.ns.length cn) := hrow1.cell (i := 0) (by omega)
  have x1 : w1.cell? ⟨w.heap.size, 1, none⟩ = some (.slice (some ⟨bl, 0, none⟩) G.ls.length cl) := hrow1.cell (i := 1) (by omega)
  clear hrow hrow1 h hb0 hb1
  generalize hvb : w0.heap.size = vb at *
  generalize hbx : w.heap.size = bx at *
  have HB1 := Lib.hid hB1; clear hB1
  have HV1 := Lib.hid hv1; clear hv1
  have hbv : bx < vb := by omega
  have hvw : vb < w1.heap.size := by omega
  have HBX := Lib.hid hbx
  clear hs0 hs1 hvb hbx
  go_loopw [13] (ofR1 w1 vb G.ns.length) (fun i _ => G.ns.length - (intOf i).toNat)
  case atStart => exact ⟨0, rfl, Nat.zero_le _, Tch.refl _ _, HV1.out⟩
  case round =>
    obtain ⟨k, rfl, hk, hT, hr⟩ := hrel
    have hg := h1.tch hT (fun e => by have : bn = vb := e; omega) (fun e => by have : bl = vb := e; omega)
    have hsz := hT.size
    by_cases hlt : k < G.ns.length
    · have hlt' : (k : Int) < (G.ns.length : Int) := by omega
      have n0 := hg.n0 hlt
      have n1 := hg.n1 hlt
      have n2 : wr.cell? ⟨bn, k * 3 + 2, none⟩ = some (.complex .f64 0 0) := hg.n2 hlt
      have hk7 : G.nd k < 128 := hok.nr k hlt
      have tc : wr.cell? ⟨vb, G.nd k, none⟩ = some (.bool false) := by rw [hr.cell (by omega), viewRow, if_pos hk7]
      have tf : ∀ o, wr.frozen? ⟨vb, o, none⟩ = false := fun o => hr.frozen o
      have hvw2 : vb < wr.heap.size := by omega
      have hself := setCell_self tc
      go_wp2_with fail
      go_region
      go_wp2_with fail
      go_roundw
      case rel => exact ⟨k + 1, by simp, hlt, (hT.alloc _).drew, (hr.alloc _).drew⟩
      case measure => simp [intOf]; omega
    · obtain rfl : k = G.ns.length := by omega
      have hge : ¬ ((G.ns.length : Int) < (G.ns.length : Int)) := by omega
      have x1r : wr.cell? ⟨bx, 1, none⟩ = some (.slice (some ⟨bl, 0, none⟩) G.ls.length cl) := by rw [hT.cell (p := ⟨bx, 1, none⟩) (by simp; omega) (fun e => by have : bx = vb := e; omega)]; exact x1
      have HT := Lib.hid hT; clear hT
      have HR := Lib.hid hr; clear hr
      clear hlt x0 x1 HV1
      go_wp2_with fail
      obtain ⟨wo, rfl⟩ : ∃ wo : World, wo = wr := ⟨_, rfl⟩
      go_loopw [29] (ofR2 wo bx vb G.ls) (fun i _ => G.ls.length - (intOf i).toNat)
      case atStart => exact ⟨0, fun _ => .slice none 0 0, rfl, Nat.zero_le _, Below.refl _ _, Nat.le_refl _, ⟨HR.out, fun u _ => by simpa [rowLs] using World.ownsRow_nil wo bx 43 4, fun u _ => by simp [Value.ownBlock], fun u v _ _ _ b hb => by simp [Value.ownBlock] at hb⟩⟩
      case round =>
        obtain ⟨k, f, rfl, hk2, hB, hsz2, hV⟩ := hrel
        by_cases hlt : k < G.ls.length
        · have hlt' : (k : Int) < (G.ls.length : Int) := by omega
          have hgr := hg.below hB (by omega) (by omega)
          have p0 := hgr.l0 hlt
          have p1 := hgr.l1 hlt
          have p2 : wr.cell? ⟨bl, k * 4 + 2, none⟩ = _ := hgr.l2 hlt
          have p3 : wr.cell? ⟨bl, k * 4 + 3, none⟩ = _ := hgr.l3 hlt
          have b0 := hok.f128 hlt
          have b1 := hok.t128 hlt
          have hsnoc : G.ls.take (k + 1) = G.ls.take k ++ [G.lk k] := by
            rw [List.take_succ_eq_append_getElem hlt]; unfold Gr.lk; rw [List.getD_eq_getElem?_getD, List.getElem?_eq_getElem hlt]; rfl
          have HS := Lib.hid hsnoc; clear hsnoc
          generalize hlk : G.lk k = l at *
          obtain ⟨lf, lt, lc, ld⟩ := l
          simp only at p0 p1 p2 p3 b0 b1
          clear hlk hgr
          obtain ⟨i0, hi0, hz0, hz1, hz2⟩ := info_parts Try.info43
          go_wp2_with fail
          generalize hW : World.alloc wr _ = W
          have hWb : Below wr.heap.size wr W := by rw [← hW]; exact (Below.refl _ _).alloc (Nat.le_refl _) _
          have hWs : W.heap.size = wr.heap.size + 1 := by rw [← hW]; simp
          have hWr : W.rowIs wr.heap.size 43 4 (lkRow ⟨lf, lt, lc, ld⟩) := by rw [← hW]; exact lkRow_alloc wr ⟨lf, lt, lc, ld⟩
          clear hW
          have hVW := hV.below' hWb
          have hbxl : bx ≤ wr.heap.size := by omega
          generalize hlb : wr.heap.size = lb at *
          have q0 : W.cell? ⟨lb, 0, none⟩ = some (.int .i64 lf) := hWr.cell (i := 0) (by omega)
          have q1 : W.cell? ⟨lb, 1, none⟩ = some (.int .i64 lt) := hWr.cell (i := 1) (by omega)
          have q2 : W.cell? ⟨lb, 2, none⟩ = some (.int .i64 lc) := hWr.cell (i := 2) (by omega)
          have q3 : W.cell? ⟨lb, 3, none⟩ = some (.int .i64 ld) := hWr.cell (i := 3) (by omega)
          have s0 := hVW.slot (u := lf) (by omega)
          have vf : ∀ o, W.frozen? ⟨vb, o, none⟩ = false := fun o => hVW.row.frozen o
          have HWs := Lib.hid hWs
          have hown := hVW.own lf (by omega)
          have hnv := hVW.ne lf (by omega)
          have hlbW : lb < W.heap.size := by omega
          have hvbW : vb < W.heap.size := by omega
          have hvl := hV.lt
          have hlen : (rowLs (G.ls.take k) lf).length ≤ 2048 := Nat.le_trans (List.length_filter_le _ _) (Nat.le_trans (List.length_take_le _ _) (by omega))
          have hnl : (f lf).ownBlock ≠ some lb := fun e => by have := hvl _ (Or.inr ⟨lf, by omega, e⟩); omega
          generalize hxs : rowLs (G.ls.take k) lf = xs at *
          generalize hfl : f lf = v0 at *
          have HXS := Lib.hid hxs; clear hxs
          have HFL := Lib.hid hfl; clear hfl
          have HVW := Lib.hid hVW; clear hVW
          have HWR := Lib.hid hWr; clear hWr
          have HVL := Lib.hid hvl; clear hvl
          have HV := Lib.hid hV; clear hV
          clear hWs
          have hlf0 : (0 : Int) ≤ (lf : Int) := by omega
          have hlf1 : (lf : Int) < 128 := by omega
          refine wp_region_last (fun w' => w'.cell? ⟨lb, 0, none⟩ = some (.int .i64 lf) ∧ w'.cell? ⟨lb, 1, none⟩ = some (.int .i64 lt) ∧ w'.cell? ⟨lb, 2, none⟩ = some (.int .i64 lc) ∧ w'.cell? ⟨lb, 3, none⟩ = some (.int .i64 ld) ∧ w'.cell? ⟨vb, 128 + lf, none⟩ = some v0) 16 (by kernel_rfl) (by (try dsimp only); go_keep) (fun hSS hcl => ?_)
          refine wpAnyL_take (n := 18) (i := 0) (v := ?_) rfl (by kernel_rfl) (by kernel_rfl) (by kernel_rfl) (by kernel_rfl) hcl (fun _ _ _ h => h) hSS (Or.inl ⟨by rfl, ?_⟩) (fun hcl2 => ?_)
          rotate_left
          · intro w hSw
            (try dsimp only at hSw)
            go_simp
            try with_reducible rfl
          clear hcl
          have hcl := hcl2; clear hcl2
          try simp only [Act.put]
          refine wpAnyL_take (n := 18) (i := 1) (v := ?_) rfl (by kernel_rfl) (by kernel_rfl) (by kernel_rfl) (by kernel_rfl) hcl (fun _ _ _ h => h) hSS (Or.inl ⟨by rfl, ?_⟩) (fun hcl2 => ?_)
          rotate_left
          · intro w hSw
            (try dsimp only at hSw)
            go_simp
            try with_reducible rfl
          clear hcl
          have hcl := hcl2; clear hcl2
          try simp only [Act.put]
          refine wpAnyL_take (n := 18) (i := 2) (v := ?_) rfl (by kernel_rfl) (by kernel_rfl) (by kernel_rfl) (by kernel_rfl) hcl (fun _ _ _ h => h) hSS (Or.inl ⟨by rfl, ?_⟩) (fun hcl2 => ?_)
          rotate_left
          · intro w hSw
            (try dsimp only at hSw)
            go_simp
            try with_reducible rfl
          clear hcl
          have hcl := hcl2; clear hcl2
          try simp only [Act.put]
          refine wpAnyL_take (n := 18) (i := 3) (v := ?_) rfl (by kernel_rfl) (by kernel_rfl) (by kernel_rfl) (by kernel_rfl) hcl (fun _ _ _ h => h) hSS (Or.inl ⟨by rfl, ?_⟩) (fun hcl2 => ?_)
          rotate_left
          · intro w hSw
            (try dsimp only at hSw)
            go_simp
            try with_reducible rfl
          clear hcl
          have hcl := hcl2; clear hcl2
          try simp only [Act.put]
          refine wpAnyL_take (n := 18) (i := 4) (v := ?_) rfl (by kernel_rfl) (by kernel_rfl) (by kernel_rfl) (by kernel_rfl) hcl (fun _ _ _ h => h) hSS (Or.inl ⟨by rfl, ?_⟩) (fun hcl2 => ?_)
          rotate_left
          · intro w hSw
            (try dsimp only at hSw)
            go_simp
            try with_reducible rfl
          clear hcl
          have hcl := hcl2; clear hcl2
          try simp only [Act.put]
          refine wpAnyL_take (n := 18) (i := 5) (v := ?_) rfl (by kernel_rfl) (by kernel_rfl) (by kernel_rfl) (by kernel_rfl) hcl (fun _ _ _ h => h) hSS (Or.inl ⟨by rfl, ?_⟩) (fun hcl2 => ?_)
          rotate_left
          · intro w hSw
            (try dsimp only at hSw)
            go_simp
            try with_reducible rfl
          clear hcl
          have hcl := hcl2; clear hcl2
          try simp only [Act.put]
          refine wpAnyL_take (n := 18) (i := 6) (v := ?_) rfl (by kernel_rfl) (by kernel_rfl) (by kernel_rfl) (by kernel_rfl) hcl (fun _ _ _ h => h) hSS (Or.inl ⟨by rfl, ?_⟩) (fun hcl2 => ?_)
          rotate_left
          · intro w hSw
            (try dsimp only at hSw)
            go_simp
            try with_reducible rfl
          clear hcl
          have hcl := hcl2; clear hcl2
          try simp only [Act.put]
          refine wpAnyL_take (n := 18) (i := 7) (v := ?_) rfl (by kernel_rfl) (by kernel_rfl) (by kernel_rfl) (by kernel_rfl) hcl (fun _ _ _ h => h) hSS (Or.inl ⟨by rfl, ?_⟩) (fun hcl2 => ?_)
          rotate_left
          · intro w hSw
            (try dsimp only at hSw)
            go_simp
            try with_reducible rfl
          clear hcl
          have hcl := hcl2; clear hcl2
          try simp only [Act.put]
          refine wpAnyL_take (n := 18) (i := 8) (v := ?_) rfl (by kernel_rfl) (by kernel_rfl) (by kernel_rfl) (by kernel_rfl) hcl (fun _ _ _ h => h) hSS (Or.inl ⟨by rfl, ?_⟩) (fun hcl2 => ?_)
          rotate_left
          · intro w hSw
            (try dsimp only at hSw)
            go_simp
            try with_reducible rfl
          clear hcl
          have hcl := hcl2; clear hcl2
          try simp only [Act.put]
          refine wpAnyL_take (n := 18) (i := 9) (v := ?_) rfl (by kernel_rfl) (by kernel_rfl) (by kernel_rfl) (by kernel_rfl) hcl (fun _ _ _ h => h) hSS (Or.inl ⟨by rfl, ?_⟩) (fun hcl2 => ?_)
          rotate_left
          · intro w hSw
            (try dsimp only at hSw)
            go_simp
            try with_reducible rfl
          clear hcl
          have hcl := hcl2; clear hcl2
          try simp only [Act.put]
          refine wpAnyL_take (n := 18) (i := 10) (v := ?_) rfl (by kernel_rfl) (by kernel_rfl) (by kernel_rfl) (by kernel_rfl) hcl (fun _ _ _ h => h) hSS (Or.inl ⟨by rfl, ?_⟩) (fun hcl2 => ?_)
          rotate_left
          · intro w hSw
            (try dsimp only at hSw)
            go_simp
            try with_reducible rfl
          clear hcl
          have hcl := hcl2; clear hcl2
          try simp only [Act.put]
          refine wpAnyL_take (n := 18) (i := 13) (v := ?_) rfl (by kernel_rfl) (by kernel_rfl) (by kernel_rfl) (by kernel_rfl) hcl (fun _ _ _ h => h) hSS (Or.inl ⟨by rfl, ?_⟩) (fun hcl2 => ?_)
          rotate_left
          · intro w hSw
            (try dsimp only at hSw)
            go_simp
            try with_reducible rfl
          clear hcl
          have hcl := hcl2; clear hcl2
          try simp only [Act.put]
          refine wpAnyL_take (n := 18) (i := 14) (v := ?_) rfl (by kernel_rfl) (by kernel_rfl) (by kernel_rfl) (by kernel_rfl) hcl (fun _ _ _ h => h) hSS (Or.inl ⟨by rfl, ?_⟩) (fun hcl2 => ?_)
          rotate_left
          · intro w hSw
            (try dsimp only at hSw)
            go_simp
            try with_reducible rfl
          clear hcl
          have hcl := hcl2; clear hcl2
          try simp only [Act.put]
          refine wpAnyL_one (i := 11) rfl (by kernel_rfl) hcl (fun K hK0 => ?_)
          have hK := Lib.hid hK0; clear hK0
          go_simp
          refine hK.out _ _ ?_ (fun hSS2 hcl2 => ?_)
          · refine Or.inr ?_
            (try dsimp only)
            go_keep
          clear hcl hK K
          have hSS3 := hSS2.resolve_left (by decide); clear hSS2 hSS; have hSS := hSS3; clear hSS3
          have hcl := hcl2; clear hcl2
          try simp only [Act.put]
          refine wpAnyL_one (i := 12) rfl (by kernel_rfl) hcl (fun K hK0 => ?_)
          have hK := Lib.hid hK0; clear hK0
          refine step_append_lies _ (by rfl) _ _ _ (by rfl) bx 43 i0 _ 4 32 Try.underlying30 hi0 hz0 hz1 hz2 rfl (by omega) v0 xs.length (xs.flatMap linkC) (by rfl) ((hown.alloc _).drew) ⟨W.heap.size, 0, none⟩ 1 1 [.int .i64 lf, .int .i64 lt, .int .i64 lc, .int .i64 ld] (by rfl) (by rfl) (World.news_of_block (cs := #[.int .i64 lf, .int .i64 lt, .int .i64 lc, .int .i64 ld]) (t := 43) (fr := (0, 0)) (heap_alloc_new W _)) (by simp [Value.oneCell']) (by omega) (by unfold maxLen; omega) (by omega) (by simp; omega) (W.heap.size + 1) (by simp) ?_
          intro g cap w2 hown2 hgrow hat hglt
          have wf2 : ∀ o, w2.frozen? ⟨vb, o, none⟩ = false := (fun o => (hgrow.frozen_far ⟨vb, o, none⟩ (by simp; omega) (Ne.symm hnv)).trans (by simp [go_sem, hvbW, vf]))
          refine hK.out _ _ ?_ (fun hSS2 hcl2 => ?_)
          · refine Or.inr ?_
            (try dsimp only)
            go_split_ands
            refine ⟨?_, ?_, ?_, ?_, ?_⟩
            all_goals (rw [hgrow.cell_far _ (by simp; omega) (Ne.symm (by assumption))]; first | assumption | go_keep)
          clear hcl hK K
          have hSS3 := hSS2.resolve_left (by decide); clear hSS2 hSS; have hSS := hSS3; clear hSS3
          have hcl := hcl2; clear hcl2
          try simp only [Act.put]
          refine wpAnyL_take (n := 18) (i := 15) (v := ?_) rfl (by kernel_rfl) (by kernel_rfl) (by kernel_rfl) (by kernel_rfl) hcl (fun _ _ _ h => h) hSS (Or.inl ⟨by rfl, ?_⟩) (fun hcl2 => ?_)
          rotate_left
          · intro w hSw
            (try dsimp only at hSw)
            go_simp
            try with_reducible rfl
          clear hcl
          have hcl := hcl2; clear hcl2
          try simp only [Act.put]
          refine wpAnyL_one (i := 16) rfl (by kernel_rfl) hcl (fun K hK0 => ?_)
          have hK := Lib.hid hK0; clear hK0
          go_simp
          refine hK.out _ _ ?_ (fun hSS2 hcl2 => ?_)
          · exact Or.inl rfl
          clear hcl hK K
          have hcl := hcl2; clear hcl2
          try simp only [Act.put]
          refine wpAnyL_done (by kernel_rfl) ?_ _
          have hTw : Tch (fun k => (f lf).ownBlock = some k) W w2 := ((Tch.refl _ _).alloc _).drew.grown hgrow (fun k hk => Or.inl (by rw [HFL.out]; exact hk))
          have hV3 := HVW.out.push (u0 := lf) (g := g) (cap := cap) (l := ⟨lf, lt, lc, ld⟩) (by omega) hTw (by rw [HXS.out]; exact hown2) (by rw [HFL.out]; rcases hat with h | h; exact Or.inl h; exact Or.inr (by omega))
          rw [HXS.out] at hV3
          have hB3 : Below bx wo w2 := (((hB.trans (hWb.mono hbxl)).alloc (by omega) _).drew).grown hgrow (by simp; omega) (fun k hk => (hown.lt k hk).1)
          have hB3' := hB3.setCell (p := ⟨vb, 128 + lf, none⟩) (by simp; omega) (.slice (some ⟨g, 0, none⟩) (xs.length + 1) cap)
          have hWr3 := (rowIs_tch hTw HWR.out (by rw [HFL.out]; exact hnl)).setOther (a := ⟨vb, 128 + lf, none⟩) (by simp; omega) (.slice (some ⟨g, 0, none⟩) (xs.length + 1) cap)
          have hsz3 : W.heap.size ≤ (w2.setCell ⟨vb, 128 + lf, none⟩ (.slice (some ⟨g, 0, none⟩) (xs.length + 1) cap)).heap.size := by have := hTw.size; simpa using this
          clear q0 q1 q2 q3 s0 vf hown hnv hnl hat hglt hgrow hown2 hTw hB3 hSS2 hcl
          go_wp2_with fail
          generalize hW3 : World.setCell w2 _ _ = W3 at *
          clear hW3 wf2
          generalize hf3 : (fun u => if u = lf then Value.slice (some ⟨g, 0, none⟩) (xs.length + 1) cap else f u) = f3 at *
          have hf3t : f3 (128 + lt) = f (128 + lt) := by rw [← hf3]; simp only; rw [if_neg (by omega)]
          have q0 : W3.cell? ⟨lb, 0, none⟩ = some (.int .i64 lf) := hWr3.cell (i := 0) (by omega)
          have q1 : W3.cell? ⟨lb, 1, none⟩ = some (.int .i64 lt) := hWr3.cell (i := 1) (by omega)
          have q2 : W3.cell? ⟨lb, 2, none⟩ = some (.int .i64 lc) := hWr3.cell (i := 2) (by omega)
          have q3 : W3.cell? ⟨lb, 3, none⟩ = some (.int .i64 ld) := hWr3.cell (i := 3) (by omega)
          have s0 : W3.cell? ⟨vb, 256 + lt, none⟩ = some (f3 (128 + lt)) := by have := hV3.slot (u := 128 + lt) (by omega); rw [show 128 + (128 + lt) = 256 + lt by omega] at this; exact this
          have vf : ∀ o, W3.frozen? ⟨vb, o, none⟩ = false := fun o => hV3.row.frozen o
          have hown := hV3.own (128 + lt) (by omega)
          have hnv := hV3.ne (128 + lt) (by omega)
          have hlbW : lb < W3.heap.size := by omega
          have hvbW : vb < W3.heap.size := by omega
          have hnl : (f3 (128 + lt)).ownBlock ≠ some lb := by
            rw [hf3t]
            exact fun e => by have := HVL.out _ (Or.inr ⟨128 + lt, by omega, e⟩); omega
          have hxs3 : (if 128 + lt = lf then xs ++ [(⟨lf, lt, lc, ld⟩ : Lk)] else rowLs (G.ls.take k) (128 + lt)) = rowLs (G.ls.take k) (128 + lt) := if_neg (by omega)
          rw [hxs3] at hown
          have hlen3 : (rowLs (G.ls.take k) (128 + lt)).length ≤ 2048 := Nat.le_trans (List.length_filter_le _ _) (Nat.le_trans (List.length_take_le _ _) (by omega))
          generalize hys : rowLs (G.ls.take k) (128 + lt) = ys at *
          generalize hfl3 : f3 (128 + lt) = v3 at *
          have HYS := Lib.hid hys; clear hys
          have HFL3 := Lib.hid hfl3; clear hfl3
          have HF3 := Lib.hid hf3; clear hf3
          have HV3 := Lib.hid hV3; clear hV3
          have HX3 := Lib.hid hxs3; clear hxs3
          have HB3 := Lib.hid hB3'; clear hB3'
          clear hf3t hWr3
          have hlt0 : (0 : Int) ≤ (lt : Int) := by omega
          have hlt1 : (lt : Int) < 128 := by omega
          refine wp_region_last (fun w' => w'.cell? ⟨lb, 0, none⟩ = some (.int .i64 lf) ∧ w'.cell? ⟨lb, 1, none⟩ = some (.int .i64 lt) ∧ w'.cell? ⟨lb, 2, none⟩ = some (.int .i64 lc) ∧ w'.cell? ⟨lb, 3, none⟩ = some (.int .i64 ld) ∧ w'.cell? ⟨vb, 256 + lt, none⟩ = some v3) 16 (by kernel_rfl) (by (try dsimp only); go_keep) (fun hSS hcl => ?_)
          refine wpAnyL_take (n := 18) (i := 0) (v := ?_) rfl (by kernel_rfl) (by kernel_rfl) (by kernel_rfl) (by kernel_rfl) hcl (fun _ _ _ h => h) hSS (Or.inl ⟨by rfl, ?_⟩) (fun hcl2 => ?_)
          rotate_left
          · intro w hSw
            (try dsimp only at hSw)
            go_simp
            try with_reducible rfl
          clear hcl
          have hcl := hcl2; clear hcl2
          try simp only [Act.put]
          refine wpAnyL_take (n := 18) (i := 1) (v := ?_) rfl (by kernel_rfl) (by kernel_rfl) (by kernel_rfl) (by kernel_rfl) hcl (fun _ _ _ h => h) hSS (Or.inl ⟨by rfl, ?_⟩) (fun hcl2 => ?_)
          rotate_left
          · intro w hSw
            (try dsimp only at hSw)
            go_simp
            try with_reducible rfl
          clear hcl
          have hcl := hcl2; clear hcl2
          try simp only [Act.put]
          refine wpAnyL_take (n := 18) (i := 2) (v := ?_) rfl (by kernel_rfl) (by kernel_rfl) (by kernel_rfl) (by kernel_rfl) hcl (fun _ _ _ h => h) hSS (Or.inl ⟨by rfl, ?_⟩) (fun hcl2 => ?_)
          rotate_left
          · intro w hSw
            (try dsimp only at hSw)
            go_simp
            try with_reducible rfl
          clear hcl
          have hcl := hcl2; clear hcl2
          try simp only [Act.put]
          refine wpAnyL_take (n := 18) (i := 3) (v := ?_) rfl (by kernel_rfl) (by kernel_rfl) (by kernel_rfl) (by kernel_rfl) hcl (fun _ _ _ h => h) hSS (Or.inl ⟨by rfl, ?_⟩) (fun hcl2 => ?_)
          rotate_left
          · intro w hSw
            (try dsimp only at hSw)
            go_simp
            try with_reducible rfl
          clear hcl
          have hcl := hcl2; clear hcl2
          try simp only [Act.put]
          refine wpAnyL_take (n := 18) (i := 4) (v := ?_) rfl (by kernel_rfl) (by kernel_rfl) (by kernel_rfl) (by kernel_rfl) hcl (fun _ _ _ h => h) hSS (Or.inl ⟨by rfl, ?_⟩) (fun hcl2 => ?_)
          rotate_left
          · intro w hSw
            (try dsimp only at hSw)
            go_simp
            try with_reducible rfl
          clear hcl
          have hcl := hcl2; clear hcl2
          try simp only [Act.put]
          refine wpAnyL_take (n := 18) (i := 5) (v := ?_) rfl (by kernel_rfl) (by kernel_rfl) (by kernel_rfl) (by kernel_rfl) hcl (fun _ _ _ h => h) hSS (Or.inl ⟨by rfl, ?_⟩) (fun hcl2 => ?_)
          rotate_left
          · intro w hSw
            (try dsimp only at hSw)
            go_simp
            try with_reducible rfl
          clear hcl
          have hcl := hcl2; clear hcl2
          try simp only [Act.put]
          refine wpAnyL_take (n := 18) (i := 6) (v := ?_) rfl (by kernel_rfl) (by kernel_rfl) (by kernel_rfl) (by kernel_rfl) hcl (fun _ _ _ h => h) hSS (Or.inl ⟨by rfl, ?_⟩) (fun hcl2 => ?_)
          rotate_left
          · intro w hSw
            (try dsimp only at hSw)
            go_simp
            try with_reducible rfl
          clear hcl
          have hcl := hcl2; clear hcl2
          try simp only [Act.put]
          refine wpAnyL_take (n := 18) (i := 7) (v := ?_) rfl (by kernel_rfl) (by kernel_rfl) (by kernel_rfl) (by kernel_rfl) hcl (fun _ _ _ h => h) hSS (Or.inl ⟨by rfl, ?_⟩) (fun hcl2 => ?_)
          rotate_left
          · intro w hSw
            (try dsimp only at hSw)
            go_simp
            try with_reducible rfl
          clear hcl
          have hcl := hcl2; clear hcl2
          try simp only [Act.put]
          refine wpAnyL_take (n := 18) (i := 8) (v := ?_) rfl (by kernel_rfl) (by kernel_rfl) (by kernel_rfl) (by kernel_rfl) hcl (fun _ _ _ h => h) hSS (Or.inl ⟨by rfl, ?_⟩) (fun hcl2 => ?_)
          rotate_left
          · intro w hSw
            (try dsimp only at hSw)
            go_simp
            try with_reducible rfl
          clear hcl
          have hcl := hcl2; clear hcl2
          try simp only [Act.put]
          refine wpAnyL_take (n := 18) (i := 9) (v := ?_) rfl (by kernel_rfl) (by kernel_rfl) (by kernel_rfl) (by kernel_rfl) hcl (fun _ _ _ h => h) hSS (Or.inl ⟨by rfl, ?_⟩) (fun hcl2 => ?_)
          rotate_left
          · intro w hSw
            (try dsimp only at hSw)
            go_simp
            try with_reducible rfl
          clear hcl
          have hcl := hcl2; clear hcl2
          try simp only [Act.put]
          refine wpAnyL_take (n := 18) (i := 10) (v := ?_) rfl (by kernel_rfl) (by kernel_rfl) (by kernel_rfl) (by kernel_rfl) hcl (fun _ _ _ h => h) hSS (Or.inl ⟨by rfl, ?_⟩) (fun hcl2 => ?_)
          rotate_left
          · intro w hSw
            (try dsimp only at hSw)
            go_simp
            try with_reducible rfl
          clear hcl
          have hcl := hcl2; clear hcl2
          try simp only [Act.put]
          refine wpAnyL_take (n := 18) (i := 13) (v := ?_) rfl (by kernel_rfl) (by kernel_rfl) (by kernel_rfl) (by kernel_rfl) hcl (fun _ _ _ h => h) hSS (Or.inl ⟨by rfl, ?_⟩) (fun hcl2 => ?_)
          rotate_left
          · intro w hSw
            (try dsimp only at hSw)
            go_simp
            try with_reducible rfl
          clear hcl
          have hcl := hcl2; clear hcl2
          try simp only [Act.put]
          refine wpAnyL_take (n := 18) (i := 14) (v := ?_) rfl (by kernel_rfl) (by kernel_rfl) (by kernel_rfl) (by kernel_rfl) hcl (fun _ _ _ h => h) hSS (Or.inl ⟨by rfl, ?_⟩) (fun hcl2 => ?_)
          rotate_left
          · intro w hSw
            (try dsimp only at hSw)
            go_simp
            try with_reducible rfl
          clear hcl
          have hcl := hcl2; clear hcl2
          try simp only [Act.put]
          refine wpAnyL_one (i := 11) rfl (by kernel_rfl) hcl (fun K hK0 => ?_)
          have hK := Lib.hid hK0; clear hK0
          go_simp
          refine hK.out _ _ ?_ (fun hSS2 hcl2 => ?_)
          · refine Or.inr ?_
            (try dsimp only)
            go_keep
          clear hcl hK K
          have hSS3 := hSS2.resolve_left (by decide); clear hSS2 hSS; have hSS := hSS3; clear hSS3
          have hcl := hcl2; clear hcl2
          try simp only [Act.put]
          refine wpAnyL_one (i := 12) rfl (by kernel_rfl) hcl (fun K hK0 => ?_)
          have hK := Lib.hid hK0; clear hK0
          refine step_append_lies _ (by rfl) _ _ _ (by rfl) bx 43 i0 _ 4 32 Try.underlying30 hi0 hz0 hz1 hz2 rfl (by omega) v3 ys.length (ys.flatMap linkC) (by rfl) ((hown.alloc _).drew) ⟨W3.heap.size, 0, none⟩ 1 1 [.int .i64 lf, .int .i64 lt, .int .i64 lc, .int .i64 ld] (by rfl) (by rfl) (World.news_of_block (cs := #[.int .i64 lf, .int .i64 lt, .int .i64 lc, .int .i64 ld]) (t := 43) (fr := (0, 0)) (heap_alloc_new W3 _)) (by simp [Value.oneCell']) (by omega) (by unfold maxLen; omega) (by omega) (by simp; omega) (W3.heap.size + 1) (by simp) ?_
          intro g4 cap4 w4 hown2 hgrow hat hglt
          have wf2 : ∀ o, w4.frozen? ⟨vb, o, none⟩ = false := (fun o => (hgrow.frozen_far ⟨vb, o, none⟩ (by simp; omega) (Ne.symm hnv)).trans (by simp [go_sem, hvbW, vf]))
          refine hK.out _ _ ?_ (fun hSS2 hcl2 => ?_)
          · refine Or.inr ?_
            (try dsimp only)
            go_split_ands
            refine ⟨?_, ?_, ?_, ?_, ?_⟩
            all_goals (rw [hgrow.cell_far _ (by simp; omega) (Ne.symm (by assumption))]; first | assumption | go_keep)
          clear hcl hK K
          have hSS3 := hSS2.resolve_left (by decide); clear hSS2 hSS; have hSS := hSS3; clear hSS3
          have hcl := hcl2; clear hcl2
          try simp only [Act.put]
          refine wpAnyL_take (n := 18) (i := 15) (v := ?_) rfl (by kernel_rfl) (by kernel_rfl) (by kernel_rfl) (by kernel_rfl) hcl (fun _ _ _ h => h) hSS (Or.inl ⟨by rfl, ?_⟩) (fun hcl2 => ?_)
          rotate_left
          · intro w hSw
            (try dsimp only at hSw)
            go_simp
            try with_reducible rfl
          clear hcl
          have hcl := hcl2; clear hcl2
          try simp only [Act.put]
          refine wpAnyL_one (i := 16) rfl (by kernel_rfl) hcl (fun K hK0 => ?_)
          have hK := Lib.hid hK0; clear hK0
          go_simp
          refine hK.out _ _ ?_ (fun hSS2 hcl2 => ?_)
          · exact Or.inl rfl
          clear hcl hK K
          have hcl := hcl2; clear hcl2
          try simp only [Act.put]
          refine wpAnyL_done (by kernel_rfl) ?_ _
          have hTw : Tch (fun k => (f3 (128 + lt)).ownBlock = some k) W3 w4 := ((Tch.refl _ _).alloc _).drew.grown hgrow (fun k hk => Or.inl (by rw [HFL3.out]; exact hk))
          have hV4 := HV3.out.push (u0 := 128 + lt) (g := g4) (cap := cap4) (l := ⟨lf, lt, lc, ld⟩) (by omega) hTw (by rw [HYS.out, HX3.out]; exact hown2) (by rw [HFL3.out]; rcases hat with h | h; exact Or.inl h; exact Or.inr (by omega))
          rw [HYS.out, HX3.out, show 128 + (128 + lt) = 256 + lt by omega] at hV4
          have hB4 := ((((HB3.out).alloc (by omega) _).drew).grown hgrow (by simp; omega) (fun k hk => (hown.lt k hk).1)).setCell (p := ⟨vb, 256 + lt, none⟩) (by simp; omega) (.slice (some ⟨g4, 0, none⟩) (ys.length + 1) cap4)
          have hsz4 : wo.heap.size ≤ (w4.setCell ⟨vb, 256 + lt, none⟩ (.slice (some ⟨g4, 0, none⟩) (ys.length + 1) cap4)).heap.size := hB4.size
          have hV5 := hV4.congr (ys := rowLs (G.ls.take (k + 1))) (by
            intro u hu
            rw [HS.out]
            have e1 : rowLs (G.ls.take k ++ [⟨lf, lt, lc, ld⟩]) u = rowLs (G.ls.take k) u ++ (if selL u ⟨lf, lt, lc, ld⟩ then [⟨lf, lt, lc, ld⟩] else []) := by
              simp only [rowLs, List.filter_append, List.filter_cons, List.filter_nil]
            rw [e1]
            by_cases c1 : u = 128 + lt
            · subst c1
              have hs : selL (128 + lt) ⟨lf, lt, lc, ld⟩ = true := by unfold selL; rw [if_neg (by omega)]; exact decide_eq_true (by simp only; omega)
              rw [if_pos rfl, hs, HYS.out]; rfl
            · rw [if_neg c1]
              by_cases c2 : u = lf
              · subst c2
                have hs : selL u ⟨u, lt, lc, ld⟩ = true := by unfold selL; rw [if_pos (by omega)]; exact decide_eq_true rfl
                rw [if_pos rfl, hs, HXS.out]; rfl
              · have hs : selL u ⟨lf, lt, lc, ld⟩ = false := by
                  unfold selL
                  split
                  · exact decide_eq_false (by simp only; omega)
                  · exact decide_eq_false (by simp only; omega)
                rw [if_neg c2, hs]; simp)
          have HV5 := Lib.hid hV5; clear hV5
          have HB4 := Lib.hid hB4; clear hB4
          clear hV4 hTw hSS2 hcl
          go_wp2_with fail
          go_roundw
          case rel => exact ⟨k + 1, _, by simp, hlt, HB4.out, hsz4, HV5.out⟩
          case measure => simp [intOf]; omega
        · obtain rfl : k = G.ls.length := by omega
          have hge2 : ¬ ((G.ls.length : Int) < (G.ls.length : Int)) := by omega
          rw [List.take_of_length_le (Nat.le_refl _)] at hV
          have HVV := Lib.hid hV; clear hV
          go_wp2_with fail
          go_ret
          refine ⟨vb, f, rfl, ?_, by rw [HBX.out]; omega, ?_⟩
          all_goals rw [HBX.out]
          · exact (HB1.out.trans (HT.out.below (fun n _ e => by have : n = vb := e; omega) (by omega))).trans hB
          · exact HVV.out
end Go.Proofs.Ythllmpgffdocmaa
