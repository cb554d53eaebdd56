/-
  Walk over DualLarge: the ladder is laid, and asked.
-/
import Derived.Test.YthllmpgffdocmaaK3
namespace Go.Proofs.Ythllmpgffdocmaa
open Go.RowKit Go.Deep

theorem Try.info41 : (Try.prog.info? 41).map (fun i => (i.zero, i.size, i.bytes)) = some (some (.agg #[.int .i64 0, .bool false, .complex .f64 0 0]), 3, 32) := by kernel_rfl
def gRow (v1 v2 : Value) : Nat → Value := fun i => if i = 0 then v1 else if i = 1 then v2 else .slice none 0 0
structure LadSt (w : World) (gb : Nat) (v1 v2 : Value) (ns : List Nat) (ls : List Lk) (wr : World) : Prop where
  below : Below gb w wr
  row : wr.rowIs gb 33 3 (gRow v1 v2)
  o1 : wr.ownsRow (gb + 1) 41 3 v1 ns.length (ns.flatMap nodeC)
  o2 : wr.ownsRow (gb + 1) 43 4 v2 ls.length (ls.flatMap linkC)
  ne : ∀ k, v1.ownBlock = some k → v2.ownBlock ≠ some k
variable {w wr w1 : World} {gb : Nat} {v1 v2 : Value} {ns : List Nat} {ls : List Lk}
theorem LadSt.n1 (s : LadSt w gb v1 v2 ns ls wr) : v1.ownBlock ≠ some gb := fun e => by have := (s.o1.lt gb e).1; omega
theorem LadSt.n2 (s : LadSt w gb v1 v2 ns ls wr) : v2.ownBlock ≠ some gb := fun e => by have := (s.o2.lt gb e).1; omega
theorem LadSt.node (s : LadSt w gb v1 v2 ns ls wr) {o : Obj} {n g cap : Nat} (hown : w1.ownsRow (gb + 1) 41 3 (.slice (some ⟨g, 0, none⟩) (ns.length + 1) cap) (ns.length + 1) (ns.flatMap nodeC ++ nodeC n))
    (hg : (wr.alloc o).grownBy w1 v1.ownBlock) (hat : v1.ownBlock = some g ∨ wr.heap.size ≤ g) :
    LadSt w gb (.slice (some ⟨g, 0, none⟩) (ns.length + 1) cap) v2 (ns ++ [n]) ls (w1.setCell ⟨gb, 0, none⟩ (.slice (some ⟨g, 0, none⟩) (ns.length + 1) cap)) := by
  have hT : Tch (fun k => v1.ownBlock = some k) wr w1 := ((Tch.refl _ _).alloc o).grown hg (fun k hk => Or.inl hk)
  have hgl := s.row.lt
  have hgg : g ≠ gb := by
    intro e
    rcases hat with h | h
    · exact s.n1 (by rw [h, e])
    · omega
  refine ⟨?_, ?_, ?_, ?_, ?_⟩
  · exact (s.below.trans (hT.below (B := gb) (fun n _ h => by have := (s.o1.lt n h).1; omega) (by omega))).setCell (p := ⟨gb, 0, none⟩) (Nat.le_refl _) _
  · refine ((rowIs_tch hT s.row s.n1).set 0 _).congr (fun i _ => ?_)
    simp only [gRow]
    split <;> rfl
  · rw [List.length_append, List.length_singleton, List.flatMap_append]
    have e1 : [n].flatMap nodeC = nodeC n := by simp
    rw [e1]
    exact ownsRow_setCell_other hown (a := ⟨gb, 0, none⟩) (fun e => hgg (by simpa [Value.ownBlock] using e)) _
  · exact ownsRow_setCell_other (ownsRow_tch hT s.o2 (fun k hk h => s.ne k h hk)) (a := ⟨gb, 0, none⟩) s.n2 _
  · intro k hk h
    simp only [Value.ownBlock, Option.some.injEq] at hk
    subst hk
    rcases hat with h2 | h2
    · exact s.ne g h2 h
    · have := (s.o2.lt g h).2; omega
theorem LadSt.link (s : LadSt w gb v1 v2 ns ls wr) {o : Obj} {l : Lk} {g cap : Nat} (hown : w1.ownsRow (gb + 1) 43 4 (.slice (some ⟨g, 0, none⟩) (ls.length + 1) cap) (ls.length + 1) (ls.flatMap linkC ++ linkC l))
    (hg : (wr.alloc o).grownBy w1 v2.ownBlock) (hat : v2.ownBlock = some g ∨ wr.heap.size ≤ g) :
    LadSt w gb v1 (.slice (some ⟨g, 0, none⟩) (ls.length + 1) cap) ns (ls ++ [l]) (w1.setCell ⟨gb, 1, none⟩ (.slice (some ⟨g, 0, none⟩) (ls.length + 1) cap)) := by
  have hT : Tch (fun k => v2.ownBlock = some k) wr w1 := ((Tch.refl _ _).alloc o).grown hg (fun k hk => Or.inl hk)
  have hgl := s.row.lt
  have hgg : g ≠ gb := by
    intro e
    rcases hat with h | h
    · exact s.n2 (by rw [h, e])
    · omega
  refine ⟨?_, ?_, ?_, ?_, ?_⟩
  · exact (s.below.trans (hT.below (B := gb) (fun n _ h => by have := (s.o2.lt n h).1; omega) (by omega))).setCell (p := ⟨gb, 1, none⟩) (Nat.le_refl _) _
  · refine ((rowIs_tch hT s.row s.n2).set 1 _).congr (fun i _ => ?_)
    simp only [gRow]
    by_cases h0 : i = 0
    · subst h0; rfl
    · rw [if_neg h0, if_neg h0]
      split <;> rfl
  · exact ownsRow_setCell_other (ownsRow_tch hT s.o1 (fun k hk h => s.ne k hk h)) (a := ⟨gb, 1, none⟩) s.n1 _
  · rw [List.length_append, List.length_singleton, List.flatMap_append]
    have e1 : [l].flatMap linkC = linkC l := by simp
    rw [e1]
    exact ownsRow_setCell_other hown (a := ⟨gb, 1, none⟩) (fun e => hgg (by simpa [Value.ownBlock] using e)) _
  · intro k hk h
    simp only [Value.ownBlock, Option.some.injEq] at h
    subst h
    rcases hat with h2 | h2
    · exact s.ne g hk h2
    · have := (s.o1.lt g hk).2; omega
theorem LadSt.c0 (s : LadSt w gb v1 v2 ns ls wr) : wr.cell? ⟨gb, 0, none⟩ = some v1 := s.row.cell (i := 0) (by omega)
theorem LadSt.c1 (s : LadSt w gb v1 v2 ns ls wr) : wr.cell? ⟨gb, 1, none⟩ = some v2 := s.row.cell (i := 1) (by omega)
theorem LadSt.c2 (s : LadSt w gb v1 v2 ns ls wr) : wr.cell? ⟨gb, 2, none⟩ = some (.slice none 0 0) := s.row.cell (i := 2) (by omega)
/-- The graph as it is read. -/
theorem LadSt.graph (s : LadSt w gb v1 v2 ns ls wr) (h1 : 0 < ns.length) (h2 : 0 < ls.length) : ∃ bn cn bl cl, v1 = .slice (some ⟨bn, 0, none⟩) ns.length cn ∧ v2 = .slice (some ⟨bl, 0, none⟩) ls.length cl ∧ GraphAt wr (.agg #[v1, v2, .slice none 0 0]) ⟨ns, ls⟩ bn cn bl cl := by
  obtain ⟨bn, cn, e1, _, _⟩ := s.o1.form h1
  obtain ⟨bl, cl, e2, _, _⟩ := s.o2.form h2
  refine ⟨bn, cn, bl, cl, e1, e2, ⟨by rw [e1, e2], ?_, ?_⟩⟩
  · have := ownsRow_le s.o1 (Nat.zero_le _); rw [e1] at this; exact this
  · have := ownsRow_le s.o2 (Nat.zero_le _); rw [e2] at this; exact this

theorem ladder_succ (k : Nat) : ladder (k + 1) = ladder k ++ [⟨2 * k, 2 * k + 1, 1, 2 ^ k + 1⟩] ++ [⟨2 * k, 2 * k + 2, 2 ^ k + 2, 1⟩] ++ [⟨2 * k + 1, 2 * k + 2, 1, 0⟩] := by
  unfold ladder
  rw [List.range_succ]
  simp
theorem ladder_len (k : Nat) : (ladder k).length = 3 * k := by
  induction k with
  | zero => rfl
  | succ k ih => rw [ladder_succ]; simp [ih]; omega
theorem lk1 (k p : Nat) : linkC ⟨2 * k, 2 * k + 1, 1, p + 1⟩ = [.int .i64 (2 * (k : Int)), .int .i64 (2 * (k : Int) + 1), .int .i64 1, .int .i64 ((p : Int) + 1)] := by simp [linkC]
theorem lk2 (k p : Nat) : linkC ⟨2 * k, 2 * k + 2, p + 2, 1⟩ = [.int .i64 (2 * (k : Int)), .int .i64 (2 * (k : Int) + 2), .int .i64 ((p : Int) + 2), .int .i64 1] := by simp [linkC]
theorem lk3 (k : Nat) : linkC ⟨2 * k + 1, 2 * k + 2, 1, 0⟩ = [.int .i64 (2 * (k : Int) + 1), .int .i64 (2 * (k : Int) + 2), .int .i64 1, .int .i64 0] := by simp [linkC]
def ladG (n : Nat) : Gr := ⟨List.range (2 * n + 1), ladder n⟩
theorem own_form {w : World} {base : Nat} {e : TypeId} {size : Nat} {v : Value} {n : Nat} {xs : List Value} (h : w.ownsRow base e size v n xs) : ∃ a c, v = .slice a n c := by
  rcases h.2 with ⟨h1, h0⟩ | ⟨g, cap, cur, hv, _⟩
  · exact ⟨none, 0, by rw [h1, h0]⟩
  · exact ⟨_, _, hv⟩
theorem frontLen_some {r : Option (Nat × List (Nat × Nat))} {a b : Nat} (h : frontLen r = some (a, b)) : ∃ l, r = some (a, l) ∧ l.length = b := by
  cases r with
  | none => cases h
  | some x =>
    obtain ⟨y, l⟩ := x
    simp only [frontLen, Option.map_some, Option.some.injEq, Prod.mk.injEq] at h
    exact ⟨l, by rw [h.1], h.2⟩
theorem ladder_facts (k : Nat) (h1 : 1 ≤ k) (h9 : k ≤ 9) : (∃ l, frontF (ladder k) 0 (2 * k) = some ((lenOf k).1, l) ∧ l.length = (lenOf k).2) ∧ (∃ l, frontF (ladder k) (2 * k) 0 = some (0, l) ∧ l.length = 0) ∧
    (∃ R, treeOf (ladder k) 0 = some R) ∧ (∃ R, treeOf (ladder k) (2 * k) = some R) := by
  obtain ⟨m, rfl⟩ : ∃ m, k = m + 1 := ⟨k - 1, by omega⟩
  have h := ladder_all m (by omega)
  unfold ladderOk at h
  simp only [Bool.and_eq_true, decide_eq_true_eq] at h
  obtain ⟨⟨⟨h1, h2⟩, h3⟩, h4⟩ := h
  rw [← frontG_eq] at h1 h2
  exact ⟨frontLen_some h1, frontLen_some h2, Option.isSome_iff_exists.1 h3, Option.isSome_iff_exists.1 h4⟩
theorem ladG_all : (List.range 9).all (fun m => okB (ladG (m + 1))) = true := by decide +kernel
theorem ladG_ok (k : Nat) (h1 : 1 ≤ k) (h9 : k ≤ 9) : (ladG k).ok := by
  obtain ⟨m, rfl⟩ : ∃ m, k = m + 1 := ⟨k - 1, by omega⟩
  exact okB_ok (List.all_eq_true.1 ladG_all m (List.mem_range.2 (by omega)))
def nodeRel (w : World) (gb N : Nat) (i : Value) (wr : World) : Prop := ∃ (k : Nat) (v : Value), i = .int .i64 (k : Int) ∧ k ≤ N ∧ LadSt w gb v (.slice none 0 0) (List.range k) [] wr
def linkRel2 (w : World) (gb n : Nat) (i : Value) (wr : World) : Prop := ∃ (k : Nat) (v1 v2 : Value), i = .int .i64 (k : Int) ∧ k ≤ n ∧ LadSt w gb v1 v2 (List.range (2 * n + 1)) (ladder k) wr
def yesP (w : World) (e : Ending) (w' : World) : Prop := e = .returned (.bool true) ∧ Below w.heap.size w w'
set_option maxHeartbeats 8000000 in
set_option maxRecDepth 100000 in
theorem DualLarge4 (hC : CheckSaid) (q : Nat) (hq : q < 256) (w : World) : Calls Try.prog 4 #[.int .u8 (q : Int)] w (yesP w) := by
  go_enter Try.func4, Try.ntmps4
  go_wp2_with fail
  obtain ⟨n, hn, hn1, hn2⟩ : ∃ n : Nat, ((q : Int) % 9 + 1) = (n : Int) ∧ 1 ≤ n ∧ n ≤ 9 := ⟨q % 9 + 1, by omega, by omega, by omega⟩
  rw [hn]
  have hg0 : (w.alloc (.cells #[.slice none 0 0, .slice none 0 0, .slice none 0 0] 33)).rowIs w.heap.size 33 3 (gRow (.slice none 0 0) (.slice none 0 0)) := World.rowIs_alloc w _ 33 _ (fun i hi => by
    match i, hi with
    | 0, _ => rfl
    | 1, _ => rfl
    | 2, _ => rfl)
  have hB0 : Below w.heap.size w (w.alloc (.cells #[.slice none 0 0, .slice none 0 0, .slice none 0 0] 33)) := (Below.refl _ _).alloc (Nat.le_refl _) _
  generalize World.alloc w _ = w0 at *
  have s0 : LadSt w w.heap.size (.slice none 0 0) (.slice none 0 0) [] [] w0 := ⟨hB0, hg0, World.ownsRow_nil _ _ 41 3, World.ownsRow_nil _ _ 43 4, fun k hk => by simp [Value.ownBlock] at hk⟩
  have S0 := Lib.hid s0
  clear s0 hg0 hB0
  have HN := Lib.hid hn; clear hn
  generalize hgb : w.heap.size = gb at *
  have HGB := Lib.hid hgb; clear hgb
  obtain ⟨i0, hi0, hz0, hz1, hz2⟩ := info_parts Try.info41
  go_loopw [5] (nodeRel w gb (2 * n + 1)) (fun i _ => (2 * n + 1) - (intOf i).toNat)
  case atStart => exact ⟨0, _, rfl, Nat.zero_le _, S0.out⟩
  case round =>
    obtain ⟨k, v, rfl, hk, s⟩ := hrel
    by_cases hlt : k < 2 * n + 1
    · have hlt' : (k : Int) ≤ 2 * (n : Int) := by omega
      have c0 := s.c0
      have hgl := s.row.lt
      have f0 : ∀ o, wr.frozen? ⟨gb, o, none⟩ = false := fun o => s.row.frozen o
      have hn1 := s.n1
      have hown := s.o1
      rw [List.length_range] at hown
      have S := Lib.hid s; clear s
      go_wp2_with (at_builtin; go_must (
         refine wpList_append_lies _ rfl _ _ 29 rfl (gb + 1) 41 i0 (.agg #[.int .i64 0, .bool false, .complex .f64 0 0]) 3 32 Try.underlying29 hi0 hz0 hz1 hz2 rfl (by decide) _ k _ rfl (hown.alloc _) ⟨wr.heap.size, 0, none⟩ 1 1 [.int .i64 (k : Int), .bool false, .complex .f64 0 0] rfl rfl ?c1 ?c2 (by decide) ?c3 ?c4 ?c5 (wr.heap.size + 1) (by simp) ?_
         case c1 => exact World.news_of_block (heap_alloc_new wr _)
         case c2 => simp [Value.oneCell']
         case c3 => unfold maxLen; omega
         case c4 => omega
         case c5 => simp; omega
         intro g cap' w1 hown' hgrow hlies hglt
         have d0 : w1.cell? ⟨gb, 0, none⟩ = some v := (hgrow.cell_far ⟨gb, 0, none⟩ (by simp; omega) (Ne.symm hn1)).trans (by simp [go_sem, hgl, c0])
         have d1 : ∀ o, w1.frozen? ⟨gb, o, none⟩ = false := fun o => (hgrow.frozen_far ⟨gb, o, none⟩ (by simp; omega) (Ne.symm hn1)).trans (by simp [go_sem, hgl, f0])))
      have hat : v.ownBlock = some g ∨ wr.heap.size ≤ g := by
        rcases hlies with h | h
        · exact Or.inl h
        · exact Or.inr (by omega)
      have s2 := S.out.node (n := k) (g := g) (cap := cap') (by rw [List.length_range]; exact hown') hgrow hat
      rw [List.length_range, ← List.range_succ] at s2
      have S2 := Lib.hid s2; clear s2
      clear hown' hgrow hlies hat d0 d1 hown c0 f0
      go_wp2_with fail
      go_roundw
      case rel => exact ⟨k + 1, _, by simp, hlt, S2.out⟩
      case measure => simp [intOf]; omega
    · obtain rfl : k = 2 * n + 1 := by omega
      have hge : ¬ (((2 * n + 1 : Nat) : Int) ≤ 2 * (n : Int)) := by omega
      have S := Lib.hid s; clear s S0
      go_wp2_with fail
      obtain ⟨wo, rfl⟩ : ∃ wo : World, wo = wr := ⟨_, rfl⟩
      obtain ⟨j0, hj, ht0, ht1, ht2⟩ := info_parts Try.info43
      go_loopw [6] (linkRel2 w gb n) (fun i _ => n - (intOf i).toNat)
      case atStart => exact ⟨0, v, _, rfl, Nat.zero_le _, S.out⟩
      case round =>
        obtain ⟨k, v1, v2, rfl, hk2, s⟩ := hrel
        by_cases hlt : k < n
        · have hlt' : (k : Int) < (n : Int) := by omega
          have c1 := s.c1
          have hgl := s.row.lt
          have f0 : ∀ o, wr.frozen? ⟨gb, o, none⟩ = false := fun o => s.row.frozen o
          have hnl := s.n2
          have hown := s.o2
          have S := Lib.hid s; clear s
          go_upto_region 10 with (fail)
          obtain ⟨p, hp, hp9⟩ : ∃ p : Nat, 2 ^ k = p ∧ p ≤ 256 := ⟨2 ^ k, rfl, by
            have : 2 ^ k ≤ 2 ^ 8 := Nat.pow_le_pow_right (by omega) (by omega)
            omega⟩
          have HP := Lib.hid hp; clear hp
          go_cut [7] (fun x w' => x = .int .i64 (p : Int) ∧ w' = wr)
          case first =>
            go_wp2_with fail
            go_meet
            refine ⟨?_, rfl⟩
            have e1 : ((2 : Int) ^ k) = (p : Int) := by rw [← HP.out]; simp
            rw [e1, IntWalk.wrap64_in _ ⟨by omega, by omega⟩]
          case rest =>
            obtain ⟨rfl, rfl⟩ := hcut
            rename World => wc
            clear c1 hgl f0 hnl hown
            have hlen : (ladder k).length = 3 * k := ladder_len k
            have HL := Lib.hid hlen; clear hlen
            have hq1 := lk1 k p
            have hq2 := lk2 k p
            have hq3 := lk3 k
            have HQ1 := Lib.hid hq1; clear hq1
            have HQ2 := Lib.hid hq2; clear hq2
            have HQ3 := Lib.hid hq3; clear hq3
            go_upto_region 11 with (fail)
            have c1 := S.out.c1
            have hgl := S.out.row.lt
            have f0 : ∀ o, (wc).frozen? ⟨gb, o, none⟩ = false := fun o => S.out.row.frozen o
            have hnl := S.out.n2
            have hown := S.out.o2
            rw [HL.out] at hown
            go_upto_region 12 with (at_builtin; go_must (
               refine wpList_append_lies _ rfl _ _ 30 rfl (gb + 1) 43 j0 (.agg #[.int .i64 0, .int .i64 0, .int .i64 0, .int .i64 0]) 4 32 Try.underlying30 hj ht0 ht1 ht2 rfl (by decide) _ (3 * k) _ rfl (hown.alloc _) ⟨(wc).heap.size, 0, none⟩ 1 1 [.int .i64 (2 * (k : Int)), .int .i64 (2 * (k : Int) + 1), .int .i64 1, .int .i64 ((p : Int) + 1)] rfl rfl (World.news_of_block (heap_alloc_new (wc) _)) (by simp [Value.oneCell']) (by decide) (by unfold maxLen; omega) (by omega) (by simp; omega) ((wc).heap.size + 1) (by simp) ?_
               intro g1 cap1 w1 hown1 hgrow hlies hglt
               have d0 : w1.cell? ⟨gb, 1, none⟩ = some (v2) := (hgrow.cell_far ⟨gb, 1, none⟩ (by simp; omega) (Ne.symm hnl)).trans (by simp [go_sem, hgl, c1])
               have d1 : ∀ o, w1.frozen? ⟨gb, o, none⟩ = false := fun o => (hgrow.frozen_far ⟨gb, o, none⟩ (by simp; omega) (Ne.symm hnl)).trans (by simp [go_sem, hgl, f0])
               have hat : (v2).ownBlock = some g1 ∨ (wc).heap.size ≤ g1 := by
                 rcases hlies with h | h
                 · exact Or.inl h
                 · exact Or.inr (by omega)
               have s1 := S.out.link (l := ⟨2 * k, 2 * k + 1, 1, p + 1⟩) (g := g1) (cap := cap1) (by rw [HL.out, HQ1.out]; exact hown1) hgrow hat
               rw [HL.out] at s1
               have S1 := Lib.hid s1
               clear s1 hown1 hgrow hlies hat))
            generalize World.setCell w1 _ _ = x1 at *
            clear d0 d1 hown c1 f0 hnl hgl
            have hl2 := (show (ladder k ++ [(⟨2 * k, 2 * k + 1, 1, p + 1⟩ : Lk)]).length = 3 * k + 1 by rw [List.length_append, HL.out]; rfl)
            have HL2 := Lib.hid hl2; clear hl2
            have c1 := S1.out.c1
            have hgl := S1.out.row.lt
            have f0 : ∀ o, (x1).frozen? ⟨gb, o, none⟩ = false := fun o => S1.out.row.frozen o
            have hnl := S1.out.n2
            have hown := S1.out.o2
            rw [HL2.out] at hown
            go_upto_region 13 with (at_builtin; go_must (
               refine wpList_append_lies _ rfl _ _ 30 rfl (gb + 1) 43 j0 (.agg #[.int .i64 0, .int .i64 0, .int .i64 0, .int .i64 0]) 4 32 Try.underlying30 hj ht0 ht1 ht2 rfl (by decide) _ (3 * k + 1) _ rfl (hown.alloc _) ⟨(x1).heap.size, 0, none⟩ 1 1 [.int .i64 (2 * (k : Int)), .int .i64 (2 * (k : Int) + 2), .int .i64 ((p : Int) + 2), .int .i64 1] rfl rfl (World.news_of_block (heap_alloc_new (x1) _)) (by simp [Value.oneCell']) (by decide) (by unfold maxLen; omega) (by omega) (by simp; omega) ((x1).heap.size + 1) (by simp) ?_
               intro g2 cap2 w2 hown2 hgrow hlies hglt
               have d0 : w2.cell? ⟨gb, 1, none⟩ = some (Value.slice (some ⟨g1, 0, none⟩) (3 * k + 1) cap1) := (hgrow.cell_far ⟨gb, 1, none⟩ (by simp; omega) (Ne.symm hnl)).trans (by simp [go_sem, hgl, c1])
               have d1 : ∀ o, w2.frozen? ⟨gb, o, none⟩ = false := fun o => (hgrow.frozen_far ⟨gb, o, none⟩ (by simp; omega) (Ne.symm hnl)).trans (by simp [go_sem, hgl, f0])
               have hat : (Value.slice (some ⟨g1, 0, none⟩) (3 * k + 1) cap1).ownBlock = some g2 ∨ (x1).heap.size ≤ g2 := by
                 rcases hlies with h | h
                 · exact Or.inl h
                 · exact Or.inr (by omega)
               have s2 := S1.out.link (l := ⟨2 * k, 2 * k + 2, p + 2, 1⟩) (g := g2) (cap := cap2) (by rw [HL2.out, HQ2.out]; exact hown2) hgrow hat
               rw [HL2.out] at s2
               have S2 := Lib.hid s2
               clear s2 hown2 hgrow hlies hat))
            generalize World.setCell w2 _ _ = x2 at *
            clear d0 d1 hown c1 f0 hnl hgl
            have hl3 := (show (ladder k ++ [(⟨2 * k, 2 * k + 1, 1, p + 1⟩ : Lk)] ++ [(⟨2 * k, 2 * k + 2, p + 2, 1⟩ : Lk)]).length = 3 * k + 1 + 1 by rw [List.length_append, HL2.out]; rfl)
            have HL3 := Lib.hid hl3; clear hl3
            have c1 := S2.out.c1
            have hgl := S2.out.row.lt
            have f0 : ∀ o, (x2).frozen? ⟨gb, o, none⟩ = false := fun o => S2.out.row.frozen o
            have hnl := S2.out.n2
            have hown := S2.out.o2
            rw [HL3.out] at hown
            go_wp2_with (at_builtin; go_must (
               refine wpList_append_lies _ rfl _ _ 30 rfl (gb + 1) 43 j0 (.agg #[.int .i64 0, .int .i64 0, .int .i64 0, .int .i64 0]) 4 32 Try.underlying30 hj ht0 ht1 ht2 rfl (by decide) _ (3 * k + 1 + 1) _ rfl (hown.alloc _) ⟨(x2).heap.size, 0, none⟩ 1 1 [.int .i64 (2 * (k : Int) + 1), .int .i64 (2 * (k : Int) + 2), .int .i64 1, .int .i64 0] rfl rfl (World.news_of_block (heap_alloc_new (x2) _)) (by simp [Value.oneCell']) (by decide) (by unfold maxLen; omega) (by omega) (by simp; omega) ((x2).heap.size + 1) (by simp) ?_
               intro g3 cap3 w3 hown3 hgrow hlies hglt
               have d0 : w3.cell? ⟨gb, 1, none⟩ = some (Value.slice (some ⟨g2, 0, none⟩) (3 * k + 1 + 1) cap2) := (hgrow.cell_far ⟨gb, 1, none⟩ (by simp; omega) (Ne.symm hnl)).trans (by simp [go_sem, hgl, c1])
               have d1 : ∀ o, w3.frozen? ⟨gb, o, none⟩ = false := fun o => (hgrow.frozen_far ⟨gb, o, none⟩ (by simp; omega) (Ne.symm hnl)).trans (by simp [go_sem, hgl, f0])
               have hat : (Value.slice (some ⟨g2, 0, none⟩) (3 * k + 1 + 1) cap2).ownBlock = some g3 ∨ (x2).heap.size ≤ g3 := by
                 rcases hlies with h | h
                 · exact Or.inl h
                 · exact Or.inr (by omega)
               have s3 := S2.out.link (l := ⟨2 * k + 1, 2 * k + 2, 1, 0⟩) (g := g3) (cap := cap3) (by rw [HL3.out, HQ3.out]; exact hown3) hgrow hat
               rw [HL3.out] at s3
               have S3 := Lib.hid s3
               clear s3 hown3 hgrow hlies hat))
            generalize World.setCell w3 _ _ = x3 at *
            clear d0 d1 hown c1 f0 hnl hgl
            have s4 := S3.out
            rw [← HP.out, ← ladder_succ] at s4
            have S4 := Lib.hid s4; clear s4
            go_wp2_with fail
            go_roundw
            case rel => exact ⟨k + 1, v1, _, by simp, hlt, S4.out⟩
            case measure => simp [intOf]; omega
        · obtain rfl : k = n := by omega
          have hge : ¬ ((k : Int) < (k : Int)) := by omega
          obtain ⟨bn, cn, bl, cl, rfl, rfl, hG⟩ := s.graph (by simp) (by rw [ladder_len]; omega)
          have c0 := s.c0
          have c1 := s.c1
          have c2 := s.c2
          rw [List.length_range] at c0 hG
          rw [ladder_len] at c1 hG
          have hB := s.below
          have hgl := s.row.lt
          clear s S
          obtain ⟨⟨lA, hA1, hA2⟩, ⟨lB, hB1, hB2⟩, ⟨RA, hRA⟩, ⟨RB, hRB⟩⟩ := ladder_facts k (by omega) (by omega)
          have hok := ladG_ok k (by omega) (by omega)
          change GraphAt _ _ (ladG k) _ _ _ _ at hG
          have e0 : (ladG k).nd 0 = 0 := by simp [ladG, Gr.nd]
          have e2 : (ladG k).nd (2 * k) = 2 * k := by simp [ladG, Gr.nd]
          have hl0 : (ladG k).ns.length = 2 * k + 1 := by simp [ladG]
          have h11 := Front11 (R := RA) (x := ((lenOf k).1, lA)) hC 0 (2 * k) wr hG hok (by omega) (by omega) (by rw [e0]; exact hRA) (by rw [e0, e2]; exact hA1)
          rw [e0, e2, show ((0 : Nat) : Int) = 0 from rfl, show ((2 * k : Nat) : Int) = 2 * (k : Int) from by omega] at h11
          have HH := Lib.hid h11; clear h11
          have HG := Lib.hid hG; clear hG
          have HBB := Lib.hid hB; clear hB
          have HOK := Lib.hid hok; clear hok
          have HE0 := Lib.hid e0; clear e0
          have HE2 := Lib.hid e2; clear e2
          have HL0 := Lib.hid hl0; clear hl0
          have HA2 := Lib.hid hA2; clear hA2
          have HB1 := Lib.hid hB1; clear hB1
          have HB2 := Lib.hid hB2; clear hB2
          have HRB := Lib.hid hRB; clear hRB
          clear hA1 hRA
          go_wp2_with fail
          refine HH.out.mono ?_
          rintro e w5 ⟨vA, rfl, hB5, hoA⟩
          obtain ⟨aA, cA, rfl⟩ := own_form hoA
          rw [HA2.out]
          have hg5 := HG.out.below' hB5
          have d0 := (hB5.cell (p := ⟨gb, 0, none⟩) hgl).trans c0
          have d1 := (hB5.cell (p := ⟨gb, 1, none⟩) hgl).trans c1
          have d2 := (hB5.cell (p := ⟨gb, 2, none⟩) hgl).trans c2
          have h11 := Front11 (R := RB) (x := (0, lB)) hC (2 * k) 0 w5 hg5 HOK.out (by have := HL0.out; omega) (by have := HL0.out; omega) (by rw [HE2.out]; exact HRB.out) (by rw [HE0.out, HE2.out]; exact HB1.out)
          rw [HE0.out, HE2.out, show ((0 : Nat) : Int) = 0 from rfl, show ((2 * k : Nat) : Int) = 2 * (k : Int) from by omega] at h11
          have HH2 := Lib.hid h11; clear h11
          have hs5 := hB5.size
          have HB5 := Lib.hid hB5; clear hB5
          clear c0 c1 c2 hoA HH hg5
          go_wp2_with fail
          refine HH2.out.mono ?_
          rintro e w6 ⟨vB, rfl, hB6, hoB⟩
          obtain ⟨aB, cB, rfl⟩ := own_form hoB
          rw [HB2.out]
          have hBB : Below w.heap.size w w6 := by
            have h1 := HBB.out
            rw [← HGB.out] at h1
            have h2 := h1.size
            exact (h1.trans (HB5.out.mono (by omega))).trans (hB6.mono (by omega))
          have HB6 := Lib.hid hBB; clear hBB
          clear d0 d1 d2 hoB HH2 hB6 HB5
          by_cases h6 : 6 < k
          · have h6' : (6 : Int) < (k : Int) := by omega
            have hl : lenOf k = (7, 0) := by unfold lenOf; rw [if_pos h6]
            rw [hl]
            simp only
            go_wp2_with (go_at_call 12; refine (awake12 hC _).mono ?_; rintro e w7 ⟨rfl, hB7⟩)
            go_ret
            have h2 := HB6.out.size
            exact ⟨rfl, HB6.out.trans (hB7.mono h2)⟩
          · have h6' : ¬ ((6 : Int) < (k : Int)) := by omega
            have hl : lenOf k = (0, 2 ^ k) := by unfold lenOf; rw [if_neg h6]
            rw [hl]
            simp only
            obtain ⟨p, hp, hp9⟩ : ∃ p : Nat, 2 ^ k = p ∧ p ≤ 256 := ⟨2 ^ k, rfl, by
              have : 2 ^ k ≤ 2 ^ 8 := Nat.pow_le_pow_right (by omega) (by omega)
              omega⟩
            have hsh : ((p : Int) == wrap64 ((2 : Int) ^ k)) = true := by
              have e1 : ((2 : Int) ^ k) = (p : Int) := by rw [← hp]; simp
              rw [e1, IntWalk.wrap64_in _ ⟨by omega, by omega⟩]; simp
            rw [hp]
            have HP := Lib.hid hp; clear hp
            go_wp2_with (go_at_call 12; refine (awake12 hC _).mono ?_; rintro e w7 ⟨rfl, hB7⟩)
            go_ret
            have h2 := HB6.out.size
            exact ⟨rfl, HB6.out.trans (hB7.mono h2)⟩
end Go.Proofs.Ythllmpgffdocmaa
