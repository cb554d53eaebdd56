/-
  Walks over the heap's calls New, Top, Push, Lower.
-/
import Derived.Test.YthllmpgffdocmaaB3
import Derived.Test.YthllmpgffdocmaaB4
import Derived.Deep.AppendLies
namespace Go.Proofs.Ythllmpgffdocmaa
open Go.RowKit Go.Deep

theorem Try.info135 : (Try.prog.info? 135).map (fun i => (i.zero, i.size, i.bytes)) = some (some (.agg #[.int .i64 0, .int .i64 0]), 2, 16) := by kernel_rfl

def emptyH : Hp := { list := [], ats := List.replicate 128 0 }
def newP (w : World) (e : Ending) (w' : World) : Prop :=
  e = .returned (.pointer (some ⟨w.heap.size, 0, none⟩)) ∧ HeapAt w' w.heap.size w.heap.size (.slice none 0 0) emptyH ∧ Below w.heap.size w w' ∧ w.heap.size < w'.heap.size
set_option maxHeartbeats 1000000 in
set_option maxRecDepth 100000 in
theorem New53 (w : World) : Calls Try.prog 53 #[] w (newP w) := by
  go_enter Try.func53, Try.ntmps53
  go_wp2
  go_ret
  refine ⟨rfl, ⟨⟨fun e he => by simp [emptyH] at he, by simp [emptyH]⟩, ?_, World.ownsRow_nil _ _ _ _, by simp [Value.ownBlock], by simp [emptyH]⟩, (Below.refl _ _).alloc (Nat.le_refl _) _, by simp⟩
  refine World.rowIs_alloc w _ _ _ ?_
  intro i hi
  have hi' : i < 129 := by simpa using hi
  clear hi
  have key : ∀ i, i < 129 → (heapRow (.slice none 0 0) emptyH i = if i = 0 then .slice none 0 0 else .int .i64 0) := by
    intro i hi
    unfold heapRow
    split
    · rfl
    · simp only [Hp.atv, emptyH]
      rw [List.getD_eq_getElem?_getD, List.getElem?_replicate]
      split <;> rfl
  rw [key i hi']
  match i, hi' with
  | 0, _ => rfl
  | i + 1, h =>
    rw [if_neg (by omega)]
    have all : ∀ j, j < 128 → (#[Value.slice none 0 0] ++ Array.replicate 128 (Value.int .i64 0))[j + 1]? = some (Value.int .i64 0) := by
      intro j hj
      rw [Array.getElem?_append_right (by simp)]
      simp [hj]
    exact all i (by omega)

def topP (w : World) (H : Hp) (e : Ending) (w' : World) : Prop :=
  e = .returned (.tuple (if H.list = [] then #[.int .i64 0, .int .i64 0, .int .i64 8] else #[.int .i64 (H.ent 0).2, .int .i64 (H.ent 0).1, .int .i64 0])) ∧ Dr w w'
set_option maxHeartbeats 1000000 in
theorem Top82 {base hb : Nat} {v : Value} {H : Hp} (w : World) (h : HeapAt w base hb v H) : Calls Try.prog 82 #[.pointer (some ⟨hb, 0, none⟩)] w (topP w H) := by
  have hsm := h.small
  by_cases hl : 0 < H.list.length
  · have hne : H.list ≠ [] := fun e => by rw [e] at hl; simp at hl
    unfold topP
    rw [if_neg hne]
    obtain ⟨g, cap, rfl, hg, hneq, hc, hm⟩ := h.form hl
    have c0 := h.lst
    have c1 := h.ent0 hl
    have c2 := h.ent1 hl
    simp only [Nat.zero_mul, Nat.zero_add] at c1 c2
    have hz : ((H.list.length : Int) == 0) = false := beq_eq_false_iff_ne.2 (by omega)
    generalize H.ent 0 = x at *
    generalize H.list.length = n at *
    clear hne h
    go_enter Try.func82, Try.ntmps82
    go_wp2
    go_region
    all_goals go_wp2
    all_goals go_ret3
    all_goals exact ⟨rfl, (Dr.refl _).drew⟩
  · have he : H.list = [] := List.eq_nil_of_length_eq_zero (by omega)
    unfold topP
    rw [if_pos he]
    obtain ⟨a, cap, hv⟩ := form_or h
    have c0 := h.lst
    rw [hv, he] at c0
    clear h
    go_enter Try.func82, Try.ntmps82
    go_wp2
    all_goals go_ret3
    all_goals exact ⟨rfl, Dr.refl _⟩

theorem flatE_push (l : List (Nat × Nat)) (n k : Nat) : flatE (l ++ [(k, n)]) = flatE l ++ [.int .i64 (k : Int), .int .i64 (n : Int)] := flatE_append l (k, n)
def pushP (base hb : Nat) (v : Value) (w : World) (R : Hp) (e : Ending) (w' : World) : Prop :=
  e = .returned (.int .i64 0) ∧ ∃ v', HeapAt w' base hb v' R ∧ Tch (heapS hb v) w w' ∧ (∀ k, v'.ownBlock = some k → v.ownBlock = some k ∨ w.heap.size ≤ k)
theorem heapRow_list {v v' : Value} {H H' : Hp} (h : H'.ats = H.ats) : ∀ i, (if i = 0 then v' else heapRow v H i) = heapRow v' H' i := by
  intro i; unfold heapRow Hp.atv; rw [h]; split <;> rfl

set_option maxHeartbeats 2000000 in
set_option maxRecDepth 100000 in
theorem Push54 {base hb : Nat} {v : Value} {H : Hp} (n k : Int) (w : World) (h : HeapAt w base hb v H) (hbase : base ≤ hb) (n0 : 0 ≤ n) (n1 : n ≤ 127) (k0 : 0 ≤ k) (hat : H.atv n.toNat = 0) (hroom : H.list.length < 4096) :
    Calls Try.prog 54 #[.pointer (some ⟨hb, 0, none⟩), .int .i64 n, .int .i64 k] w (pushP base hb v w (pushH H n.toNat k.toNat)) := by
  obtain ⟨n, rfl⟩ := Int.eq_ofNat_of_zero_le n0
  obtain ⟨k, rfl⟩ := Int.eq_ofNat_of_zero_le k0
  rw [Int.toNat_natCast] at *
  rw [Int.toNat_natCast]
  have hn : n < 128 := by omega
  obtain ⟨a, cap, hv⟩ := form_or h
  have c0 := h.lst
  have c1 : w.cell? ⟨hb, 1 + n, none⟩ = some (.int .i64 0) := by have e := h.at1 hn; rw [hat] at e; exact e
  have f1 : ∀ o, w.frozen? ⟨hb, o, none⟩ = false := fun o => h.row.frozen o
  have hlt := h.row.lt
  have hown := h.own
  have hrow := h.row
  have hok := h.ok
  have hne := h.ne
  obtain ⟨i0, hi, hz0, hz1, hz2⟩ := info_parts Try.info135
  generalize hL : H.list.length = len at *
  have HL := Lib.hid hL; clear hL
  clear h hat n0 k0
  have HV := Lib.hid hv
  have hrow0 := hrow
  rw [hv] at c0 hown hne hrow0
  clear hv
  go_enter Try.func54, Try.ntmps54
  go_wp2_with (first
    | (go_at_call 80; refine (in80 _ _ (by omega) (by omega)).mono ?_; rintro e w' ⟨rfl, rfl⟩)
    | (at_builtin; go_must (
       refine wpList_append_lies _ rfl _ _ 130 rfl base 135 i0 (.agg #[.int .i64 0, .int .i64 0]) 2 16 Try.underlying130 hi hz0 hz1 hz2 rfl (by decide) _ len _ rfl (hown.alloc _) ⟨w.heap.size, 0, none⟩ 1 1 [.int .i64 (k : Int), .int .i64 (n : Int)] rfl rfl ?c1 ?c2 (by decide) ?c3 ?c4 ?c5 (w.heap.size + 1) (by simp) ?_
       case c1 => exact cell_two_new _ _ _ _
       case c2 => simp [Value.oneCell']
       case c3 => unfold maxLen; omega
       case c4 => omega
       case c5 => simp; omega
       intro g cap' w1 hown' hgrow hlies hglt
       have hgr : (w.alloc (.cells #[.int .i64 (k : Int), .int .i64 (n : Int)] 135)).grownBy w1 (Value.slice a len cap).ownBlock := hgrow
       have hT1 : Tch (heapS hb (.slice a len cap)) w w1 := ((Tch.refl _ _).alloc _).grown hgr (fun k hk => Or.inl (Or.inr hk))
       have hR1 : w1.rowIs hb 133 129 (heapRow (.slice a len cap) H) := ((hrow0.alloc _).of_block (hgr.block hb (by simp; omega) (fun e => hne e.symm)))
       have d0 : w1.cell? ⟨hb, 0, none⟩ = some (.slice a len cap) := hR1.cell (i := 0) (by omega)
       have d1 : w1.cell? ⟨hb, 1 + n, none⟩ = some (.int .i64 0) := by rw [hR1.cell (i := 1 + n) (by omega), ← hrow0.cell (i := 1 + n) (by omega)]; exact c1
       have hgr2 : (Value.slice a len cap).ownBlock = some g ∨ w.heap.size ≤ g := by
         rcases hlies with h2 | h2
         · exact Or.inl h2
         · exact Or.inr (by omega)
       clear hlies
       have f1' : ∀ o, w1.frozen? ⟨hb, o, none⟩ = false := fun o => hR1.frozen o
       clear hgrow hgr hrow hrow0 hown f1 c0 c1)))
  have hgne : g ≠ hb := by
    intro e
    subst e
    rcases hgr2 with h2 | h2
    · exact hne h2
    · omega
  have hA2 : HeapAt (((w1.setCell ⟨hb, 0, none⟩ (.slice (some ⟨g, 0, none⟩) (len + 1) cap')).setCell ⟨hb, 1 + n, none⟩ (.int .i64 ((len : Int) + 1))).drew) base hb (.slice (some ⟨g, 0, none⟩) (len + 1) cap') { list := H.list ++ [(k, n)], ats := H.ats.set n (len + 1) } := by
    refine ⟨⟨?_, by simp [hok.2]⟩, ?_, ?_, fun e => hgne (by simpa [Value.ownBlock] using e), by simp [HL.out]; omega⟩
    · intro e he
      rcases List.mem_append.1 he with he | he
      · exact hok.1 e he
      · simp at he; rw [he]; exact hn
    · refine (((hR1.set 0 (.slice (some ⟨g, 0, none⟩) (len + 1) cap')).set (1 + n) (.int .i64 ((len : Int) + 1))).drew).congr ?_
      intro x _
      show (if x = 1 + n then Value.int .i64 ((len : Int) + 1) else if x = 0 then _ else heapRow _ H x) = _
      by_cases hx : x = 0
      · subst hx; rw [if_neg (by omega), if_pos rfl]; simp [heapRow]
      · simp only [heapRow, Hp.atv, if_neg hx]
        rw [getD_set _ _ _ _ (by rw [hok.2]; omega)]
        by_cases e : x = 1 + n
        · rw [if_pos e, if_pos (show x - 1 = n by omega)]; simp
        · rw [if_neg e, if_neg (show ¬ x - 1 = n by omega)]
    · have o := ownsRow_setCell_other (ownsRow_setCell_other hown' (a := ⟨hb, 0, none⟩) (fun e => hgne (by simpa [Value.ownBlock] using e)) (.slice (some ⟨g, 0, none⟩) (len + 1) cap')) (a := ⟨hb, 1 + n, none⟩) (fun e => hgne (by simpa [Value.ownBlock] using e)) (.int .i64 ((len : Int) + 1))
      rw [show ({ list := H.list ++ [(k, n)], ats := H.ats.set n (len + 1) } : Hp).list.length = len + 1 from by simp [HL.out], flatE_push]
      exact ownsRow_dr ((Dr.refl _).drew) o
  have hT2 : Tch (heapS hb (.slice a len cap)) w (((w1.setCell ⟨hb, 0, none⟩ (.slice (some ⟨g, 0, none⟩) (len + 1) cap')).setCell ⟨hb, 1 + n, none⟩ (.int .i64 ((len : Int) + 1))).drew) :=
    ((hT1.setCell (Or.inl (Or.inl rfl)) _).setCell (Or.inl (Or.inl rfl)) _).drew
  go_region
  go_wp2_with fail
  have hu := up81 (len : Int) _ hA2 (by omega) (by simp [HL.out]; omega)
  rw [Int.toNat_natCast] at hu
  have hfin : pushH H n k = upF len { list := H.list ++ [(k, n)], ats := H.ats.set n (len + 1) } len := by unfold pushH; rw [HL.out]
  have HF := Lib.hid hfin; clear hfin
  clear hown' hR1 d0 d1 f1' hT1
  refine hu.mono ?_
  rintro e w3 ⟨rfl, hA3, hT3⟩
  go_wp2
  go_ret
  rw [HV.out, HF.out]
  refine ⟨rfl, _, hA3, hT2.trans hT3 ?_, ?_⟩
  · intro x hx hS
    rcases hS with hS | hS
    · exact Or.inl hS
    · simp only [Value.ownBlock, Option.some.injEq] at hS
      subst hS
      rcases hgr2 with h2 | h2
      · exact Or.inr h2
      · omega
  · intro x hx
    simp only [Value.ownBlock, Option.some.injEq] at hx
    subst hx
    exact hgr2
end Go.Proofs.Ythllmpgffdocmaa
