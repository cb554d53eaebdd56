/-
  Walks over the heap's methods Lower, take, Pop.
-/
import Derived.Test.YthllmpgffdocmaaB3
import Derived.Test.YthllmpgffdocmaaB5
namespace Go.Proofs.Ythllmpgffdocmaa
open Go.RowKit Go.Deep

def takeP (base hb : Nat) (v : Value) (w : World) (R : Hp) (e : Ending) (w' : World) : Prop :=
  (∃ x, e = .returned x) ∧ ∃ v', HeapAt w' base hb v' R ∧ Tch (heapS hb v) w w' ∧ v'.ownBlock = v.ownBlock

theorem HeapAt.setOther {w : World} {base hb : Nat} {v : Value} {H : Hp} (h : HeapAt w base hb v H) {a : Addr} (h1 : a.block ≠ hb) (h2 : v.ownBlock ≠ some a.block) (u : Value) : HeapAt (w.setCell a u) base hb v H :=
  ⟨h.ok, h.row.setOther (Ne.symm h1) u, ownsRow_setCell_other h.own h2 u, h.ne, h.small⟩
theorem HeapAt.alloc {w : World} {base hb : Nat} {v : Value} {H : Hp} (h : HeapAt w base hb v H) (o : Obj) : HeapAt (w.alloc o) base hb v H := h.below' ((Below.refl _ _).alloc (Nat.le_refl _) o)
theorem HeapAt.drew {w : World} {base hb : Nat} {v : Value} {H : Hp} (h : HeapAt w base hb v H) : HeapAt w.drew base hb v H := h.dr (Dr.refl _).drew
theorem taken {w : World} {base hb g n cap : Nat} {S : Hp} (h : HeapAt w base hb (.slice (some ⟨g, 0, none⟩) (n + 1) cap) S) (hl : S.list.length = n + 1) (m : Nat) (hm : m < 128) :
    HeapAt ((w.setCell ⟨hb, 0, none⟩ (.slice (some ⟨g, 0, none⟩) n cap)).setCell ⟨hb, 1 + m, none⟩ (.int .i64 0)) base hb (.slice (some ⟨g, 0, none⟩) n cap) { list := S.list.take n, ats := S.ats.set m 0 } := by
  have hne : g ≠ hb := fun e => h.ne (by simp [Value.ownBlock, e])
  have hsm := h.small
  have hok := h.ok
  refine ⟨⟨fun e he => hok.1 e (List.mem_of_mem_take he), by simp [hok.2]⟩, ?_, ?_, fun e => hne (by simpa [Value.ownBlock] using e), by simp; omega⟩
  · refine (((h.row.set 0 (.slice (some ⟨g, 0, none⟩) n cap)).set (1 + m) (.int .i64 0))).congr ?_
    intro x _
    show (if x = 1 + m then Value.int .i64 0 else if x = 0 then _ else heapRow _ S x) = _
    by_cases hx : x = 0
    · subst hx; rw [if_neg (by omega), if_pos rfl]; simp [heapRow]
    · simp only [heapRow, Hp.atv, if_neg hx]
      rw [getD_set _ _ _ _ (by rw [hok.2]; omega)]
      by_cases e : x = 1 + m
      · rw [if_pos e, if_pos (show x - 1 = m by omega)]; simp
      · rw [if_neg e, if_neg (show ¬ x - 1 = m by omega)]
  · have e1 : (S.list.take n).length = n := by simp; omega
    have e2 : flatE S.list = flatE (S.list.take n) ++ flatE (S.list.drop n) := by simp [flatE, ← List.flatMap_append]
    have o := h.own
    rw [hl, e2] at o
    have o2 := ownsRow_pop (by rw [flatE_length, e1]) o
    have o3 := ownsRow_setCell_other (ownsRow_setCell_other o2 (a := ⟨hb, 0, none⟩) (fun e => hne (by simpa [Value.ownBlock] using e)) (.slice (some ⟨g, 0, none⟩) n cap)) (a := ⟨hb, 1 + m, none⟩) (fun e => hne (by simpa [Value.ownBlock] using e)) (.int .i64 0)
    rw [show ({ list := S.list.take n, ats := S.ats.set m 0 } : Hp).list.length = n from e1]
    exact o3

set_option maxHeartbeats 2000000 in
set_option maxRecDepth 100000 in
theorem take83 {base hb : Nat} {v : Value} {H : Hp} (w : World) (h : HeapAt w base hb v H) (hn : 0 < H.list.length) :
    Calls Try.prog 83 #[.pointer (some ⟨hb, 0, none⟩), .int .i64 0] w (takeP base hb v w (takeH H)) := by
  obtain ⟨n, hL⟩ : ∃ n, H.list.length = n + 1 := ⟨H.list.length - 1, by omega⟩
  obtain ⟨g, cap, hv, hg, hne, hc, hm⟩ := h.form hn
  rw [hL] at hv
  have c0 := h.lst
  rw [hv] at c0
  have hsm := h.small
  have hn40 : n < 4096 := by omega
  have hlt := h.row.lt
  have sw := fun (w1 : World) (hA : HeapAt w1 base hb v H) => swap100 0 (n : Int) w1 hA (by omega) (by omega) (by omega) (by omega)
  rw [Int.toNat_natCast] at sw
  have HL := Lib.hid hL; clear hL
  have HV := Lib.hid hv; clear hv
  clear hn hsm hc hm
  go_enter Try.func83, Try.ntmps83
  go_wp2_with fail
  have hA1 : HeapAt (w.alloc (.cells #[.int .i64 0, .int .i64 0] 135)) base hb v H := h.below' ((Below.refl _ _).alloc (Nat.le_refl _) _)
  refine (sw _ hA1).mono ?_
  rintro e w2 ⟨rfl, hA2, hT2⟩
  rw [Int.toNat_zero] at hA2
  have hL2 : (swapH H 0 n).list.length = n + 1 := by rw [swapH_len, HL.out]
  generalize hS : swapH H 0 n = S at *
  have HS := Lib.hid hS; clear hS
  have hA2' := hA2
  rw [HV.out, ← hL2] at hA2'
  have k0 := hA2.lst
  rw [HV.out] at k0
  have k1 := hA2'.ent0 (i := n) (by omega)
  have k2 := hA2'.ent1 (i := n) (by omega)
  have hm := hA2.ok.ent n
  have k3 := hA2.at1 hm
  have f2 : ∀ o, w2.frozen? ⟨hb, o, none⟩ = false := fun o => hA2.row.frozen o
  have hlt2 := hA2.row.lt
  have hg2 : g < w2.heap.size := by have := hT2.size; simp at this; omega
  have hr2 : w.heap.size < w2.heap.size := by have := hT2.size; simp at this; omega
  have nS : ¬ heapS hb v w.heap.size := by
    intro hS
    rcases hS with hS | hS
    · omega
    · rw [HV.out] at hS; simp [Value.ownBlock] at hS; omega
  have r0 : w2.cell? ⟨w.heap.size, 0, none⟩ = some (.int .i64 0) := by rw [hT2.cell (p := ⟨w.heap.size, 0, none⟩) (by simp) nS]; simp
  have r1 : w2.cell? ⟨w.heap.size, 1, none⟩ = some (.int .i64 0) := by rw [hT2.cell (p := ⟨w.heap.size, 1, none⟩) (by simp) nS]; simp
  have rf : ∀ o, w2.frozen? ⟨w.heap.size, o, none⟩ = false := fun o => by rw [hT2.frozen (p := ⟨w.heap.size, o, none⟩) (by simp) nS]; simp
  generalize hx : S.ent n = x at *
  have hkk : x.2 < 128 := hm
  obtain ⟨xk, xn⟩ := x
  simp only at k1 k2 k3 hkk hm
  generalize hat : S.atv xn = at0 at *
  have hcap : n < cap + 1 := by
    rcases hA2'.own.2 with ⟨h1, _⟩ | ⟨g', cap', cur, h1, _, _, hc, _⟩
    · cases h1
    · simp only [Value.slice.injEq] at h1; omega
  have hcap2 : n + 1 ≤ cap := by
    rcases hA2'.own.2 with ⟨h1, _⟩ | ⟨g', cap', cur, h1, _, _, hc, _⟩
    · cases h1
    · simp only [Value.slice.injEq] at h1; omega
  have hnhb : ¬ w.heap.size = hb := by omega
  have hnhb' : ¬ hb = w.heap.size := by omega
  have HX := Lib.hid hx; clear hx
  have HAT := Lib.hid hat; clear hat
  have HL2 := Lib.hid hL2; clear hL2
  go_wp2_with fail
  go_region
  have hA2v := hA2
  rw [HV.out] at hA2v
  have hT0 := taken hA2v HL2.out xn hm
  have hA3 := (hT0.alloc (.cells #[.int .i64 (xk : Int), .int .i64 (xn : Int)] 135)).drew
  have hTw : Tch (heapS hb v) w w2 := (((Tch.refl _ _).alloc _).trans hT2 (fun n hn f => f))
  have hTw2 : Tch (heapS hb v) w ((w2.setCell ⟨hb, 0, none⟩ (.slice (some ⟨g, 0, none⟩) n cap)).setCell ⟨hb, 1 + xn, none⟩ (.int .i64 0)) := (hTw.setCell (Or.inl (Or.inl rfl)) _).setCell (Or.inl (Or.inl rfl)) _
  have hT3 := (hTw2.alloc (.cells #[.int .i64 (xk : Int), .int .i64 (xn : Int)] 135)).drew
  have hown3 : (Value.slice (some ⟨g, 0, none⟩) n cap).ownBlock = v.ownBlock := by rw [HV.out]; rfl
  have hS3 : ∀ x, heapS hb (Value.slice (some ⟨g, 0, none⟩) n cap) x → heapS hb v x := by
    intro x hx
    rcases hx with hx | hx
    · exact Or.inl hx
    · exact Or.inr (by rw [← hown3]; exact hx)
  have gr : (Value.slice (some ⟨g, 0, none⟩) n cap).ownBlock ≠ some w.heap.size := by simp [Value.ownBlock]; omega
  by_cases hz : n = 0
  · have hres : takeH H = { list := S.list.take n, ats := S.ats.set xn 0 } := by
      unfold takeH
      rw [HL.out, hz]
      rw [hz] at HS HX
      simp only [Nat.zero_add, Nat.sub_self, HS.out, HX.out]
      simp
    have HRES := Lib.hid hres; clear hres
    subst hz
    go_wp2_with fail
    refine bodyPost_ret (v := .agg #[.int .i64 (xk : Int), .int .i64 (xn : Int)]) (by simp [results, Try.results83, go_sem, r0, r1, hr2]) rfl ?_
    refine ⟨⟨_, rfl⟩, _, ?_, ?_, hown3⟩
    · rw [HRES.out]
      exact (((hT0.setOther (a := ⟨w.heap.size, 0, none⟩) hnhb gr _).setOther (a := ⟨w.heap.size, 1, none⟩) hnhb gr _).alloc _).drew
    · exact (((hTw2.setCell (p := ⟨w.heap.size, 0, none⟩) (Or.inr (Nat.le_refl _)) _).setCell (p := ⟨w.heap.size, 1, none⟩) (Or.inr (Nat.le_refl _)) _).alloc _).drew
  · have hz1 : 0 < n := by omega
    have hz2 : (0 : Int) < (n : Int) := by omega
    have hres : takeH H = downF n { list := S.list.take n, ats := S.ats.set xn 0 } 0 := by
      unfold takeH
      rw [HL.out]
      simp only [Nat.add_sub_cancel, HS.out, HX.out]
      rw [if_pos hz1]
      have e1 : (S.list.take n).length = n := by simp [HL2.out]
      simp only [e1]
      rfl
    have HRES := Lib.hid hres; clear hres
    have e1 : (S.list.take n).length = n := by simp [HL2.out]
    generalize hRR : ({ list := S.list.take n, ats := S.ats.set xn 0 } : Hp) = RR at *
    have hRL : RR.list.length = n := by rw [← hRR]; exact e1
    have HRL := Lib.hid hRL
    clear hRL hRR e1
    go_wp2_with fail
    have hu := up81 0 _ hA3 (by omega) (by rw [HRL.out]; omega)
    refine hu.mono ?_
    rintro e w4 ⟨rfl, hA4, hT4⟩
    have hA4 : HeapAt w4 base hb (Value.slice (some ⟨g, 0, none⟩) n cap) RR := hA4
    go_wp2_with fail
    have hd := down101 0 _ hA4 (by omega) (by rw [HRL.out]; omega)
    rw [HRL.out] at hd
    refine hd.mono ?_
    rintro e w5 ⟨rfl, hA5, hT5⟩
    rw [Int.toNat_zero] at hA5
    have hT45 := hT4.trans hT5 (fun n hn f => f)
    have sz4 : ((((w2.setCell ⟨hb, 0, none⟩ (.slice (some ⟨g, 0, none⟩) n cap)).setCell ⟨hb, 1 + xn, none⟩ (.int .i64 0)).alloc (.cells #[.int .i64 (xk : Int), .int .i64 (xn : Int)] 135)).drew).heap.size = w2.heap.size + 1 := by simp
    have n1 : ¬ heapS hb (Value.slice (some ⟨g, 0, none⟩) n cap) w2.heap.size := by
      intro hS; rcases hS with hS | hS
      · omega
      · simp [Value.ownBlock] at hS; omega
    have n2 : ¬ heapS hb (Value.slice (some ⟨g, 0, none⟩) n cap) w.heap.size := fun hS => nS (hS3 _ hS)
    have x0 : w5.cell? ⟨w2.heap.size, 0, none⟩ = some (.int .i64 (xk : Int)) := by rw [hT45.cell (p := ⟨w2.heap.size, 0, none⟩) (by rw [sz4]; simp) n1]; simp [go_sem]
    have x1 : w5.cell? ⟨w2.heap.size, 1, none⟩ = some (.int .i64 (xn : Int)) := by rw [hT45.cell (p := ⟨w2.heap.size, 1, none⟩) (by rw [sz4]; simp) n1]; simp [go_sem]
    have y0 : w5.cell? ⟨w.heap.size, 0, none⟩ = some (.int .i64 0) := by rw [hT45.cell (p := ⟨w.heap.size, 0, none⟩) (by rw [sz4]; simp; omega) n2]; simp [go_sem, hr2, r0]
    have y1 : w5.cell? ⟨w.heap.size, 1, none⟩ = some (.int .i64 0) := by rw [hT45.cell (p := ⟨w.heap.size, 1, none⟩) (by rw [sz4]; simp; omega) n2]; simp [go_sem, hr2, r1]
    have yf : ∀ o, w5.frozen? ⟨w.heap.size, o, none⟩ = false := fun o => by rw [hT45.frozen (p := ⟨w.heap.size, o, none⟩) (by rw [sz4]; simp; omega) n2]; simp [go_sem, hr2, rf]
    clear hA1 hA2 hA2' hA2v hA3 hT0 hT2 hT4 hT5 k0 k1 k2 k3 r0 r1 rf f2 c0 sw hu hd hA4
    go_wp2_with fail
    refine bodyPost_ret (v := .agg #[.int .i64 (xk : Int), .int .i64 (xn : Int)]) (by simp [results, Try.results83, go_sem, y0, y1]) rfl ?_
    refine ⟨⟨_, rfl⟩, _, ?_, ?_, hown3⟩
    · rw [HRES.out]
      exact (hA5.setOther (a := ⟨w.heap.size, 0, none⟩) hnhb gr _).setOther (a := ⟨w.heap.size, 1, none⟩) hnhb gr _
    · exact ((hT3.trans hT45 (fun n hn f => hS3 _ f)).setCell (p := ⟨w.heap.size, 0, none⟩) (Or.inr (Nat.le_refl _)) _).setCell (p := ⟨w.heap.size, 1, none⟩) (Or.inr (Nat.le_refl _)) _

def popP (base hb : Nat) (v : Value) (w : World) (H : Hp) (e : Ending) (w' : World) : Prop :=
  ∃ v', HeapAt w' base hb v' (takeH H) ∧ Tch (heapS hb v) w w' ∧ v'.ownBlock = v.ownBlock ∧ e = .returned (.tuple #[.int .i64 (H.ent 0).2, .int .i64 (H.ent 0).1, .int .i64 0])
set_option maxHeartbeats 1000000 in
theorem Pop55 {base hb : Nat} {v : Value} {H : Hp} (w : World) (h : HeapAt w base hb v H) (hn : 0 < H.list.length) : Calls Try.prog 55 #[.pointer (some ⟨hb, 0, none⟩)] w (popP base hb v w H) := by
  have hne : H.list ≠ [] := fun e => by rw [e] at hn; simp at hn
  have ht := Top82 w h
  unfold topP at ht
  rw [if_neg hne] at ht
  have hk := fun (w1 : World) (d : Dr w w1) => take83 w1 (h.dr d) hn
  have HT := Lib.hid ht; clear ht
  have HK := Lib.hid hk; clear hk
  clear h hne hn
  go_enter Try.func55, Try.ntmps55
  go_wp2_with fail
  refine HT.out.mono ?_
  rintro e w1 ⟨rfl, hd⟩
  go_wp2_with fail
  refine (HK.out w1 hd).mono ?_
  rintro e w2 ⟨⟨x, rfl⟩, v', hA, hT, hv⟩
  go_wp2_with fail
  go_ret3
  exact ⟨v', hA, (Tch.refl _ _ |>.dr hd).trans hT (fun n hn f => f), hv, rfl⟩
def popE (w : World) (e : Ending) (w' : World) : Prop := Dr w w' ∧ e = .returned (.tuple #[.int .i64 0, .int .i64 0, .int .i64 8])
set_option maxHeartbeats 1000000 in
theorem Pop55e {base hb : Nat} {v : Value} {H : Hp} (w : World) (h : HeapAt w base hb v H) (hn : H.list = []) : Calls Try.prog 55 #[.pointer (some ⟨hb, 0, none⟩)] w (popE w) := by
  have ht := Top82 w h
  unfold topP at ht
  rw [if_pos hn] at ht
  have HT := Lib.hid ht; clear ht
  clear h hn
  go_enter Try.func55, Try.ntmps55
  go_wp2_with fail
  refine HT.out.mono ?_
  rintro e w1 ⟨rfl, hd⟩
  go_wp2_with fail
  go_ret3
  exact ⟨hd, rfl⟩

def lowerP (base hb : Nat) (v : Value) (w : World) (R : Hp) (e : Ending) (w' : World) : Prop :=
  (∃ x, e = .returned x) ∧ HeapAt w' base hb v R ∧ Tch (heapS hb v) w w'
set_option maxHeartbeats 1000000 in
/-- Lower, of a node that is there under a greater key. -/
theorem Lower57 {base hb : Nat} {v : Value} {H : Hp} (n k : Int) (w : World) (h : HeapAt w base hb v H) (n0 : 0 ≤ n) (n1 : n ≤ 127) (k0 : 0 ≤ k) (ha : H.atv n.toNat ≠ 0) (hb1 : H.atv n.toNat - 1 < H.list.length) (hk : k.toNat < (H.ent (H.atv n.toNat - 1)).1) :
    Calls Try.prog 57 #[.pointer (some ⟨hb, 0, none⟩), .int .i64 n, .int .i64 k] w (lowerP base hb v w (lowerH H n.toNat k.toNat)) := by
  obtain ⟨n, rfl⟩ := Int.eq_ofNat_of_zero_le n0
  obtain ⟨k, rfl⟩ := Int.eq_ofNat_of_zero_le k0
  rw [Int.toNat_natCast] at *
  rw [Int.toNat_natCast] at *
  obtain ⟨i, hi⟩ : ∃ i, H.atv n = i + 1 := ⟨H.atv n - 1, by omega⟩
  rw [hi, Nat.add_sub_cancel] at hk hb1
  obtain ⟨g, cap, hv, hg, hne, hc, hm⟩ := h.form (by omega)
  have hsm := h.small
  have hi40 : i < 4096 := by omega
  have c0 := h.lst
  have c1 := h.at1 (n := n) (by omega)
  rw [hi] at c1
  have c1 : w.cell? ⟨hb, 1 + n, none⟩ = some (.int .i64 ((i : Int) + 1)) := by rw [c1]; rfl
  have hv' := hv
  have h' := h
  rw [hv] at h' c0
  have c2 := h'.ent0 hb1
  have c3 := h'.ent1 hb1
  have f1 : ∀ o, w.frozen? ⟨g, o, none⟩ = false := fun o => h'.own.frozenAt o
  have hR : HeapAt (w.setCell ⟨g, i * 2, none⟩ (.int .i64 (k : Int))) base hb v { list := H.list.set i (k, (H.ent i).2), ats := H.ats } := by
    rw [hv]
    refine ⟨⟨?_, h.ok.2⟩, ?_, ?_, by rw [← hv]; exact h.ne, by simpa using h.small⟩
    · intro e he
      rcases List.mem_or_eq_of_mem_set he with he | he
      · exact h.ok.1 e he
      · rw [he]; exact h.ok.ent i
    · exact (h'.row.setOther (a := ⟨g, i * 2, none⟩) (Ne.symm hne) _).congr (fun x _ => rfl)
    · have o := (h'.own.stored (i * 2) (.int .i64 (k : Int))).1
      have e1 : flatE (H.list.set i (k, (H.ent i).2)) = (flatE H.list).set (i * 2) (.int .i64 (k : Int)) := by
        rw [flatE_set _ _ _ hb1]
        apply List.ext_getElem?
        intro j
        rw [List.getElem?_set]
        split
        · rename_i e
          subst e
          rw [List.getElem?_set_ne (by omega), flatE_get1 _ _ hb1]
          have := flatE_length H.list
          rw [if_pos (by simp; omega)]
          rfl
        · rfl
      rw [show ({ list := H.list.set i (k, (H.ent i).2), ats := H.ats } : Hp).list.length = H.list.length from by simp, e1]
      exact o
  have hT : Tch (heapS hb v) w (w.setCell ⟨g, i * 2, none⟩ (.int .i64 (k : Int))) := (Tch.refl _ _).setCell (Or.inl (Or.inr (by rw [hv]; rfl))) _
  have hdef : lowerH H n k = upF i { list := H.list.set i (k, (H.ent i).2), ats := H.ats } i := by unfold lowerH; rw [hi]; rfl
  have hu := fun (w1 : World) (d : Dr (w.setCell ⟨g, i * 2, none⟩ (.int .i64 (k : Int))) w1) => up81 (i : Int) w1 (hR.dr d) (by omega) (by simp; omega)
  rw [Int.toNat_natCast] at hu
  rw [hdef]
  generalize hRR : ({ list := H.list.set i (k, (H.ent i).2), ats := H.ats } : Hp) = RR at *
  have hkI : (k : Int) < ((H.ent i).1 : Int) := by omega
  generalize (H.ent i).1 = ek at *
  generalize (H.ent i).2 = en at *
  have HU := Lib.hid hu; clear hu
  have HI := Lib.hid hi; clear hi
  have HHT := Lib.hid hT; clear hT
  have hne' : ¬ g = hb := hne
  have hne2 : ¬ hb = g := Ne.symm hne
  have hz : ((i : Int) + 1 == 0) = false := beq_eq_false_iff_ne.2 (by omega)
  have hlt := h.row.lt
  generalize hln : H.list.length = ln at *
  clear hln hR h h' hv hv' hdef hRR ha n0 k0 hsm
  go_enter Try.func57, Try.ntmps57
  go_wp2_with (first | (go_at_call 80; refine (in80 _ _ (by omega) (by omega)).mono ?_; rintro e w' ⟨rfl, rfl⟩) | fail)
  go_region
  go_wp2_with fail
  go_region
  go_wp2_with fail
  refine (HU.out _ (Dr.refl _).drew.drew).mono ?_
  rintro e w3 ⟨rfl, hA, hT⟩
  go_wp2_with fail
  go_ret
  exact ⟨⟨_, rfl⟩, hA, HHT.out.trans (((Tch.refl _ _).drew.drew).trans hT (fun n hn f => f)) (fun n hn f => f)⟩
end Go.Proofs.Ythllmpgffdocmaa
