/-
  Walk over slices.Insert of one label within the list: with room; without room.
-/
import Derived.Test.YthllmpgffdocmaaL5
import Derived.Lib.AppendZeros
namespace Go.Proofs.Ythllmpgffdocmaa
open Go.RowKit Go.Deep

/-- The cells cs laid over C from place o on. -/
def layC (C : List Value) (o : Nat) (cs : List Value) : List Value := C.take o ++ cs ++ C.drop (o + cs.length)
theorem layC_len {C : List Value} {o : Nat} {cs : List Value} (h : o + cs.length ≤ C.length) : (layC C o cs).length = C.length := by simp [layC]; omega
theorem shiftC {C X T : List Value} {n i : Nat} (hC : C.take (n * 2) = X) (hX : X.length = n * 2) (hT : T.length = 2) (hi : i < n) (hc : (n + 1) * 2 ≤ C.length) :
    (layC (layC C ((i + 1) * 2) (X.drop (i * 2))) (i * 2) T).take ((n + 1) * 2) = X.take (i * 2) ++ (T ++ X.drop (i * 2)) := by
  have e0 : C.take (i * 2) = X.take (i * 2) := by rw [← hC, List.take_take, Nat.min_eq_left (by omega)]
  have e1 : (layC C ((i + 1) * 2) (X.drop (i * 2))).take (i * 2) = X.take (i * 2) := by
    unfold layC
    rw [List.append_assoc, List.take_append_of_le_length (by simp; omega), List.take_take, Nat.min_eq_left (by omega), e0]
  have e2 : (layC C ((i + 1) * 2) (X.drop (i * 2))).drop (i * 2 + T.length) = X.drop (i * 2) ++ C.drop ((i + 1) * 2 + (X.drop (i * 2)).length) := by
    unfold layC
    have hl : (C.take ((i + 1) * 2)).length = i * 2 + T.length := by simp; omega
    rw [List.append_assoc, ← hl, List.drop_left]
  have e3 : layC (layC C ((i + 1) * 2) (X.drop (i * 2))) (i * 2) T = X.take (i * 2) ++ (T ++ (X.drop (i * 2) ++ C.drop ((i + 1) * 2 + (X.drop (i * 2)).length))) := by
    have : layC (layC C ((i + 1) * 2) (X.drop (i * 2))) (i * 2) T = (layC C ((i + 1) * 2) (X.drop (i * 2))).take (i * 2) ++ T ++ (layC C ((i + 1) * 2) (X.drop (i * 2))).drop (i * 2 + T.length) := rfl
    rw [this, e1, e2, List.append_assoc]
  rw [e3, ← List.append_assoc T, ← List.append_assoc (X.take (i * 2))]
  rw [List.take_append_of_le_length (by simp; omega), List.take_of_length_le (by simp; omega)]
theorem growC {C X T : List Value} {n i : Nat} (hC : C.take (i * 2) = X.take (i * 2)) (hX : X.length = n * 2) (hT : T.length = 2) (hi : i < n) (hc : (n + 1) * 2 ≤ C.length) :
    (layC (layC C (i * 2) T) ((i + 1) * 2) (X.drop (i * 2))).take ((n + 1) * 2) = X.take (i * 2) ++ (T ++ X.drop (i * 2)) := by
  have hl : (C.take (i * 2) ++ T).length = (i + 1) * 2 := by simp; omega
  have e1 : (layC C (i * 2) T).take ((i + 1) * 2) = X.take (i * 2) ++ T := by
    unfold layC
    rw [← hl, List.take_left, hC]
  have e3 : layC (layC C (i * 2) T) ((i + 1) * 2) (X.drop (i * 2)) = X.take (i * 2) ++ T ++ X.drop (i * 2) ++ (layC C (i * 2) T).drop ((i + 1) * 2 + (X.drop (i * 2)).length) := by
    have : layC (layC C (i * 2) T) ((i + 1) * 2) (X.drop (i * 2)) = (layC C (i * 2) T).take ((i + 1) * 2) ++ X.drop (i * 2) ++ (layC C (i * 2) T).drop ((i + 1) * 2 + (X.drop (i * 2)).length) := rfl
    rw [this, e1]
  rw [e3, List.take_append_of_le_length (by simp; omega), List.take_of_length_le (by simp; omega), List.append_assoc]

theorem flatL_take (xs : List Lb) : ∀ i, (xs.flatMap lbC).take (i * 2) = (xs.take i).flatMap lbC := by
  induction xs with
  | nil => intro i; simp
  | cons a l ih =>
    intro i
    cases i with
    | zero => simp
    | succ i =>
      rw [List.take_succ_cons, List.flatMap_cons, List.flatMap_cons, ← ih i, show (i + 1) * 2 = i * 2 + 1 + 1 by omega]
      simp [lbC]
theorem flatL_drop (xs : List Lb) : ∀ i, (xs.flatMap lbC).drop (i * 2) = (xs.drop i).flatMap lbC := by
  induction xs with
  | nil => intro i; simp
  | cons a l ih =>
    intro i
    cases i with
    | zero => simp
    | succ i =>
      rw [List.drop_succ_cons, List.flatMap_cons, ← ih i, show (i + 1) * 2 = i * 2 + 1 + 1 by omega]
      simp [lbC]
theorem flatL_len (xs : List Lb) : (xs.flatMap lbC).length = xs.length * 2 := flatMap_len lbC 2 (fun _ => rfl) xs
theorem flatL_one (xs : List Lb) : ∀ v ∈ xs.flatMap lbC, v.oneCell' = true := by
  intro v hv
  obtain ⟨l, _, hl⟩ := List.mem_flatMap.1 hv
  simp [lbC] at hl
  rcases hl with rfl | rfl <;> rfl
/-- t laid in at place i. -/
def insL (xs : List Lb) (i : Nat) (t : Lb) : List Lb := xs.take i ++ t :: xs.drop i
theorem insL_flat (xs : List Lb) (i : Nat) (t : Lb) : (insL xs i t).flatMap lbC = (xs.flatMap lbC).take (i * 2) ++ (lbC t ++ (xs.flatMap lbC).drop (i * 2)) := by
  rw [flatL_take, flatL_drop]; simp [insL]
theorem insL_len (xs : List Lb) (i : Nat) (t : Lb) (hi : i ≤ xs.length) : (insL xs i t).length = xs.length + 1 := by
  simp [insL]; omega
theorem insL_ok {xs : List Lb} {i : Nat} {t : Lb} (h : ∀ x ∈ xs, x.ok) (ht : t.ok) : ∀ x ∈ insL xs i t, x.ok := by
  intro x hx
  rcases List.mem_append.1 hx with hx | hx
  · exact h x (List.mem_of_mem_take hx)
  · rcases List.mem_cons.1 hx with hx | hx
    · rw [hx]; exact ht
    · exact h x (List.mem_of_mem_drop hx)

theorem Tch.setRow {S : Nat → Prop} {a b : World} (h : Tch S a b) {g : Nat} (hp : S g ∨ a.heap.size ≤ g) (cs : Array Value) : Tch S a (b.setRow g cs) :=
  h.trans (T := fun k => k = g) ⟨rfl, rfl, rfl, by simp, fun k _ hk => setRow_other _ _ _ _ hk⟩
    (fun n hn e => by subst e; rcases hp with h | h; exact h; omega)

/-- What stands when the row is whole. -/
theorem insP_row {base : Nat} {v : Value} {xs : List Lb} {i : Nat} {t : Lb} {w w1 : World} {g cap : Nat} {cur : Array Value} (hi : i < xs.length) (hok : ∀ x ∈ xs, x.ok) (ht : t.ok)
    (hg : base ≤ g) (hh : w1.heap[g]? = some (.cells cur 71 (0, 0))) (hcap : xs.length + 1 ≤ cap) (hm : cap ≤ maxLen) (hsz : cur.size = cap * 2)
    (hcur : cur.toList.take ((xs.length + 1) * 2) = (xs.flatMap lbC).take (i * 2) ++ (lbC t ++ (xs.flatMap lbC).drop (i * 2)))
    (hT : Tch (fun k => v.ownBlock = some k) w w1) (hgo : v.ownBlock = some g ∨ w.heap.size ≤ g) :
    insP base v w (insL xs i t) (.returned (.slice (some ⟨g, 0, none⟩) (xs.length + 1) cap)) w1 := by
  have hl := insL_len xs i t (by omega)
  refine ⟨_, rfl, ⟨⟨?_, ?_⟩, insL_ok hok ht⟩, hT, ?_⟩
  · rw [flatL_len]
  · exact Or.inr ⟨g, cap, cur, by rw [hl], hg, hh, by omega, hm, hsz, by rw [hl, insL_flat]; exact hcur⟩
  · intro k hk
    simp only [Value.ownBlock, Option.some.injEq] at hk
    subst hk
    exact hgo

theorem ov89 (w : World) (vb b off lb cb : Nat) (cs cur : Array Value) (hv : w.heap[vb]? = some (.cells cs 71 (0, 0))) (hb : w.heap[b]? = some (.cells cur 71 (0, 0))) (hc : cur.size ≠ 0) (hne : vb ≠ b) :
    (callFunc 89 #[.slice (some ⟨vb, 0, none⟩) 1 1, .slice (some ⟨b, off, none⟩) lb cb]).run Try.prog w = .ok (.value (.bool false)) w := by
  rw [run_callFunc_extern (P := Try.prog) (f := 89) Try.func89 (by kernel_rfl) (by kernel_rfl) (by kernel_rfl) (e := Extern.SlicesOverlaps.overlaps #[93, 93] #[4]) (by kernel_rfl),
    Lib.run_overlaps_apart (P := Try.prog) w 93 4 71 Try.underlying93 2 (fun w => by kernel_rfl) ⟨vb, 0, none⟩ ⟨b, off, none⟩ 1 1 lb cb hne 71 71 cs.size cur.size (by simp [World.shape?, hv]) (by simp [World.shape?, hb]) hc (by simp [World.frozen?, hv]) (by simp [World.frozen?, hv])]
  rfl

set_option maxHeartbeats 4000000 in
set_option maxRecDepth 100000 in
theorem Insert_shift {base : Nat} {xs : List Lb} (t : Lb) (i : Nat) (w : World) (b c : Nat) (cur : Array Value) (hi : i < xs.length) (hok : ∀ x ∈ xs, x.ok) (ht : t.ok) (hbb : base ≤ b)
    (hh : w.heap[b]? = some (.cells cur 71 (0, 0))) (hroom : xs.length + 1 ≤ c) (hm : c ≤ maxLen) (hsz : cur.size = c * 2) (hcur : cur.toList.take (xs.length * 2) = xs.flatMap lbC)
    (vb : Nat) (hvb : w.heap[vb]? = some (.cells #[.complex .f64 (fN t.c) (fN t.d), .int .i64 (t.n : Int)] 71 (0, 0))) (hne : vb ≠ b) :
    Calls Try.prog 73 #[.slice (some ⟨b, 0, none⟩) xs.length c, .int .i64 (i : Int), .slice (some ⟨vb, 0, none⟩) 1 1] w (insP base (.slice (some ⟨b, 0, none⟩) xs.length c) w (insL xs i t)) := by
  have hov := fun off lb cb => ov89 w vb b off lb cb _ cur hvb hh (by omega) hne
  have hX := flatL_len xs
  have h1X := flatL_one xs
  have hm2 := hm
  unfold maxLen at hm
  generalize hXX : xs.flatMap lbC = X at *
  have hcl : (xs.length + 1) * 2 ≤ cur.toList.length := by simp; omega
  have hdl : (X.drop (i * 2)).length = (xs.length - i) * 2 := by simp [hX]; omega
  have hzi : (Try.prog.info? 71).map (·.size) = some 2 := by kernel_rfl
  have hfin := shiftC (T := lbC t) hcur hX rfl hi hcl
  have hl1 : ((i + 1) * 2 + (X.drop (i * 2)).length) ≤ cur.toList.length := by omega
  have hlay1 := layC_len (cs := X.drop (i * 2)) hl1
  obtain ⟨C1, hC1⟩ : ∃ C1, C1 = layC cur.toList ((i + 1) * 2) (X.drop (i * 2)) := ⟨_, rfl⟩
  obtain ⟨C2, hC2⟩ : ∃ C2, C2 = layC C1 (i * 2) (lbC t) := ⟨_, rfl⟩
  have hcp1 : ∀ (W : World), W.heap = w.heap → ∀ ty dc sc, (Builtin.copy_ #[93, 93] ty #[.slice (some ⟨b, (i + 1) * 2, none⟩) (xs.length - i) dc, .slice (some ⟨b, i * 2, none⟩) (xs.length + 1 - i) sc]).run Try.prog W = .ok (goInt (Nat.min (xs.length + 1 - i) (xs.length - i))) (W.setRow b C1.toArray) := fun W hW ty dc sc => by
    rw [hC1]
    exact run_copy_rowK (P := Try.prog) W 93 93 ty 71 2 b ((i + 1) * 2) (xs.length - i) dc ⟨b, i * 2, none⟩ (xs.length + 1 - i) sc cur 71 (X.drop (i * 2)) Try.underlying93 hzi (by rw [hW]; exact hh)
      (by rw [hdl, show Nat.min (xs.length + 1 - i) (xs.length - i) = xs.length - i from Nat.min_eq_right (by omega)])
      (fun j v hj => by
        rw [Addr.add_lit]
        simp only [World.cell?, hW, hh]
        rw [List.getElem?_drop, ← hcur, List.getElem?_take] at hj
        split at hj
        · simpa using hj
        · cases hj) (by simpa using hl1) (fun v hv => h1X v (List.mem_of_mem_drop hv))
  have hcp2 : ∀ (W : World), W.heap[b]? = some (.cells C1.toArray 71 (0, 0)) → W.heap[vb]? = w.heap[vb]? → ∀ ty dc, (Builtin.copy_ #[93, 93] ty #[.slice (some ⟨b, i * 2, none⟩) (xs.length + 1 - i) dc, .slice (some ⟨vb, 0, none⟩) 1 1]).run Try.prog W = .ok (goInt 1) (W.setRow b C2.toArray) := fun W hW hWv ty dc => by
    have e1 : Nat.min 1 (xs.length + 1 - i) = 1 := Nat.min_eq_left (by omega)
    have := run_copy_rowK (P := Try.prog) W 93 93 ty 71 2 b (i * 2) (xs.length + 1 - i) dc ⟨vb, 0, none⟩ 1 1 C1.toArray 71 (lbC t) Try.underlying93 hzi hW
      (by rw [e1]; rfl) (World.news_of_block (hWv.trans hvb)) (by rw [lbC_len, hC1]; simp only [List.size_toArray, hlay1]; omega) (by simp [lbC, Value.oneCell'])
    rw [e1] at this
    rw [hC2]
    exact this
  rw [← hC1, ← hC2] at hfin
  rw [← hC1] at hlay1
  have hlay2 : C2.length = c * 2 := by rw [hC2, layC_len (by rw [hlay1, lbC_len]; omega), hlay1]; simp [hsz]
  have HC1 := Lib.hid hC1; clear hC1
  have HC2 := Lib.hid hC2; clear hC2
  have HF := Lib.hid hfin; clear hfin
  have HL1 := Lib.hid hlay1; clear hlay1
  have HL2 := Lib.hid hlay2; clear hlay2
  have HX := Lib.hid hXX; clear hXX
  have HH := Lib.hid hh
  have HV := Lib.hid hvb
  have HS := Lib.hid hsz; clear hsz
  have HCU := Lib.hid hcur; clear hcur
  have HXL := Lib.hid hX; clear hX
  have HDL := Lib.hid hdl; clear hdl
  have H1 := Lib.hid hcp1; clear hcp1
  have H2 := Lib.hid hcp2; clear hcp2
  clear hh hvb hzi
  go_enter Try.func73, Try.ntmps73
  go_wp2_with fail
  clear hov
  have hw1 : IntKind.i64.wrap ((i : Int) + 1) = (i : Int) + 1 := by rw [IntKind.wrap_i64]; omega
  have hb1 : (0 : Int) ≤ (i : Int) + 1 := by omega
  have hb5 : (i : Int) + 1 ≤ (xs.length : Int) + 1 := by omega
  have htn : ((i : Int) + 1).toNat = i + 1 := by omega
  have hb2 : ¬ (c = i + 1) := by omega
  have hb3 : (i : Int) ≤ (xs.length : Int) + 1 := by omega
  have hb4 : ¬ (c = i) := by omega
  have hb6 : xs.length + 1 - (i + 1) = xs.length - i := by omega
  have h1 := H1.out w.drew rfl 3 (c - (i + 1)) (c - i)
  go_region
  clear h1
  have hW1 : (w.drew.setRow b C1.toArray).heap[b]? = some (.cells C1.toArray 71 (0, 0)) := setRow_heap w.drew b cur C1.toArray 71 (0, 0) HH.out
  have h2 := H2.out (w.drew.setRow b C1.toArray) hW1 (setRow_other w.drew b vb C1.toArray hne) 3 (c - i)
  have HW1 := Lib.hid hW1; clear hW1
  go_wp2_with fail
  go_ret
  rw [setRow_setRow]
  refine insP_row hi hok ht hbb (cur := C2.toArray) (setRow_heap w.drew b cur C2.toArray 71 (0, 0) HH.out) hroom hm2 (by simpa using HL2.out) (by rw [HX.out]; exact HF.out) (((Tch.refl (fun k => (Value.slice (some ⟨b, 0, none⟩) xs.length c).ownBlock = some k) w).drew).setRow (Or.inl rfl) _) (Or.inl rfl)

set_option maxHeartbeats 4000000 in
set_option maxRecDepth 100000 in
theorem Insert_grow {base : Nat} {xs : List Lb} (t : Lb) (i : Nat) (w : World) (b c : Nat) (cur : Array Value) (hi : i < xs.length) (hok : ∀ x ∈ xs, x.ok) (ht : t.ok) (hbase : base ≤ w.heap.size)
    (hh : w.heap[b]? = some (.cells cur 71 (0, 0))) (hnc : xs.length ≤ c) (hroom : c < xs.length + 1) (hsz : cur.size = c * 2) (hcur : cur.toList.take (xs.length * 2) = xs.flatMap lbC) (hn : xs.length < 4096)
    (vb : Nat) (hvb : w.heap[vb]? = some (.cells #[.complex .f64 (fN t.c) (fN t.d), .int .i64 (t.n : Int)] 71 (0, 0))) :
    Calls Try.prog 73 #[.slice (some ⟨b, 0, none⟩) xs.length c, .int .i64 (i : Int), .slice (some ⟨vb, 0, none⟩) 1 1] w (insP base (.slice (some ⟨b, 0, none⟩) xs.length c) w (insL xs i t)) := by
  have hX := flatL_len xs
  have h1X := flatL_one xs
  obtain ⟨i0, hi0, hz0, hz1, hz2⟩ := info_parts Try.info71
  generalize hXX : xs.flatMap lbC = X at *
  have hblt : b < w.heap.size := (Array.getElem?_eq_some_iff.1 hh).1
  have hvlt : vb < w.heap.size := (Array.getElem?_eq_some_iff.1 hvb).1
  have hdl : (X.drop (i * 2)).length = (xs.length - i) * 2 := by simp [hX]; omega
  have hzi : (Try.prog.info? 71).map (·.size) = some 2 := by kernel_rfl
  have hcellX : ∀ j v, X[j]? = some v → cur.toList[j]? = some v := fun j v hj => by
    rw [← hcur, List.getElem?_take] at hj
    split at hj
    · exact hj
    · cases hj
  have hold : (Builtin.firstCells i0.size i (.slice (some ⟨b, 0, none⟩) i c)).run Try.prog w.drew = .ok (X.take (i * 2)).toArray w.drew := by
    rw [hz1]
    exact run_firstCells_some w.drew 2 i ⟨b, 0, none⟩ i c (X.take (i * 2)) (by rw [List.length_take]; omega) (fun j v hj => by
      rw [Addr.add_lit]
      have hj2 : X[j]? = some v := by
        rw [List.getElem?_take] at hj
        split at hj
        · exact hj
        · cases hj
      have := hcellX j v hj2
      show w.cell? ⟨b, 0 + j, none⟩ = some v
      simp only [World.cell?, hh, Nat.zero_add]
      simpa using this)
  have hik : i + (xs.length + 1 - i) = xs.length + 1 := by omega
  have happ := fun ty => Lib.run_append_grow_zeros (P := Try.prog) w 93 3 ty 71 i0 _ .i64 .i64 Try.underlying93 Try.underlying3 hi0 hz0 (some ⟨b, 0, none⟩) i c (X.take (i * 2)) hold (xs.length + 1 - i) (by omega) (by omega) (by omega) (by omega) (by rw [hz2]; omega) (by rw [hz2, hik]; exact growslice_fits (by omega) (by omega))
  simp only [hik] at happ
  have hG1 : xs.length + 1 ≤ grownCap w (xs.length + 1) c 71 := grownCap_ge w _ _ _
  have hG2 : grownCap w (xs.length + 1) c 71 ≤ maxLen := grownCap_le_maxLen w (xs.length + 1) c 71 (by unfold maxLen; omega)
  generalize grownCap w (xs.length + 1) c 71 = G at *
  obtain ⟨R0, hR0⟩ : ∃ R0 : Array Value, R0 = (X.take (i * 2)).toArray ++ Builtin.zeroCells (Value.agg #[.complex .f64 0 0, .int .i64 0]).cells (xs.length + 1 - i) ++ Builtin.zeroCells (Value.agg #[.complex .f64 0 0, .int .i64 0]).cells (G - (xs.length + 1)) := ⟨_, rfl⟩
  simp only [← hR0] at happ
  have hz2c : (Value.agg #[.complex .f64 0 0, .int .i64 0]).cells.size = 2 := rfl
  have hRs : R0.size = G * 2 := by
    rw [hR0]
    simp only [Array.size_append, size_zeroCells, hz2c, List.size_toArray, List.length_take]
    omega
  have hRt : R0.toList.take (i * 2) = X.take (i * 2) := by
    rw [hR0]
    rw [Array.toList_append, Array.toList_append, List.append_assoc, List.take_append_of_le_length (by simp; omega)]
    exact List.take_of_length_le (by simp; omega)
  clear hR0
  have hl1 : i * 2 + (lbC t).length ≤ R0.toList.length := by simp [lbC, hRs]; omega
  have hlay1 := layC_len (cs := lbC t) hl1
  have hfin := growC (T := lbC t) hRt hX rfl hi (by simp; omega)
  obtain ⟨C1, hC1⟩ : ∃ C1, C1 = layC R0.toList (i * 2) (lbC t) := ⟨_, rfl⟩
  obtain ⟨C2, hC2⟩ : ∃ C2, C2 = layC C1 ((i + 1) * 2) (X.drop (i * 2)) := ⟨_, rfl⟩
  rw [← hC1, ← hC2] at hfin
  have hlay1' : C1.length = G * 2 := by rw [hC1, hlay1]; simp [hRs]
  have hlay2 : C2.length = G * 2 := by rw [hC2, layC_len (by omega), hlay1']
  clear hlay1
  have hcp1 : ∀ (W : World), W.heap[w.heap.size]? = some (.cells R0 71 (0, 0)) → W.heap[vb]? = w.heap[vb]? → ∀ ty dc, (Builtin.copy_ #[93, 93] ty #[.slice (some ⟨w.heap.size, i * 2, none⟩) (xs.length + 1 - i) dc, .slice (some ⟨vb, 0, none⟩) 1 1]).run Try.prog W = .ok (goInt 1) (W.setRow w.heap.size C1.toArray) := fun W hW hWv ty dc => by
    have e1 : Nat.min 1 (xs.length + 1 - i) = 1 := Nat.min_eq_left (by omega)
    have := run_copy_rowK (P := Try.prog) W 93 93 ty 71 2 w.heap.size (i * 2) (xs.length + 1 - i) dc ⟨vb, 0, none⟩ 1 1 R0 71 (lbC t) Try.underlying93 hzi hW
      (by rw [e1]; rfl) (World.news_of_block (hWv.trans hvb)) (by rw [lbC_len]; omega) (by simp [lbC, Value.oneCell'])
    rw [e1] at this
    rw [hC1]
    exact this
  have hcp2 : ∀ (W : World), W.heap[w.heap.size]? = some (.cells C1.toArray 71 (0, 0)) → W.heap[b]? = w.heap[b]? → ∀ ty dc sc, (Builtin.copy_ #[93, 93] ty #[.slice (some ⟨w.heap.size, (i + 1) * 2, none⟩) (xs.length - i) dc, .slice (some ⟨b, i * 2, none⟩) (xs.length - i) sc]).run Try.prog W = .ok (goInt (xs.length - i : Nat)) (W.setRow w.heap.size C2.toArray) := fun W hW hWb ty dc sc => by
    have e1 : Nat.min (xs.length - i) (xs.length - i) = xs.length - i := Nat.min_self _
    have := run_copy_rowK (P := Try.prog) W 93 93 ty 71 2 w.heap.size ((i + 1) * 2) (xs.length - i) dc ⟨b, i * 2, none⟩ (xs.length - i) sc C1.toArray 71 (X.drop (i * 2)) Try.underlying93 hzi hW
      (by rw [hdl, e1])
      (fun j v hj => by
        rw [Addr.add_lit]
        simp only [World.cell?, hWb, hh]
        rw [List.getElem?_drop] at hj
        simpa using hcellX _ _ hj) (by rw [hdl, List.size_toArray, hlay1']; omega) (fun v hv => h1X v (List.mem_of_mem_drop hv))
    rw [e1] at this
    rw [hC2]
    exact this
  have hap : ∀ ty, (Builtin.append_ #[93, 3] ty #[.slice (some ⟨b, 0, none⟩) i c, .int .i64 ((xs.length : Int) + 1 - (i : Int))]).run Try.prog w = .ok (.slice (some ⟨w.heap.size, 0, none⟩) (xs.length + 1) G) (w.drew.alloc (.cells R0 71)) := fun ty => by
    have e1 : (xs.length : Int) + 1 - (i : Int) = ((xs.length + 1 - i : Nat) : Int) := by omega
    rw [e1]
    exact happ ty
  have hnew : (w.drew.alloc (.cells R0 71)).heap[w.heap.size]? = some (.cells R0 71 (0, 0)) := heap_alloc_new w.drew _
  have hnv : ∀ k, k < w.heap.size → (w.drew.alloc (.cells R0 71)).heap[k]? = w.heap[k]? := fun k hk => Below.heap_alloc w.drew _ _ hk
  generalize hwA : w.drew.alloc (.cells R0 71) = wA at *
  have hTA : Tch (fun k => (Value.slice (some ⟨b, 0, none⟩) xs.length c).ownBlock = some k) w wA := by rw [← hwA]; exact (Tch.refl _ _).drew.alloc _
  clear hwA happ hold hi0 hz0 hz1 hz2 hzi hz2c hcellX hRt hl1 hik hh
  have HC1 := Lib.hid hC1; clear hC1
  have HC2 := Lib.hid hC2; clear hC2
  have HF := Lib.hid hfin; clear hfin
  have HL1 := Lib.hid hlay1'; clear hlay1'
  have HL2 := Lib.hid hlay2; clear hlay2
  have HX := Lib.hid hXX; clear hXX
  have HV := Lib.hid hvb; clear hvb
  have HS := Lib.hid hsz; clear hsz
  have HCU := Lib.hid hcur; clear hcur
  have HXL := Lib.hid hX; clear hX
  have HDL := Lib.hid hdl; clear hdl
  have H1 := Lib.hid hcp1; clear hcp1
  have H2 := Lib.hid hcp2; clear hcp2
  have HRS := Lib.hid hRs; clear hRs
  have HN := Lib.hid hnew; clear hnew
  have HNV := Lib.hid hnv; clear hnv
  have hm2 := hG2
  unfold maxLen at hG2
  have hz3 : (c : Int) < (xs.length : Int) + 1 := by omega
  have hGi : ¬ (G = i) := by omega
  have hGim : ¬ (G = i + 1) := by omega
  have hci : ¬ (c = i) := by omega
  have hb3 : (i : Int) ≤ (xs.length : Int) := by omega
  go_enter Try.func73, Try.ntmps73
  have h1 := H1.out wA HN.out (HNV.out vb hvlt) 3 (G - i)
  go_wp2_with (at_builtin; refine Lib.wpList_append_run _ rfl _ _ _ _ rfl _ _ rfl rfl _ _ (hap _) ?_)
  clear h1 hap
  have hnb : b ≠ w.heap.size := by omega
  have h2 := H2.out (wA.setRow w.heap.size C1.toArray).drew (setRow_heap wA w.heap.size R0 C1.toArray 71 (0, 0) HN.out) ((setRow_other wA w.heap.size b C1.toArray hnb).trans (HNV.out b hblt)) 3 (G - (i + 1)) (c - i)
  have hw1 : IntKind.i64.wrap ((i : Int) + 1) = (i : Int) + 1 := by rw [IntKind.wrap_i64]; omega
  have hb1 : (0 : Int) ≤ (i : Int) + 1 := by omega
  have hb5 : (i : Int) + 1 ≤ (xs.length : Int) + 1 := by omega
  have htn : ((i : Int) + 1).toNat = i + 1 := by omega
  have hb6 : xs.length + 1 - (i + 1) = xs.length - i := by omega
  go_region
  clear h2
  go_wp2_with fail
  go_ret
  exact insP_row hi hok ht hbase (cur := C2.toArray) (setRow_heap _ w.heap.size C1.toArray C2.toArray 71 (0, 0) (setRow_heap wA w.heap.size R0 C1.toArray 71 (0, 0) HN.out)) hG1 hm2 (by simpa using HL2.out) (by rw [HX.out]; exact HF.out) (((hTA.setRow (Or.inr (Nat.le_refl _)) _).drew).setRow (Or.inr (Nat.le_refl _)) _) (Or.inr (Nat.le_refl _))

/-- Insert at whatever place. -/
theorem Insert73 {base : Nat} {v : Value} {xs : List Lb} (t : Lb) (i : Nat) (w : World) (h : LabAt w base v xs) (ht : t.ok) (hi : i ≤ xs.length) (vb : Nat) (hvb : w.heap[vb]? = some (.cells #[.complex .f64 (fN t.c) (fN t.d), .int .i64 (t.n : Int)] 71 (0, 0))) (hne : v.ownBlock ≠ some vb) (hn : xs.length < 4096) (hb : base ≤ w.heap.size) :
    Calls Try.prog 73 #[v, .int .i64 (i : Int), .slice (some ⟨vb, 0, none⟩) 1 1] w (insP base v w (insL xs i t)) := by
  by_cases e : i = xs.length
  · subst e
    have e2 : insL xs xs.length t = xs ++ [t] := by simp [insL]
    rw [e2]
    exact Insert_end t w h ht vb hvb hn hb
  · have hok := h.ok
    rcases h.own.2 with ⟨_, h0⟩ | ⟨g, cap, cur, hv, hg, hh, hc, hm, hsz, hcur⟩
    · omega
    · subst hv
      by_cases hr : xs.length + 1 ≤ cap
      · exact Insert_shift t i w g cap cur (by omega) hok ht hg hh hr hm hsz hcur vb hvb (fun e => hne (by simp [Value.ownBlock, e]))
      · exact Insert_grow t i w g cap cur (by omega) hok ht hb hh hc (by omega) hsz hcur hn vb hvb
end Go.Proofs.Ythllmpgffdocmaa
