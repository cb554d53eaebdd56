/-
  Walk over dual.walk, with Front's inner function.
-/
import Derived.Test.YthllmpgffdocmaaK
import Derived.Test.YthllmpgffdocmaaO1
import Derived.Test.YthllmpgffdocmaaQ3
import Derived.Deep.DeepCutAuto
import Derived.Deep.LoopGhost
namespace Go.Proofs.Ythllmpgffdocmaa
open Go.RowKit Go.Deep

theorem ownsRow_le {w : World} {b b' : Nat} {e : TypeId} {size : Nat} {v : Value} {n : Nat} {xs : List Value} (h : w.ownsRow b e size v n xs) (hb : b' ≤ b) : w.ownsRow b' e size v n xs := by
  obtain ⟨h1, h2⟩ := h
  refine ⟨h1, ?_⟩
  rcases h2 with h2 | ⟨g, cap, cur, hv, hg, q⟩
  · exact Or.inl h2
  · exact Or.inr ⟨g, cap, cur, hv, Nat.le_trans hb hg, q⟩
theorem ViewAt.le {w : World} {b b' vb : Nat} {f : Nat → Value} {xs : Nat → List Lk} (h : ViewAt w b vb f xs) (hb : b' ≤ b) : ViewAt w b' vb f xs :=
  ⟨h.row, fun u hu => ownsRow_le (h.own u hu) hb, h.ne, h.inj⟩
def walkP (w : World) (eb fb : Nat) (r : Bool × List (List (Nat × Nat))) (e : Ending) (w' : World) : Prop :=
  e = .returned (.tuple #[]) ∧ Tch (fun k => k = eb ∨ k = fb) w w' ∧ ((r.1 = true ∧ w'.rowIs eb 26 1 (fun _ => .int .i64 7)) ∨ (r.1 = false ∧ w'.rowIs eb 26 1 (fun _ => .int .i64 0) ∧ ∃ f', FrontsAt w' w.heap.size fb f' r.2))
theorem putL_nil (t : Lb) : putL [] t = [t] := by
  have : bsF [] t 5000 0 0 = 0 := by unfold bsF; simp
  unfold putL
  rw [List.length_nil, this]; rfl
theorem walkF_nil {out : Nat → List Lk} {k : Nat} {F : List (List (Nat × Nat))} {r : Bool × List (List (Nat × Nat))} (h : walkF out (k + 1) [] F = some r) : r = (false, F) := by
  simp only [walkF, List.getLast?_nil, Option.some.injEq] at h
  exact h.symm
theorem walkF_step {out : Nat → List Lk} {k : Nat} {ys : List Lb} {l : Lb} {F : List (List (Nat × Nat))} {r : Bool × List (List (Nat × Nat))} (h : walkF out (k + 1) (ys ++ [l]) F = some r) :
    (F.getD l.n []).length < 4096 ∧ ys.length < 4096 ∧ ((underB (F.getD l.n []) l.d = true ∧ walkF out k ys F = some r) ∨ (underB (F.getD l.n []) l.d = false ∧ 64 ≤ (F.getD l.n []).length ∧ r = (true, F)) ∨
      (underB (F.getD l.n []) l.d = false ∧ (F.getD l.n []).length < 64 ∧ ∃ zs, putsF (out l.n) l ys = some zs ∧ walkF out k zs (F.set l.n (F.getD l.n [] ++ [(l.c, l.d)])) = some r)) := by
  unfold walkF at h
  simp only [List.getLast?_append, List.getLast?_singleton, Option.some_or, List.dropLast_concat, List.length_append, List.length_singleton] at h
  split at h
  · rename_i hc
    refine ⟨hc.1, by omega, ?_⟩
    split at h
    · rename_i hu
      exact Or.inl ⟨hu, h⟩
    · rename_i hu
      have hu' : underB (F.getD l.n []) l.d = false := by simpa using hu
      split at h
      · rename_i hf
        simp only [Option.some.injEq] at h
        exact Or.inr (Or.inl ⟨hu', hf, h.symm⟩)
      · rename_i hf
        split at h
        · cases h
        · rename_i zs hz
          exact Or.inr (Or.inr ⟨hu', by omega, zs, hz, h⟩)
  · cases h
def wkRel (w : World) (eb fb vb wb : Nat) (fv : Nat → Value) (L : List Lk) (r : Bool × List (List (Nat × Nat))) (k : Nat) (wr : World) : Prop :=
  ∃ f F v xs, WkSt w eb fb vb wb fv L f F v xs wr ∧ walkF (rowLs L) k xs F = some r

/-- The links of one label: those from the j-th on are still to be laid in. -/
def putRel (w : World) (eb fb vb wb lb : Nat) (fv : Nat → Value) (L : List Lk) (f : Nat → Value) (F : List (List (Nat × Nat))) (l : Lb) (ks : List Lk) (zs : List Lb) (i : Value) (wr : World) : Prop :=
  ∃ (j : Nat) (v : Value) (xs : List Lb), i = .int .i64 (j : Int) ∧ j ≤ ks.length ∧ WkSt w eb fb vb wb fv L f F v xs wr ∧ wr.rowIs lb 71 2 (fun i => if i = 0 then .complex .f64 (fN l.c) (fN l.d) else .int .i64 (l.n : Int)) ∧ ¬ waysS wb v lb ∧ putsF (ks.drop j) l xs = some zs
theorem putsF_cons {k : Lk} {ks : List Lk} {l : Lb} {xs zs : List Lb} (h : putsF (k :: ks) l xs = some zs) : (l.c + k.c < 1024 ∧ l.d + k.d < 1024 ∧ xs.length < 4096) ∧ putsF ks l (putL xs ⟨l.c + k.c, l.d + k.d, k.t⟩) = some zs := by
  unfold putsF at h
  split at h
  · rename_i hc
    exact ⟨hc, h⟩
  · cases h
theorem sum39 (a b c d : Nat) (h1 : a + c < 1024) (h2 : b + d < 1024) (w : World) : (binOp .add 39 (.complex .f64 (fN a) (fN b)) (.complex .f64 (fN c) (fN d))).run Try.prog w = .ok (.complex .f64 (fN (a + c)) (fN (b + d))) w :=
  run_complex_sum (P := Try.prog) w .add (Or.inl rfl) 39 .f64 _ _ _ _ _ _ (by unfold cSumBits floatBits; simp only [fN_add h1, fN_add h2]; rfl)
theorem conv72 (n : Nat) (w : World) : (convert 3 72 (.int .i64 (n : Int))).run Try.prog w = .ok (.float .f64 (fN n)) w :=
  run_convert_int_float (P := Try.prog) w 3 72 .i64 .f64 n (by kernel_rfl) (by kernel_rfl)

set_option maxHeartbeats 8000000 in
set_option maxRecDepth 100000 in
theorem walk29 {G : Gr} {gv : Value} {bn cn bl cl : Nat} (a : Nat) (w : World) (h : GraphAt w gv G bn cn bl cl) (hok : G.ok) (ha : a < 128) (fb eb : Nat) (hfr : FrontsAt w w.heap.size fb (fun _ => .slice none 0 0) (List.replicate 128 []))
    (he : w.rowIs eb 26 1 (fun _ => .int .i64 0)) (hne : fb ≠ eb) {r : Bool × List (List (Nat × Nat))} (hr : walkF (rowLs G.ls) 1000 [⟨0, 0, a⟩] (List.replicate 128 []) = some r) :
    Calls Try.prog 29 #[gv, .int .i64 (a : Int), .func (.func 30) #[] #[.pointer (some ⟨fb, 0, none⟩), .pointer (some ⟨eb, 0, none⟩)]] w (walkP w eb fb r) := by
  have hgv := h.eq
  subst hgv
  have HR := Lib.hid hr; clear hr
  have hfl := hfr.row.lt
  have hel := he.lt
  go_enter Try.func29, Try.ntmps29
  go_wp2_with fail
  generalize hw1 : World.alloc w _ = w1
  have hB1 : Below w.heap.size w w1 := by rw [← hw1]; exact (Below.refl _ _).alloc (Nat.le_refl _) _
  clear hw1
  have h1 := h.below' hB1
  have hs1 := hB1.size
  refine (Of16 w1 h1 hok).mono ?_
  rintro e w2 ⟨vb, fv, rfl, hB2, hvb, hV⟩
  have hB2' : Below w.heap.size w w2 := hB1.trans (hB2.mono hs1)
  have hV2 := hV.le hs1
  have hvb2 : w.heap.size ≤ vb := by omega
  have HV := Lib.hid hV2; clear hV2
  have HB := Lib.hid hB2'; clear hB2'
  clear hV hB2 hB1 h1 h
  go_wp2_with fail
  generalize hw3 : World.alloc w2 _ = w3
  have hB3 : Below w2.heap.size w2 w3 := by rw [← hw3]; exact (Below.refl _ _).alloc (Nat.le_refl _) _
  have hr3 : w3.rowIs w2.heap.size 95 1 (fun _ => .slice none 0 0) := by
    rw [← hw3]
    exact World.rowIs_alloc w2 #[.slice none 0 0] 95 _ (fun i hi => by
      match i, hi with
      | 0, _ => rfl)
  clear hw3
  have hs2 := HB.out.size
  have hs3 := hB3.size
  have hBB : Below w.heap.size w w3 := HB.out.trans (hB3.mono hs2)
  have hW3 : WaysAt w3 w.heap.size w2.heap.size (.slice none 0 0) [] := ⟨hr3, ⟨World.ownsRow_nil w3 _ 71 2, fun x hx => by cases hx⟩, by simp [Value.ownBlock]⟩
  have s3 : WkSt w eb fb vb w2.heap.size fv G.ls (fun _ => .slice none 0 0) (List.replicate 128 []) (.slice none 0 0) [] w3 := by
    have hvl := HV.out.lt
    refine ⟨Tch.of_below hBB, HV.out.below' hB3, hW3, hfr.below' hBB, rowIs_below hBB he hel, ⟨hfl, hel, hne, hvb2, hs2, fun u hu k hk => ((HV.out.own u hu).lt k hk).1, fun u _ k hk => by simp [Value.ownBlock] at hk, fun k hk => by simp [Value.ownBlock] at hk, ?_, ?_, ?_⟩⟩
    · rintro k hk (h | h)
      · have := hvl k hk; omega
      · simp [Value.ownBlock] at h
    · rintro k hk (h | ⟨u, _, h⟩)
      · subst h
        rcases hk with h | ⟨u, hu, h⟩
        · omega
        · have := ((HV.out.own u hu).lt _ h).1; omega
      · simp [Value.ownBlock] at h
    · rintro k hk (h | ⟨u, _, h⟩)
      · subst h
        rcases hk with h | h
        · omega
        · simp [Value.ownBlock] at h
      · simp [Value.ownBlock] at h
  have h47 := put47 ⟨0, 0, a⟩ w3 hW3 ⟨(by omega : 0 < 1024), (by omega : 0 < 1024), ha⟩ (by simp) (by omega)
  simp only [lbV, fN_zero] at h47
  have S3 := Lib.hid s3; clear s3
  clear hr3 hBB hW3 hB3 hfr he HV HB
  generalize w2.heap.size = wb at *
  refine h47.mono ?_
  clear h47
  rintro e w4 ⟨rfl, v4, hW4, hT4, hv4⟩
  rw [putL_nil] at hW4
  have s4 := S3.out.way hT4 hW4 hv4
  have S4 := Lib.hid s4
  clear s4 hW4 hT4 hv4 S3
  go_wp2_with fail
  go_loopg [] 1000 (fun k wr => wkRel w eb fb vb wb fv G.ls r k wr)
  case atStart => exact ⟨_, _, _, _, S4.out, HR.out⟩
  case round =>
    obtain ⟨f, F, v, xs, s, hwk⟩ := hrel
    cases gk with
    | zero => simp [walkF] at hwk
    | succ k =>
      rcases List.eq_nil_or_concat xs with rfl | ⟨ys, l, rfl⟩
      · have hrr := walkF_nil hwk
        subst hrr
        clear hwk HR
        have S := Lib.hid s
        have hways := s.ways
        clear s
        go_wp2_with fail
        refine (take48_nil _ hways).mono ?_
        rintro e w5 ⟨⟨x, rfl, rfl⟩, hB5⟩
        have s5 := S.out.below' hB5
        have S5 := Lib.hid s5
        clear S s5 hB5 hways
        go_wp2_with fail
        go_end0
        have s6 := S5.out.below' ((Below.refl _ _).alloc (Nat.le_refl _) (.cells #[.complex .f64 0 0, .int .i64 0] 71))
        exact ⟨rfl, s6.tch, Or.inr ⟨rfl, s6.e0, _, s6.fr⟩⟩
      · rw [List.concat_eq_append] at *
        obtain ⟨hn1, hn2, hcase⟩ := walkF_step hwk
        have hlo : l.ok := s.ways.lab.ok l (by simp)
        clear hwk HR
        have S := Lib.hid s
        have hways := s.ways
        clear s
        have HC := Lib.hid hcase; clear hcase
        go_wp2_with fail
        refine (take48_cons _ hways hn2).mono ?_
        rintro e w5 ⟨rfl, v5, hW5, hT5, hv5⟩
        have s5 := S.out.way hT5 hW5 (fun k hk => Or.inl (by rw [← hv5]; exact hk))
        have S5 := Lib.hid s5
        clear S s5 hways hW5 hT5 hv5
        obtain ⟨lc, ld, ln⟩ := l
        simp only [lbV]
        go_wp2_with fail
        have hlr : (w5.alloc (.cells #[.complex .f64 (fN lc) (fN ld), .int .i64 (ln : Int)] 71)).rowIs w5.heap.size 71 2 (fun i => if i = 0 then .complex .f64 (fN lc) (fN ld) else .int .i64 (ln : Int)) := World.rowIs_alloc w5 _ 71 _ (fun i hi => by
          match i, hi with
          | 0, _ => rfl
          | 1, _ => rfl)
        have s6 := S5.out.below' ((Below.refl _ _).alloc (Nat.le_refl _) (.cells #[.complex .f64 (fN lc) (fN ld), .int .i64 (ln : Int)] 71))
        have hlt5 := S5.out.tsz
        have HWL := Lib.hid (S5.out.ways.lt (k := w5.heap.size))
        have HLT5 := Lib.hid (S5.out.fr.lt (k := w5.heap.size))
        generalize World.alloc w5 _ = w6 at *
        generalize w5.heap.size = lb at *
        have S6 := Lib.hid s6; clear s6 S5
        have HLR := Lib.hid hlr; clear hlr
        obtain ⟨lo1, lo2, lo3⟩ := hlo
        simp only at lo1 lo2 lo3 hn1
        rcases HC.out with ⟨hu, hwk⟩ | ⟨hu, hf, hrr⟩ | ⟨hu, hf, zs, hz, hwk⟩
        · have h30 := keep_under (eb := eb) ⟨lc, ld, ln⟩ w6 S6.out.fr ⟨lo1, lo2, lo3⟩ hu hn1
          simp only [lbV] at h30
          have HW := Lib.hid hwk; clear hwk
          clear HC hu
          refine h30.mono ?_
          clear h30
          rintro e w7 ⟨rfl, hB7⟩
          have s7 := S6.out.below' hB7
          have S7 := Lib.hid s7
          clear s7 hB7 S6
          go_wp2_with fail
          go_quiet (fail)
          go_wp2_with fail
          go_roundg k
          case measure => omega
          case rel => exact ⟨f, F, v5, ys, S7.out.below' (below_drewN (Below.refl _ _) _), HW.out⟩
        · subst hrr
          have h30 := keep_full (eb := eb) ⟨lc, ld, ln⟩ w6 S6.out.fr ⟨lo1, lo2, lo3⟩ hu hn1 hf S6.out.e0
          simp only [lbV] at h30
          clear HC hu hf
          refine h30.mono ?_
          clear h30
          rintro e w7 ⟨rfl, hT7, he7⟩
          have hT := S6.out.tch.trans hT7 (fun n _ h => Or.inl h)
          have HT := Lib.hid hT
          have HE7 := Lib.hid he7
          clear hT hT7 he7 S6
          go_wp2_with fail
          go_end0
          exact ⟨rfl, HT.out, Or.inl ⟨rfl, HE7.out⟩⟩
        · have h30 := keep_more (eb := eb) ⟨lc, ld, ln⟩ w6 S6.out.fr ⟨lo1, lo2, lo3⟩ hu hf S6.out.tsz
          simp only [lbV] at h30
          have HZ := Lib.hid hz; clear hz
          have HW := Lib.hid hwk; clear hwk
          clear HC hu hf
          have hl6 : lb < w6.heap.size := HLR.out.lt
          have hbl : ¬ (lb = fb ∨ (f ln).ownBlock = some lb) := by
            have h3 := S6.out.ap.b1
            rintro (h | h)
            · omega
            · have := HLT5.out (Or.inr ⟨ln, lo3, h⟩); omega
          refine h30.mono ?_
          clear h30
          rintro e w7 ⟨rfl, f7, hF7, hT7, hf7⟩
          have s7 := S6.out.more lo3 hT7 hF7 hf7
          have hlr7 := rowIs_tch hT7 HLR.out hbl
          have S7 := Lib.hid s7
          have HLR7 := Lib.hid hlr7
          clear s7 hlr7 hT7 hF7 hf7 S6 HLR hbl hl6
          go_upto_region 8 with (fail)
          have q0 : w7.cell? ⟨lb, 0, none⟩ = some (.complex .f64 (fN lc) (fN ld)) := HLR7.out.cell (i := 0) (by omega)
          have q1 : w7.cell? ⟨lb, 1, none⟩ = some (.int .i64 (ln : Int)) := HLR7.out.cell (i := 1) (by omega)
          have ho := S7.out.view.over lo3
          have hln0 : (0 : Int) ≤ (ln : Int) := by omega
          have hln1 : (ln : Int) < 128 := by omega
          go_cut [52] (fun x wr => x = .bool false ∧ Dr w7 wr)
          case first =>
            by_cases hla : ln = a
            · have hlb : (((ln : Int)) != (a : Int)) = false := by rw [hla]; simp
              go_quiet (fail)
              go_wp2_with fail
              go_meet
              exact ⟨rfl, (Dr.refl _).drewN _⟩
            · have hlb : (((ln : Int)) != (a : Int)) = true := by simp; omega
              go_quiet (fail)
              go_wp2_with fail
              go_meet
              exact ⟨rfl, (Dr.refl _).drewN _⟩
          case rest =>
            obtain ⟨rfl, hd⟩ := hcut
            rename World => w8
            have s8 := S7.out.below' (hd.below (Below.refl _ _))
            have hlr8 := rowIs_dr hd HLR7.out
            have hwl : ¬ waysS wb v5 lb := fun h => Nat.lt_irrefl _ (HWL.out h)
            clear q0 q1 ho hd S7 HLR7 HWL HLT5
            have q1 : w8.cell? ⟨lb, 1, none⟩ = some (.int .i64 (ln : Int)) := hlr8.cell (i := 1) (by omega)
            have hsl := s8.view.slot (u := ln) (by omega)
            obtain ⟨av, cap, hfu, _⟩ := s8.view.form_or (u := ln) (by omega)
            rw [hfu] at hsl
            have HFU := Lib.hid hfu; clear hfu
            have S8 := Lib.hid s8; clear s8
            have HLR8 := Lib.hid hlr8; clear hlr8
            have HWL := Lib.hid hwl; clear hwl
            have hkl : (rowLs G.ls ln).length ≤ 2048 := Nat.le_trans (List.length_filter_le _ _) hok.lens
            have hkm : ∀ (i : Nat) (l : Lk), (rowLs G.ls ln)[i]? = some l → l.t < 128 := fun i l h => (hok.at (rowLs_out lo3 h).1).2.1
            have HKM := Lib.hid hkm; clear hkm
            generalize hks : rowLs G.ls ln = ks at *
            have HKS := Lib.hid hks; clear hks
            go_wp2_with fail
            go_quiet (fail)
            go_wp2_with fail
            have s9 := S8.out.below' (below_drewN (Below.refl _ _) nq)
            have hlr9 := rowIs_drewN HLR8.out nq
            generalize World.drewN w8 nq = w9 at *
            have S9 := Lib.hid s9; clear s9 S8
            have HLR9 := Lib.hid hlr9; clear hlr9 HLR8
            clear hsl q1
            go_loopw [61] (putRel w eb fb vb wb lb fv G.ls f7 (F.set ln (F.getD ln [] ++ [(lc, ld)])) ⟨lc, ld, ln⟩ ks zs) (fun i _ => ks.length - (intOf i).toNat)
            case atStart => exact ⟨0, v5, ys, rfl, Nat.zero_le _, S9.out, HLR9.out, HWL.out, by rw [List.drop_zero]; exact HZ.out⟩
            case round =>
              obtain ⟨j, v, xs, rfl, hj, s, hlr, hwl, hps⟩ := hrel
              by_cases hlt : j < ks.length
              · have hlt' : (j : Int) < (ks.length : Int) := by omega
                have hget : ks[j]? = some ks[j] := List.getElem?_eq_getElem hlt
                rw [List.drop_eq_getElem_cons hlt] at hps
                obtain ⟨⟨hc1, hc2, hc3⟩, hps2⟩ := putsF_cons hps
                obtain ⟨av', cap', hfu', hcells⟩ := s.view.form_or (u := ln) (by omega)
                rw [HFU.out, HKS.out] at hfu'
                simp only [Value.slice.injEq] at hfu'
                obtain ⟨rfl, _, rfl⟩ := hfu'
                rw [HKS.out] at hcells
                obtain ⟨g, rfl, hg, hcell⟩ := hcells j _ hget
                have kt := HKM.out j _ hget
                have p0 : wr.cell? ⟨g, j * 4, none⟩ = _ := hcell 0 (by omega)
                have p1 : wr.cell? ⟨g, j * 4 + 1, none⟩ = _ := hcell 1 (by omega)
                have p2 : wr.cell? ⟨g, j * 4 + 1 + 1, none⟩ = _ := hcell 2 (by omega)
                have p3 : wr.cell? ⟨g, j * 4 + 1 + 1 + 1, none⟩ = _ := hcell 3 (by omega)
                generalize ks[j] = kk at *
                obtain ⟨kf, ktt, kc, kd⟩ := kk
                simp only [linkC, List.getElem?_cons_zero, List.getElem?_cons_succ] at p0 p1 p2 p3 hc1 hc2 hps2 kt
                have HPS := Lib.hid hps2; clear hps2 hps hcells hcell hget
                have S := Lib.hid s; clear s
                have HLR := Lib.hid hlr; clear hlr
                have HWL2 := Lib.hid hwl; clear hwl
                have hs39 := sum39 lc ld kc kd hc1 hc2
                have hv1 := conv72 kc
                have hv2 := conv72 kd
                have hlw : lb < wr.heap.size := HLR.out.lt
                have q0 : wr.cell? ⟨lb, 0, none⟩ = some (.complex .f64 (fN lc) (fN ld)) := HLR.out.cell (i := 0) (by omega)
                go_wp2_with fail
                have s2 := S.out.below' ((Below.refl _ _).alloc (Nat.le_refl _) (.cells #[.int .i64 (kf : Int), .int .i64 (ktt : Int), .int .i64 (kc : Int), .int .i64 (kd : Int)] 43))
                have hlr2 := HLR.out.alloc (.cells #[.int .i64 (kf : Int), .int .i64 (ktt : Int), .int .i64 (kc : Int), .int .i64 (kd : Int)] 43)
                have hlw2 : lb < (wr.alloc (.cells #[.int .i64 (kf : Int), .int .i64 (ktt : Int), .int .i64 (kc : Int), .int .i64 (kd : Int)] 43)).heap.size := by simp; omega
                generalize World.alloc wr _ = w10 at *
                have h47 := put47 ⟨lc + kc, ld + kd, ktt⟩ w10 s2.ways ⟨hc1, hc2, kt⟩ hc3 s2.tsz
                simp only [lbV] at h47
                have S2 := Lib.hid s2; clear s2
                have HLR2 := Lib.hid hlr2; clear hlr2
                clear p0 p1 p2 p3 q0 hs39 hv1 hv2 hlw S HLR
                refine h47.mono ?_
                clear h47
                rintro e w11 ⟨rfl, v11, hW11, hT11, hv11⟩
                have s11 := S2.out.way hT11 hW11 hv11
                have hlr11 := rowIs_tch hT11 HLR2.out HWL2.out
                have hwl11 : ¬ waysS wb v11 lb := by
                  rintro (h | h)
                  · exact HWL2.out (Or.inl h)
                  · rcases hv11 _ h with h2 | h2
                    · exact HWL2.out (Or.inr h2)
                    · omega
                have S11 := Lib.hid s11
                have HLR11 := Lib.hid hlr11
                have HWL11 := Lib.hid hwl11
                clear s11 hlr11 hwl11 hT11 hW11 hv11 S2 HLR2 HWL2
                go_wp2_with fail
                go_roundw
                case rel => exact ⟨j + 1, v11, _, by simp, hlt, S11.out, HLR11.out, HWL11.out, HPS.out⟩
                case measure => simp [intOf]; omega
              · obtain rfl : j = ks.length := by omega
                have hge : ¬ ((ks.length : Int) < (ks.length : Int)) := by omega
                have hzz : xs = zs := by rw [List.drop_length] at hps; simpa [putsF] using hps
                subst hzz
                clear hps
                have S := Lib.hid s; clear s
                go_wp2_with fail
                go_roundg k
                case measure => omega
                case rel => exact ⟨f7, _, v, xs, S.out, HW.out⟩
end Go.Proofs.Ythllmpgffdocmaa
