/-
  Walk over full.View's Tree.
-/
import Derived.Test.YthllmpgffdocmaaX2
import Derived.Test.YthllmpgffdocmaaR2
import Derived.Test.YthllmpgffdocmaaO1
import Derived.RegionTactic
import Derived.BigRegion
import Derived.Deep.QuietTactic
import Derived.BigQuiet
import Derived.Deep.DeepCutAuto
import Derived.Deep.LoopGhost
import Derived.Lib.Hide
namespace Go.Proofs.Ythllmpgffdocmaa
open Go.RowKit Go.Deep

def treeRel (w : World) (root tb db pb hp hb : Nat) (out : Nat → List Lk) (R : List Nat) (k : Nat) (wr : World) : Prop :=
  ∃ D H v, TreeSt w root tb db pb hp hb D H v wr ∧ treeF out k (D, H) = some R
def linkRel (w : World) (root tb db pb hp hb d : Nat) (ls : List Lk) (S : List Nat × Hp) (i : Value) (wr : World) : Prop :=
  ∃ (j : Nat) (D : List Nat) (H : Hp) (v : Value), i = .int .i64 (j : Int) ∧ j ≤ ls.length ∧ TreeSt w root tb db pb hp hb D H v wr ∧ relaxAll d (ls.drop j) (D, H) = some S

set_option maxHeartbeats 100000000 in
set_option maxRecDepth 100000 in
theorem Tree33 {G : Gr} {base vb : Nat} {f : Nat → Value} {R : List Nat} (root : Nat) (w : World) (hV : ViewAt w base vb f (rowLs G.ls)) (hok : G.ok) (hroot : root < 128) (hR : treeOf G.ls root = some R) :
    Calls Try.prog 33 #[.pointer (some ⟨vb, 0, none⟩), .int .i64 root] w (treeP w root R) := by
  have m1 := mk60
  have m2 := mk77
  have HR := Lib.hid hR; clear hR
  go_enter Try.func33, Try.ntmps33
  go_wp2_with fail
  go_cut [5] (treeCut w root)
  case first =>
    clear hV hok HR
    generalize hw1 : World.alloc w _ = w1
    have hs1 : w1.heap.size = w.heap.size + 1 := by rw [← hw1]; simp
    have hB : Below w.heap.size w w1 := by rw [← hw1]; exact (Below.refl _ _).alloc (Nat.le_refl _) _
    have hr : w1.rowIs w.heap.size 79 4 (fun i => if i = 0 then .int .i64 0 else .slice none 0 0) := by
      rw [← hw1]
      refine World.rowIs_alloc w _ _ _ ?_
      intro i hi
      match i, hi with
      | 0, _ => rfl
      | 1, _ => rfl
      | 2, _ => rfl
      | 3, _ => rfl
    clear hw1
    have HS := Lib.hid hs1; clear hs1
    have HB := Lib.hid hB; clear hB
    have HRR := Lib.hid hr; clear hr
    go_region
    all_goals go_wp2_with fail
    all_goals go_meet
    all_goals (try clear m1 m2)
    all_goals have hle := HS.out
    all_goals
      iterate 4 apply Exists.intro
      apply And.intro
      · rfl
      · apply TreeNew.mk
        case' t => (repeat first | (apply tR; (first | rfl | (simp; done)); done) | apply World.rowIs.drew | apply World.rowIs.alloc)
        all_goals first
          | omega
          | (repeat first | exact HB.out | apply Below.drew | (apply Below.alloc; rotate_left; first | omega | (simp; done) | (simp; omega))); done
          | (repeat first | exact HRR.out | (apply zI; (first | rfl | (simp; done)); done) | (apply zB; (first | rfl | (simp; done)); done) | apply World.rowIs.drew | apply World.rowIs.alloc); done
  case rest =>
    obtain ⟨tb, db, pb, hp, rfl, hN⟩ := hcut
    clear m1 m2
    rename World => wo
    have e1 : tb ≠ db := hN.td
    have e2 : tb ≠ pb := hN.tp
    have e3 : db ≠ pb := hN.dp
    have ht1 : wo.cell? ⟨tb, 1, none⟩ = some (.slice (some ⟨db, 0, none⟩) 128 128) := hN.t.cell (i := 1) (by omega)
    have HN := Lib.hid hN; clear hN
    have HV := Lib.hid hV; clear hV
    go_wp2_with fail
    go_loopw [22] (fillR wo db) (fun i _ => 128 - (intOf i).toNat)
    case atStart => exact ⟨0, rfl, by omega, Tch.refl _ _, HN.out.d.congr (fun i _ => by rw [if_neg (by omega)])⟩
    case round =>
      obtain ⟨k, rfl, hk, hT, hr⟩ := hrel
      have ht1r : wr.cell? ⟨tb, 1, none⟩ = some (.slice (some ⟨db, 0, none⟩) 128 128) := by rw [hT.cell (p := ⟨tb, 1, none⟩) HN.out.t.lt e1]; exact ht1
      have hfz : ∀ o, wr.frozen? ⟨db, o, none⟩ = false := fun o => hr.frozen o
      by_cases hlt : k < 128
      · have hlt' : (k : Int) < 128 := by omega
        have hc := hr.cell (i := k) (by omega)
        rw [if_neg (by omega)] at hc
        have HT := Lib.hid hT; clear hT
        have HRr := Lib.hid hr; clear hr
        go_wp2_with fail
        go_roundw
        case rel =>
          refine ⟨k + 1, by simp, hlt, HT.out.setCell (Or.inl rfl) _, (HRr.out.set k _).congr (fun i _ => ?_)⟩
          by_cases hi : i = k
          · subst hi; simp
          · rw [if_neg hi]
            by_cases h2 : i < k
            · rw [if_pos h2, if_pos (by omega)]
            · rw [if_neg h2, if_neg (by omega)]
        case measure => simp [intOf]; omega
      · obtain rfl : k = 128 := by omega
        have hN := HN.out
        have hsz := hT.size
        have hb0 := hN.below
        have hw0 : w.heap.size ≤ wo.heap.size := hb0.size
        have b1 := hN.ht
        have b2 := hN.hd
        have b3 := hN.hp
        have b4 := hN.t.lt
        have b5 := hN.d.lt
        have b6 := hN.p.lt
        have hB : Below w.heap.size w wr := hb0.trans (hT.below (fun n _ hn => by have : n = db := hn; omega) hw0)
        have ht := rowIs_tch hT hN.t e1
        have hp1 := rowIs_tch hT hN.p (fun e => e3 (by have : pb = db := e; omega))
        have hr1 := rowIs_tch hT hN.r (fun e => by have : w.heap.size = db := e; omega)
        have hd1 : wr.rowIs db 3 128 (distRow (List.replicate 128 1073741824)) := hr.congr (fun i hi => by rw [if_pos hi]; unfold distRow; rw [List.getD_eq_getElem?_getD, List.getElem?_replicate, if_pos hi]; rfl)
        have hO : TreeOrd w.heap.size tb db pb wr.heap.size := ⟨b1, b2, b3, by omega, by omega, by omega, e1, e2, e3⟩
        clear hN HN hT hr hb0 ht1 b4 b5 b6 e1 e2 e3 b1 b2 b3 hw0
        have HO := Lib.hid hO; clear hO
        have HB := Lib.hid hB; clear hB
        have HT := Lib.hid ht; clear ht
        have HP := Lib.hid hp1; clear hp1
        have HRR := Lib.hid hr1; clear hr1
        have HD := Lib.hid hd1; clear hd1
        clear hfz ht1r hsz
        go_wp2_with fail
        refine (New53 _).mono ?_
        rintro e w1 ⟨rfl, hH, hB1, hs1⟩
        have s1 : TreeSt w root tb db pb hp wr.heap.size (List.replicate 128 1073741824) emptyH (.slice none 0 0) w1 :=
          ⟨HO.out, rowIs_below hB1 HT.out HT.out.lt, rowIs_below hB1 HD.out HD.out.lt, ⟨fun _ => 0, fun _ => Nat.two_pow_pos 64, rowIs_below hB1 HP.out HP.out.lt⟩, hH, rowIs_below hB1 HRR.out HRR.out.lt, HB.out.trans (hB1.mono HB.out.size), List.length_replicate⟩
        clear HO HB HT HP HRR HD hH hB1 hs1
        generalize wr.heap.size = hb at *
        have S1 := Lib.hid s1; clear s1
        go_wp2_with fail
        refine (Push54 (root : Int) 0 _ S1.out.h (Nat.le_refl _) (by omega) (by omega) (by omega) (atv_empty _) (by simp [emptyH])).mono ?_
        rintro e w2 ⟨rfl, v2, h2, hT2, _⟩
        rw [Int.toNat_natCast, show (0 : Int).toNat = 0 from rfl] at h2
        have s2 := S1.out.heap hT2 h2
        clear hT2 h2 S1
        have ht1 := s2.t1
        have hc := s2.dc hroot
        have hfz : ∀ o, w2.frozen? ⟨db, o, none⟩ = false := fun o => s2.d.frozen o
        have S2 := Lib.hid s2; clear s2
        go_wp2_with fail
        have s3 : TreeSt w root tb db pb hp hb _ _ v2 _ := S2.out.setD 0 hroot
        clear S2 hc hfz ht1
        generalize hw3 : World.setCell w2 _ _ = w3 at *
        clear hw3
        have S3 := Lib.hid s3; clear s3
        go_loopg [] 1000 (fun k wr => treeRel w root tb db pb hp hb (rowLs G.ls) R k wr)
        case atStart => exact ⟨_, _, _, S3.out, HR.out⟩
        case round =>
          obtain ⟨D, H, v, s, htr⟩ := hrel
          cases gk with
          | zero => simp [treeF] at htr
          | succ k =>
            by_cases hl : H.list = []
            · have hDR := treeF_nil htr hl
              subst hDR
              have hh := s.h
              have hlt := s.lt
              have S := Lib.hid s; clear s
              have HL := Lib.hid hl; clear hl
              clear htr
              go_wp2_with fail
              refine (Pop55e _ hh HL.out).mono ?_
              rintro e w4 ⟨hd, rfl⟩
              have s4 := S.out.dr hd
              have t0 : w4.cell? ⟨tb, 0, none⟩ = some (.int .i64 (root : Int)) := s4.t.cell (i := 0) (by omega)
              have t1 := s4.t1
              have t2 := s4.t2
              have t3 : w4.cell? ⟨tb, 3, none⟩ = some (.slice (some ⟨hp, 0, none⟩) 128 128) := s4.t.cell (i := 3) (by omega)
              have r0 : w4.cell? ⟨w.heap.size, 0, none⟩ = some (.int .i64 0) := s4.r.cell (i := 0) (by omega)
              have r1 : w4.cell? ⟨w.heap.size, 1, none⟩ = some (.slice none 0 0) := s4.r.cell (i := 1) (by omega)
              have r2 : w4.cell? ⟨w.heap.size, 2, none⟩ = some (.slice none 0 0) := s4.r.cell (i := 2) (by omega)
              have r3 : w4.cell? ⟨w.heap.size, 3, none⟩ = some (.slice none 0 0) := s4.r.cell (i := 3) (by omega)
              have rf : ∀ o, w4.frozen? ⟨w.heap.size, o, none⟩ = false := fun o => s4.r.frozen o
              have S4 := Lib.hid s4; clear s4 hd
              go_wp2_with fail
              refine bodyPost_ret (v := .agg #[.int .i64 (root : Int), .slice (some ⟨db, 0, none⟩) 128 128, .slice (some ⟨pb, 0, none⟩) 128 128, .slice (some ⟨hp, 0, none⟩) 128 128]) (by simp [results, Try.results33, go_sem, r0, r1, r2, r3]) rfl ⟨db, pb, hp, rfl, ?_, ?_, ?_⟩
              · have hB := S4.out.below
                exact (((hB.setCell (p := ⟨w.heap.size, 0, none⟩) (Nat.le_refl _) _).setCell (p := ⟨w.heap.size, 1, none⟩) (Nat.le_refl _) _).setCell (p := ⟨w.heap.size, 2, none⟩) (Nat.le_refl _) _).setCell (p := ⟨w.heap.size, 3, none⟩) (Nat.le_refl _) _
              · exact Nat.le_of_lt S4.out.o.rd
              · have hne : db ≠ w.heap.size := by have := S4.out.o.rd; omega
                exact (((S4.out.d.setOther (a := ⟨w.heap.size, 0, none⟩) hne _).setOther (a := ⟨w.heap.size, 1, none⟩) hne _).setOther (a := ⟨w.heap.size, 2, none⟩) hne _).setOther (a := ⟨w.heap.size, 3, none⟩) hne _
            · have hn : 0 < H.list.length := List.length_pos_iff.2 hl
              obtain ⟨hd1, X, hrel, htr2⟩ := treeF_cons htr hl
              have hu : (H.ent 0).2 < 128 := s.h.ok.ent 0
              clear htr hl
              have S := Lib.hid s; clear s
              go_step
              go_step
              go_cut [8, 9, 10] (fun a b c wr => a = .int .i64 ((H.ent 0).2 : Int) ∧ b = .int .i64 ((H.ent 0).1 : Int) ∧ c = .int .i64 0 ∧ ∃ v4, TreeSt w root tb db pb hp hb D (takeH H) v4 wr)
              case first =>
                go_wp2_with fail
                refine (Pop55 _ S.out.h hn).mono ?_
                rintro e w4 ⟨v4, h4, hT4, _, rfl⟩
                go_wp2_with fail
                go_meet
                exact ⟨rfl, rfl, rfl, _, S.out.heap hT4 h4⟩
              case rest =>
                obtain ⟨rfl, rfl, rfl, v4, s4⟩ := hcut
                rename World => w4
                clear S hn
                generalize (H.ent 0).2 = u at *
                generalize (H.ent 0).1 = d at *
                generalize takeH H = H4 at *
                have hV4 := HV.out.below' s4.below
                have hov := hV4.over hu
                have hsl := hV4.slot (u := u) (by omega)
                obtain ⟨a, cap, hfu, hcells⟩ := HV.out.form_or (u := u) (by omega)
                rw [hfu] at hsl
                have HF := Lib.hid hfu; clear hfu
                have HC := Lib.hid hcells; clear hcells
                have HX := Lib.hid hrel; clear hrel
                have HX2 := Lib.hid htr2; clear htr2
                have S4 := Lib.hid s4; clear s4
                have hu1 : (u : Int) < 128 := by omega
                have hu0 : (0 : Int) ≤ (u : Int) := by omega
                go_step
                go_step
                go_cut [] (fun wr => wr = w4)
                case first =>
                  go_wp2_with fail
                  go_meet
                  rfl
                case rest =>
                  cases hcut
                  go_step
                  go_step
                  go_cut [] (fun wr => wr = w4)
                  case first =>
                    by_cases hur : u = root
                    · subst hur
                      go_wp2_with fail
                      go_meet
                      rfl
                    · have hur' : ¬ ((u : Int) = (root : Int)) := by omega
                      go_wp2_with fail
                      go_meet
                      rfl
                  case rest =>
                    cases hcut
                    clear hov
                    have hs4 := S4.out.below.size
                    go_wp2_with fail
                    have hxm : ∀ (i : Nat) (l : Lk), (rowLs G.ls u)[i]? = some l → l.t < 128 ∧ l.c ≤ 65535 := fun i l h => by
                      have := hok.at (rowLs_out hu h).1
                      exact ⟨this.2.1, this.2.2.1⟩
                    clear hs4 hV4
                    have hxl : (rowLs G.ls u).length ≤ 2048 := Nat.le_trans (List.length_filter_le _ _) hok.lens
                    have HM := Lib.hid hxm; clear hxm
                    generalize hxs : rowLs G.ls u = xs at *
                    go_loopw [65] (linkRel w root tb db pb hp hb d xs X) (fun i _ => xs.length - (intOf i).toNat)
                    case atStart => exact ⟨0, D, H4, v4, rfl, Nat.zero_le _, S4.out, by rw [List.drop_zero]; exact HX.out⟩
                    case round =>
                      obtain ⟨j, D1, H1, v1, rfl, hj, s, hra⟩ := hrel
                      by_cases hlt : j < xs.length
                      · have hget : xs[j]? = some xs[j] := List.getElem?_eq_getElem hlt
                        rw [List.drop_eq_getElem_cons hlt] at hra
                        obtain ⟨s', hrF, hrA⟩ := relaxAll_cons hra
                        clear hra
                        obtain ⟨g, rfl, hg, hcell⟩ := HC.out j _ hget
                        obtain ⟨lt0, lc0⟩ := HM.out j _ hget
                        have p0 : wr.cell? ⟨g, j * 4, none⟩ = _ := (s.below.cell (p := ⟨g, j * 4, none⟩) hg).trans (hcell 0 (by omega))
                        have p1 : wr.cell? ⟨g, j * 4 + 1, none⟩ = _ := (s.below.cell (p := ⟨g, j * 4 + 1, none⟩) hg).trans (hcell 1 (by omega))
                        have p2 : wr.cell? ⟨g, j * 4 + 1 + 1, none⟩ = _ := (s.below.cell (p := ⟨g, j * 4 + 1 + 1, none⟩) hg).trans (hcell 2 (by omega))
                        have p3 : wr.cell? ⟨g, j * 4 + 1 + 1 + 1, none⟩ = _ := (s.below.cell (p := ⟨g, j * 4 + 1 + 1 + 1, none⟩) hg).trans (hcell 3 (by omega))
                        generalize xs[j] = l at *
                        obtain ⟨lf, lt, lc, ld⟩ := l
                        simp only [linkC, List.getElem?_cons_zero, List.getElem?_cons_succ] at p0 p1 p2 p3 lt0 lc0
                        have hlt' : (j : Int) < (xs.length : Int) := by omega
                        have HFF := Lib.hid hrF; clear hrF
                        have HAA := Lib.hid hrA; clear hrA
                        clear hget hcell hsl hj
                        have S := Lib.hid s; clear s
                        go_wp2_with fail
                        have s5 := S.out.alloc (.cells #[.int .i64 (lf : Int), .int .i64 (lt : Int), .int .i64 (lc : Int), .int .i64 (ld : Int)] 43)
                        have qr := lkRow_alloc wr ⟨lf, lt, lc, ld⟩
                        have hszr : wr.heap.size < (wr.alloc (.cells #[.int .i64 (lf : Int), .int .i64 (lt : Int), .int .i64 (lc : Int), .int .i64 (ld : Int)] 43)).heap.size := by simp
                        have hlb : hb < wr.heap.size := S.out.lt
                        have hvb : ∀ b, v1.ownBlock = some b → b < wr.heap.size := fun b hb => (S.out.h.own.lt b hb).2
                        simp only at qr
                        generalize World.alloc wr _ = w6 at *
                        generalize wr.heap.size = lb at *
                        clear p0 p1 p2 p3 S
                        refine (Sum56 (d : Int) (lc : Int) _ (by omega) (by omega) (by omega) (by omega)).mono ?_
                        rintro e w' ⟨rfl, rfl⟩
                        rw [sumI_nat]
                        have hcases := relaxF_cases HFF.out
                        simp only at hcases
                        have hcle := sumN_le d lc
                        generalize sumN d lc = c at *
                        clear HFF
                        have q1 : w6.cell? ⟨lb, 1, none⟩ = some (.int .i64 (lt : Int)) := qr.cell (i := 1) (by omega)
                        have t1 := s5.t1
                        have dc := s5.dc lt0
                        have hlt1 : (lt : Int) < 128 := by omega
                        have hlt2 : (0 : Int) ≤ (lt : Int) := by omega
                        have hVB := Lib.hid hvb; clear hvb
                        have hD := s5.len
                        have S5 := Lib.hid s5; clear s5
                        have QR := Lib.hid qr; clear qr
                        generalize hdt : D1.getD lt 0 = dt at *
                        have HDT := Lib.hid hdt; clear hdt
                        rcases hcases with ⟨hdt0, ha0, ha1, ha2⟩ | ⟨hne, hcd, ha0, ha1, ha2, ha3⟩ | ⟨hne, hcd, ha3⟩
                        · have hI : (dt : Int) = 1073741824 := by omega
                          have HA2 := Lib.hid ha2; clear ha2
                          go_wp2_with fail
                          refine (Push54 (lt : Int) (c : Int) _ S5.out.h (Nat.le_refl _) hlt2 (by omega) (by omega) (by rw [Int.toNat_natCast]; exact ha0) ha1).mono ?_
                          rintro e w7 ⟨rfl, v7, h7, hT7, _⟩
                          rw [Int.toNat_natCast, Int.toNat_natCast] at h7
                          have s7 := S5.out.heap hT7 h7
                          clear hI hdt0
                          have hnl : ¬ heapS hb v1 lb := by
                            rintro (h | h)
                            · omega
                            · have := hVB.out _ h; omega
                          have qr7 := rowIs_tch hT7 QR.out hnl
                          clear h7 hT7 hnl S5 QR q1 t1 dc hszr
                          have q1 : w7.cell? ⟨lb, 1, none⟩ = some (.int .i64 (lt : Int)) := qr7.cell (i := 1) (by omega)
                          have t1 := s7.t1
                          have dc := s7.dc lt0
                          rw [HDT.out] at dc
                          have z3 := qr7.lt
                          have QR := Lib.hid qr7; clear qr7
                          have S5 := Lib.hid s7; clear s7
                          have df : ∀ o, w7.frozen? ⟨db, o, none⟩ = false := fun o => S5.out.d.frozen o
                          by_cases hcd : c < dt
                          · have hcd' : (c : Int) < (dt : Int) := by omega
                            have e2 := HA2.out
                            rw [if_pos hcd] at e2
                            clear HA2
                            subst e2
                            go_wp2_with fail
                            have t2 := S5.out.t2
                            obtain ⟨pf0, hpf0, hpr0⟩ := S5.out.p
                            have y0 := hpr0.cell (i := lt * 2) (by omega)
                            have y1 := hpr0.cell (i := lt * 2 + 1) (by omega)
                            have yf : ∀ o, w7.frozen? ⟨pb, o, none⟩ = false := fun o => hpr0.frozen o
                            clear hpf0 hpr0
                            unfold parRow at y0 y1
                            have e3 : db ≠ pb := S5.out.o.dp
                            have e4 : lb ≠ db := by have := S5.out.o.dh; omega
                            have e5 : lb ≠ pb := by have := S5.out.o.ph; omega
                            have e6 : tb ≠ db := S5.out.o.td
                            have e7 : tb ≠ pb := S5.out.o.tp
                            refine wp_region_lastM (fun w' => w'.cell? ⟨tb, 1, none⟩ = some (.slice (some ⟨db, 0, none⟩) 128 128) ∧ w'.cell? ⟨tb, 2, none⟩ = some (.slice (some ⟨pb, 0, none⟩) 128 128) ∧ w'.cell? ⟨lb, 1, none⟩ = some (.int .i64 (lt : Int))) 13 (by kernel_rfl) (by (try dsimp only); first | exact ⟨t1, t2, q1⟩ | go_keep) (fun hSS hcl => ?_)
                            refine wpAnyM_take (n := 15) (i := 0) (v := ?_) rfl (by kernel_rfl) (by kernel_rfl) (by kernel_rfl) rfl (by kernel_rfl) hcl (fun _ _ _ h => h) (Or.inr hSS) (Or.inl ⟨by rfl, ?_⟩) (fun hcl2 => ?_)
                            rotate_left
                            · intro w hSw
                              (try dsimp only at hSw)
                              go_simp
                              try with_reducible rfl
                            clear hcl
                            have hcl := hcl2; clear hcl2
                            try simp only [Act.put]
                            refine wpAnyM_take (n := 15) (i := 1) (v := ?_) rfl (by kernel_rfl) (by kernel_rfl) (by kernel_rfl) rfl (by kernel_rfl) hcl (fun _ _ _ h => h) (Or.inr hSS) (Or.inl ⟨by rfl, ?_⟩) (fun hcl2 => ?_)
                            rotate_left
                            · intro w hSw
                              (try dsimp only at hSw)
                              go_simp
                              try with_reducible rfl
                            clear hcl
                            have hcl := hcl2; clear hcl2
                            try simp only [Act.put]
                            refine wpAnyM_take (n := 15) (i := 2) (v := ?_) rfl (by kernel_rfl) (by kernel_rfl) (by kernel_rfl) rfl (by kernel_rfl) hcl (fun _ _ _ h => h) (Or.inr hSS) (Or.inl ⟨by rfl, ?_⟩) (fun hcl2 => ?_)
                            rotate_left
                            · intro w hSw
                              (try dsimp only at hSw)
                              go_simp
                              try with_reducible rfl
                            clear hcl
                            have hcl := hcl2; clear hcl2
                            try simp only [Act.put]
                            refine wpAnyM_take (n := 15) (i := 3) (v := ?_) rfl (by kernel_rfl) (by kernel_rfl) (by kernel_rfl) rfl (by kernel_rfl) hcl (fun _ _ _ h => h) (Or.inr hSS) (Or.inl ⟨by rfl, ?_⟩) (fun hcl2 => ?_)
                            rotate_left
                            · intro w hSw
                              (try dsimp only at hSw)
                              go_simp
                              try with_reducible rfl
                            clear hcl
                            have hcl := hcl2; clear hcl2
                            try simp only [Act.put]
                            refine wpAnyM_take (n := 15) (i := 4) (v := ?_) rfl (by kernel_rfl) (by kernel_rfl) (by kernel_rfl) rfl (by kernel_rfl) hcl (fun _ _ _ h => h) (Or.inr hSS) (Or.inl ⟨by rfl, ?_⟩) (fun hcl2 => ?_)
                            rotate_left
                            · intro w hSw
                              (try dsimp only at hSw)
                              go_simp
                              try with_reducible rfl
                            clear hcl
                            have hcl := hcl2; clear hcl2
                            try simp only [Act.put]
                            refine wpAnyM_take (n := 15) (i := 5) (v := ?_) rfl (by kernel_rfl) (by kernel_rfl) (by kernel_rfl) rfl (by kernel_rfl) hcl (fun _ _ _ h => h) (Or.inr hSS) (Or.inl ⟨by rfl, ?_⟩) (fun hcl2 => ?_)
                            rotate_left
                            · intro w hSw
                              (try dsimp only at hSw)
                              go_simp
                              try with_reducible rfl
                            clear hcl
                            have hcl := hcl2; clear hcl2
                            try simp only [Act.put]
                            refine wpAnyM_take (n := 15) (i := 6) (v := ?_) rfl (by kernel_rfl) (by kernel_rfl) (by kernel_rfl) rfl (by kernel_rfl) hcl (fun _ _ _ h => h) (Or.inr hSS) (Or.inl ⟨by rfl, ?_⟩) (fun hcl2 => ?_)
                            rotate_left
                            · intro w hSw
                              (try dsimp only at hSw)
                              go_simp
                              try with_reducible rfl
                            clear hcl
                            have hcl := hcl2; clear hcl2
                            try simp only [Act.put]
                            refine wpAnyM_take (n := 15) (i := 7) (v := ?_) rfl (by kernel_rfl) (by kernel_rfl) (by kernel_rfl) rfl (by kernel_rfl) hcl (fun _ _ _ h => h) (Or.inr hSS) (Or.inl ⟨by rfl, ?_⟩) (fun hcl2 => ?_)
                            rotate_left
                            · intro w hSw
                              (try dsimp only at hSw)
                              go_simp
                              try with_reducible rfl
                            clear hcl
                            have hcl := hcl2; clear hcl2
                            try simp only [Act.put]
                            refine wpAnyM_take (n := 15) (i := 8) (v := ?_) rfl (by kernel_rfl) (by kernel_rfl) (by kernel_rfl) rfl (by kernel_rfl) hcl (fun _ _ _ h => h) (Or.inr hSS) (Or.inl ⟨by rfl, ?_⟩) (fun hcl2 => ?_)
                            rotate_left
                            · intro w hSw
                              (try dsimp only at hSw)
                              go_simp
                              try with_reducible rfl
                            clear hcl
                            have hcl := hcl2; clear hcl2
                            try simp only [Act.put]
                            refine wpAnyM_take (n := 15) (i := 9) (v := ?_) rfl (by kernel_rfl) (by kernel_rfl) (by kernel_rfl) rfl (by kernel_rfl) hcl (fun _ _ _ h => h) (Or.inr hSS) (Or.inl ⟨by rfl, ?_⟩) (fun hcl2 => ?_)
                            rotate_left
                            · intro w hSw
                              (try dsimp only at hSw)
                              go_simp
                              try with_reducible rfl
                            clear hcl
                            have hcl := hcl2; clear hcl2
                            try simp only [Act.put]
                            refine wpAnyM_take (n := 15) (i := 10) (v := ?_) rfl (by kernel_rfl) (by kernel_rfl) (by kernel_rfl) rfl (by kernel_rfl) hcl (fun _ _ _ h => h) (Or.inr hSS) (Or.inl ⟨by rfl, ?_⟩) (fun hcl2 => ?_)
                            rotate_left
                            · intro w hSw
                              (try dsimp only at hSw)
                              go_simp
                              try with_reducible rfl
                            clear hcl
                            have hcl := hcl2; clear hcl2
                            try simp only [Act.put]
                            refine wpAnyM_one (i := 11) rfl (by kernel_rfl) hcl (fun K hK0 => ?_)
                            have hK := Lib.hid hK0; clear hK0
                            go_simp
                            refine hK.out _ _ ?_ (fun hSS2 hcl2 => ?_)
                            · refine Or.inr ?_
                              (try dsimp only)
                              go_split_ands
                              refine ⟨?_, ?_, ?_⟩
                              · exact cell_set_far e6 t1
                              · exact cell_set_far e6 t2
                              · exact cell_set_far e4 q1
                            clear hcl hK K
                            have hSS3 := hSS2.resolve_left (fun h => Bool.noConfusion (show false = true from h)); clear hSS2 hSS; have hSS := hSS3; clear hSS3
                            have hcl := hcl2; clear hcl2
                            try simp only [Act.put]
                            refine wpAnyM_take (n := 15) (i := 12) (v := ?_) rfl (by kernel_rfl) (by kernel_rfl) (by kernel_rfl) rfl (by kernel_rfl) hcl (fun _ _ _ h => h) (Or.inr hSS) (Or.inl ⟨by rfl, ?_⟩) (fun hcl2 => ?_)
                            rotate_left
                            · intro w hSw
                              (try dsimp only at hSw)
                              go_simp
                              try with_reducible rfl
                            clear hcl
                            have hcl := hcl2; clear hcl2
                            try simp only [Act.put]
                            refine wpAnyM_one (i := 13) rfl (by kernel_rfl) hcl (fun K hK0 => ?_)
                            have hK := Lib.hid hK0; clear hK0
                            go_simp
                            refine hK.out _ _ ?_ (fun hSS2 hcl2 => ?_)
                            · exact Or.inl (by kernel_rfl)
                            clear hcl hK K
                            have hcl := hcl2; clear hcl2
                            try simp only [Act.put]
                            refine wpAnyM_done (by kernel_rfl) ?_ _
                            have s8 : TreeSt w root tb db pb hp hb (D1.set lt c) _ _ (((w7.setCell ⟨db, lt, none⟩ (.int .i64 (c : Int))).setCell ⟨pb, lt * 2, none⟩ (.int .u64 0)).setCell ⟨pb, lt * 2 + 1, none⟩ (.int .u64 0)).drew := (((S5.out.setD c lt0).setP (lt * 2) 0 (Nat.two_pow_pos 64)).setP (lt * 2 + 1) 0 (Nat.two_pow_pos 64)).drew
                            have qr8 : (((w7.setCell ⟨db, lt, none⟩ (.int .i64 (c : Int))).setCell ⟨pb, lt * 2, none⟩ (.int .u64 0)).setCell ⟨pb, lt * 2 + 1, none⟩ (.int .u64 0)).drew.rowIs lb 43 4 (lkRow ⟨lf, lt, lc, ld⟩) := (((QR.out.setOther (a := ⟨db, lt, none⟩) e4 _).setOther (a := ⟨pb, lt * 2, none⟩) e5 _).setOther (a := ⟨pb, lt * 2 + 1, none⟩) e5 _).drew
                            clear QR S5 q1 t1 t2 dc df y0 y1 yf z3 e3 e4 e5 e6 e7 hSS hcl
                            generalize World.drew (World.setCell (World.setCell (World.setCell _ _ _) _ _) _ _) = w9 at *
                            have q1 : w9.cell? ⟨lb, 1, none⟩ = some (.int .i64 (lt : Int)) := qr8.cell (i := 1) (by omega)
                            have z3 := qr8.lt
                            have S8 := Lib.hid s8; clear s8 qr8
                            go_wp2_with fail
                            obtain ⟨pf, hpf, hpr⟩ := S8.out.p
                            have y0 := hpr.cell (i := lt * 2) (by omega)
                            have y1 := hpr.cell (i := lt * 2 + 1) (by omega)
                            have yf : ∀ o, w9.frozen? ⟨pb, o, none⟩ = false := fun o => hpr.frozen o
                            have t2 := S8.out.t2
                            have hpf0 := hpf (lt * 2)
                            have hpf1 := hpf (lt * 2 + 1)
                            have z1 := S8.out.t.lt
                            have z2 := hpr.lt
                            clear hpf hpr
                            unfold parRow at y0 y1
                            generalize pf (lt * 2) = pa at *
                            generalize pf (lt * 2 + 1) = pc at *
                            refine wp_region_lastM (fun w' => w'.cell? ⟨tb, 2, none⟩ = some (.slice (some ⟨pb, 0, none⟩) 128 128) ∧ w'.cell? ⟨lb, 1, none⟩ = some (.int .i64 (lt : Int)) ∧ w'.cell? ⟨pb, lt * 2, none⟩ = some (.int .u64 (pa : Int)) ∧ w'.cell? ⟨pb, lt * 2 + 1, none⟩ = some (.int .u64 (pc : Int)) ∧ (∀ o, w'.frozen? ⟨pb, o, none⟩ = false)) 16 (by kernel_rfl) (by (try dsimp only); first | exact ⟨t2, q1, y0, y1, yf⟩ | go_keep) (fun hSS hcl => ?_)
                            refine wpAnyM_take (n := 18) (i := 0) (v := ?_) rfl (by kernel_rfl) (by kernel_rfl) (by kernel_rfl) rfl (by kernel_rfl) hcl (fun _ _ _ h => h) (Or.inr hSS) (Or.inl ⟨by rfl, ?_⟩) (fun hcl2 => ?_)
                            rotate_left
                            · intro w hSw
                              (try dsimp only at hSw)
                              go_simp
                              try with_reducible rfl
                            clear hcl
                            have hcl := hcl2; clear hcl2
                            try simp only [Act.put]
                            refine wpAnyM_take (n := 18) (i := 1) (v := ?_) rfl (by kernel_rfl) (by kernel_rfl) (by kernel_rfl) rfl (by kernel_rfl) hcl (fun _ _ _ h => h) (Or.inr hSS) (Or.inl ⟨by rfl, ?_⟩) (fun hcl2 => ?_)
                            rotate_left
                            · intro w hSw
                              (try dsimp only at hSw)
                              go_simp
                              try with_reducible rfl
                            clear hcl
                            have hcl := hcl2; clear hcl2
                            try simp only [Act.put]
                            refine wpAnyM_take (n := 18) (i := 2) (v := ?_) rfl (by kernel_rfl) (by kernel_rfl) (by kernel_rfl) rfl (by kernel_rfl) hcl (fun _ _ _ h => h) (Or.inr hSS) (Or.inl ⟨by rfl, ?_⟩) (fun hcl2 => ?_)
                            rotate_left
                            · intro w hSw
                              (try dsimp only at hSw)
                              go_simp
                              try with_reducible rfl
                            clear hcl
                            have hcl := hcl2; clear hcl2
                            try simp only [Act.put]
                            refine wpAnyM_take (n := 18) (i := 3) (v := ?_) rfl (by kernel_rfl) (by kernel_rfl) (by kernel_rfl) rfl (by kernel_rfl) hcl (fun _ _ _ h => h) (Or.inr hSS) (Or.inl ⟨by rfl, ?_⟩) (fun hcl2 => ?_)
                            rotate_left
                            · intro w hSw
                              (try dsimp only at hSw)
                              go_simp
                              try with_reducible rfl
                            clear hcl
                            have hcl := hcl2; clear hcl2
                            try simp only [Act.put]
                            refine wpAnyM_take (n := 18) (i := 4) (v := ?_) rfl (by kernel_rfl) (by kernel_rfl) (by kernel_rfl) rfl (by kernel_rfl) hcl (fun _ _ _ h => h) (Or.inr hSS) (Or.inl ⟨by rfl, ?_⟩) (fun hcl2 => ?_)
                            rotate_left
                            · intro w hSw
                              (try dsimp only at hSw)
                              go_simp
                              try with_reducible rfl
                            clear hcl
                            have hcl := hcl2; clear hcl2
                            try simp only [Act.put]
                            refine wpAnyM_take (n := 18) (i := 5) (v := ?_) rfl (by kernel_rfl) (by kernel_rfl) (by kernel_rfl) rfl (by kernel_rfl) hcl (fun _ _ _ h => h) (Or.inr hSS) (Or.inl ⟨by rfl, ?_⟩) (fun hcl2 => ?_)
                            rotate_left
                            · intro w hSw
                              (try dsimp only at hSw)
                              go_simp
                              try with_reducible rfl
                            clear hcl
                            have hcl := hcl2; clear hcl2
                            try simp only [Act.put]
                            refine wpAnyM_take (n := 18) (i := 6) (v := ?_) rfl (by kernel_rfl) (by kernel_rfl) (by kernel_rfl) rfl (by kernel_rfl) hcl (fun _ _ _ h => h) (Or.inr hSS) (Or.inl ⟨by rfl, ?_⟩) (fun hcl2 => ?_)
                            rotate_left
                            · intro w hSw
                              (try dsimp only at hSw)
                              go_simp
                              try with_reducible rfl
                            clear hcl
                            have hcl := hcl2; clear hcl2
                            try simp only [Act.put]
                            refine wpAnyM_take (n := 18) (i := 7) (v := ?_) rfl (by kernel_rfl) (by kernel_rfl) (by kernel_rfl) rfl (by kernel_rfl) hcl (fun _ _ _ h => h) (Or.inr hSS) (Or.inl ⟨by rfl, ?_⟩) (fun hcl2 => ?_)
                            rotate_left
                            · intro w hSw
                              (try dsimp only at hSw)
                              go_simp
                              try with_reducible rfl
                            clear hcl
                            have hcl := hcl2; clear hcl2
                            try simp only [Act.put]
                            refine wpAnyM_take (n := 18) (i := 8) (v := ?_) rfl (by kernel_rfl) (by kernel_rfl) (by kernel_rfl) rfl (by kernel_rfl) hcl (fun _ _ _ h => h) (Or.inr hSS) (Or.inl ⟨by rfl, ?_⟩) (fun hcl2 => ?_)
                            rotate_left
                            · intro w hSw
                              (try dsimp only at hSw)
                              go_simp
                              try with_reducible rfl
                            clear hcl
                            have hcl := hcl2; clear hcl2
                            try simp only [Act.put]
                            refine wpAnyM_take (n := 18) (i := 9) (v := ?_) rfl (by kernel_rfl) (by kernel_rfl) (by kernel_rfl) rfl (by kernel_rfl) hcl (fun _ _ _ h => h) (Or.inr hSS) (Or.inl ⟨by rfl, ?_⟩) (fun hcl2 => ?_)
                            rotate_left
                            · intro w hSw
                              (try dsimp only at hSw)
                              go_simp
                              try with_reducible rfl
                            clear hcl
                            have hcl := hcl2; clear hcl2
                            try simp only [Act.put]
                            refine wpAnyM_take (n := 18) (i := 10) (v := ?_) rfl (by kernel_rfl) (by kernel_rfl) (by kernel_rfl) rfl (by kernel_rfl) hcl (fun _ _ _ h => h) (Or.inr hSS) (Or.inl ⟨by rfl, ?_⟩) (fun hcl2 => ?_)
                            rotate_left
                            · intro w hSw
                              (try dsimp only at hSw)
                              go_simp
                              try with_reducible rfl
                            clear hcl
                            have hcl := hcl2; clear hcl2
                            try simp only [Act.put]
                            refine wpAnyM_one (i := 11) rfl (by kernel_rfl) hcl (fun K hK0 => ?_)
                            have hK := Lib.hid hK0; clear hK0
                            go_simp
                            have h37 := With37 pa pc (u : Int) w9.drew hpf0 hpf1 hu0 (by omega)
                            simp only [setV, Int.toNat_natCast] at h37
                            refine h37.mono ?_
                            clear h37
                            rintro e w8 ⟨rfl, hB8⟩
                            (try dsimp only)
                            simp only [setV]
                            refine hK.out _ _ ?_ (fun hSS2 hcl2 => ?_)
                            · refine Or.inr ?_
                              (try dsimp only)
                              go_split_ands
                              refine ⟨?_, ?_, ?_, ?_, ?_⟩
                              iterate 4 (rw [hB8.cell (by first | (simp; done) | (simp; omega))]; first | assumption | go_keep)
                              intro o; rw [hB8.frozen (by first | (simp; done) | (simp; omega))]; first | exact yf o | go_keep
                            clear hcl hK K
                            have hSS3 := hSS2.resolve_left (fun h => Bool.noConfusion (show false = true from h)); clear hSS2 hSS; have hSS := hSS3; clear hSS3
                            have hcl := hcl2; clear hcl2
                            try simp only [Act.put]
                            refine wpAnyM_take (n := 18) (i := 12) (v := ?_) rfl (by kernel_rfl) (by kernel_rfl) (by kernel_rfl) rfl (by kernel_rfl) hcl (fun _ _ _ h => h) (Or.inr hSS) (Or.inl ⟨by rfl, ?_⟩) (fun hcl2 => ?_)
                            rotate_left
                            · intro w hSw
                              (try dsimp only at hSw)
                              go_simp
                              try with_reducible rfl
                            clear hcl
                            have hcl := hcl2; clear hcl2
                            try simp only [Act.put]
                            refine wpAnyM_take (n := 18) (i := 13) (v := ?_) rfl (by kernel_rfl) (by kernel_rfl) (by kernel_rfl) rfl (by kernel_rfl) hcl (fun _ _ _ h => h) (Or.inr hSS) (Or.inl ⟨by rfl, ?_⟩) (fun hcl2 => ?_)
                            rotate_left
                            · intro w hSw
                              (try dsimp only at hSw)
                              go_simp
                              try with_reducible rfl
                            clear hcl
                            have hcl := hcl2; clear hcl2
                            try simp only [Act.put]
                            refine wpAnyM_free (i := 14) (v := ?_) rfl (by kernel_rfl) (by kernel_rfl) (by kernel_rfl) rfl hcl (fun _ _ _ h => h) (Or.inr hSS) (Or.inl ⟨by rfl, ?_⟩) (fun hcl2 => ?_)
                            rotate_left
                            · intro w hSw
                              (try dsimp only at hSw)
                              go_simp
                              try with_reducible rfl
                            clear hcl
                            have hcl := hcl2; clear hcl2
                            try simp only [Act.put]
                            refine wpAnyM_take (n := 18) (i := 15) (v := ?_) rfl (by kernel_rfl) (by kernel_rfl) (by kernel_rfl) rfl (by kernel_rfl) hcl (fun _ _ _ h => h) (Or.inr hSS) (Or.inl ⟨by rfl, ?_⟩) (fun hcl2 => ?_)
                            rotate_left
                            · intro w hSw
                              (try dsimp only at hSw)
                              go_simp
                              try with_reducible rfl
                            clear hcl
                            have hcl := hcl2; clear hcl2
                            try simp only [Act.put]
                            refine wpAnyM_one (i := 16) rfl (by kernel_rfl) hcl (fun K hK0 => ?_)
                            have hK := Lib.hid hK0; clear hK0
                            go_simp
                            refine hK.out _ _ ?_ (fun hSS2 hcl2 => ?_)
                            · exact Or.inl (by kernel_rfl)
                            clear hcl hK K
                            have hcl := hcl2; clear hcl2
                            try simp only [Act.put]
                            refine wpAnyM_done (by kernel_rfl) ?_ _
                            have sw := ((S8.out.drew.below' hB8).setP (lt * 2) (pa ||| oneLo u) (Nat.or_lt_two_pow hpf0 (oneLo_lt u))).setP (lt * 2 + 1) (pc ||| oneHi u) (Nat.or_lt_two_pow hpf1 (oneHi_lt hu))
                            generalize hw9 : World.setCell (World.setCell w8 _ _) _ _ = w9z at *
                            clear hw9 hSS hcl hB8 y0 y1 yf t2 z1 z2 hpf0 hpf1 q1
                            have SW := Lib.hid sw; clear sw
                            go_wp2_with fail
                            go_roundw
                            case rel => exact ⟨j + 1, _, _, _, by simp, hlt, SW.out, HAA.out⟩
                            case measure => simp [intOf]; omega
                          · have hcd' : ¬ ((c : Int) < (dt : Int)) := by omega
                            have e2 := HA2.out
                            rw [if_neg hcd] at e2
                            clear HA2 df
                            subst e2
                            go_wp2_with fail
                            obtain ⟨pf, hpf, hpr⟩ := S5.out.p
                            have y0 := hpr.cell (i := lt * 2) (by omega)
                            have y1 := hpr.cell (i := lt * 2 + 1) (by omega)
                            have yf : ∀ o, w7.frozen? ⟨pb, o, none⟩ = false := fun o => hpr.frozen o
                            have t2 := S5.out.t2
                            have hpf0 := hpf (lt * 2)
                            have hpf1 := hpf (lt * 2 + 1)
                            have z1 := S5.out.t.lt
                            have z2 := hpr.lt
                            clear hpf hpr
                            unfold parRow at y0 y1
                            generalize pf (lt * 2) = pa at *
                            generalize pf (lt * 2 + 1) = pc at *
                            refine wp_region_lastM (fun w' => w'.cell? ⟨tb, 2, none⟩ = some (.slice (some ⟨pb, 0, none⟩) 128 128) ∧ w'.cell? ⟨lb, 1, none⟩ = some (.int .i64 (lt : Int)) ∧ w'.cell? ⟨pb, lt * 2, none⟩ = some (.int .u64 (pa : Int)) ∧ w'.cell? ⟨pb, lt * 2 + 1, none⟩ = some (.int .u64 (pc : Int)) ∧ (∀ o, w'.frozen? ⟨pb, o, none⟩ = false)) 16 (by kernel_rfl) (by (try dsimp only); first | exact ⟨t2, q1, y0, y1, yf⟩ | go_keep) (fun hSS hcl => ?_)
                            refine wpAnyM_take (n := 18) (i := 0) (v := ?_) rfl (by kernel_rfl) (by kernel_rfl) (by kernel_rfl) rfl (by kernel_rfl) hcl (fun _ _ _ h => h) (Or.inr hSS) (Or.inl ⟨by rfl, ?_⟩) (fun hcl2 => ?_)
                            rotate_left
                            · intro w hSw
                              (try dsimp only at hSw)
                              go_simp
                              try with_reducible rfl
                            clear hcl
                            have hcl := hcl2; clear hcl2
                            try simp only [Act.put]
                            refine wpAnyM_take (n := 18) (i := 1) (v := ?_) rfl (by kernel_rfl) (by kernel_rfl) (by kernel_rfl) rfl (by kernel_rfl) hcl (fun _ _ _ h => h) (Or.inr hSS) (Or.inl ⟨by rfl, ?_⟩) (fun hcl2 => ?_)
                            rotate_left
                            · intro w hSw
                              (try dsimp only at hSw)
                              go_simp
                              try with_reducible rfl
                            clear hcl
                            have hcl := hcl2; clear hcl2
                            try simp only [Act.put]
                            refine wpAnyM_take (n := 18) (i := 2) (v := ?_) rfl (by kernel_rfl) (by kernel_rfl) (by kernel_rfl) rfl (by kernel_rfl) hcl (fun _ _ _ h => h) (Or.inr hSS) (Or.inl ⟨by rfl, ?_⟩) (fun hcl2 => ?_)
                            rotate_left
                            · intro w hSw
                              (try dsimp only at hSw)
                              go_simp
                              try with_reducible rfl
                            clear hcl
                            have hcl := hcl2; clear hcl2
                            try simp only [Act.put]
                            refine wpAnyM_take (n := 18) (i := 3) (v := ?_) rfl (by kernel_rfl) (by kernel_rfl) (by kernel_rfl) rfl (by kernel_rfl) hcl (fun _ _ _ h => h) (Or.inr hSS) (Or.inl ⟨by rfl, ?_⟩) (fun hcl2 => ?_)
                            rotate_left
                            · intro w hSw
                              (try dsimp only at hSw)
                              go_simp
                              try with_reducible rfl
                            clear hcl
                            have hcl := hcl2; clear hcl2
                            try simp only [Act.put]
                            refine wpAnyM_take (n := 18) (i := 4) (v := ?_) rfl (by kernel_rfl) (by kernel_rfl) (by kernel_rfl) rfl (by kernel_rfl) hcl (fun _ _ _ h => h) (Or.inr hSS) (Or.inl ⟨by rfl, ?_⟩) (fun hcl2 => ?_)
                            rotate_left
                            · intro w hSw
                              (try dsimp only at hSw)
                              go_simp
                              try with_reducible rfl
                            clear hcl
                            have hcl := hcl2; clear hcl2
                            try simp only [Act.put]
                            refine wpAnyM_take (n := 18) (i := 5) (v := ?_) rfl (by kernel_rfl) (by kernel_rfl) (by kernel_rfl) rfl (by kernel_rfl) hcl (fun _ _ _ h => h) (Or.inr hSS) (Or.inl ⟨by rfl, ?_⟩) (fun hcl2 => ?_)
                            rotate_left
                            · intro w hSw
                              (try dsimp only at hSw)
                              go_simp
                              try with_reducible rfl
                            clear hcl
                            have hcl := hcl2; clear hcl2
                            try simp only [Act.put]
                            refine wpAnyM_take (n := 18) (i := 6) (v := ?_) rfl (by kernel_rfl) (by kernel_rfl) (by kernel_rfl) rfl (by kernel_rfl) hcl (fun _ _ _ h => h) (Or.inr hSS) (Or.inl ⟨by rfl, ?_⟩) (fun hcl2 => ?_)
                            rotate_left
                            · intro w hSw
                              (try dsimp only at hSw)
                              go_simp
                              try with_reducible rfl
                            clear hcl
                            have hcl := hcl2; clear hcl2
                            try simp only [Act.put]
                            refine wpAnyM_take (n := 18) (i := 7) (v := ?_) rfl (by kernel_rfl) (by kernel_rfl) (by kernel_rfl) rfl (by kernel_rfl) hcl (fun _ _ _ h => h) (Or.inr hSS) (Or.inl ⟨by rfl, ?_⟩) (fun hcl2 => ?_)
                            rotate_left
                            · intro w hSw
                              (try dsimp only at hSw)
                              go_simp
                              try with_reducible rfl
                            clear hcl
                            have hcl := hcl2; clear hcl2
                            try simp only [Act.put]
                            refine wpAnyM_take (n := 18) (i := 8) (v := ?_) rfl (by kernel_rfl) (by kernel_rfl) (by kernel_rfl) rfl (by kernel_rfl) hcl (fun _ _ _ h => h) (Or.inr hSS) (Or.inl ⟨by rfl, ?_⟩) (fun hcl2 => ?_)
                            rotate_left
                            · intro w hSw
                              (try dsimp only at hSw)
                              go_simp
                              try with_reducible rfl
                            clear hcl
                            have hcl := hcl2; clear hcl2
                            try simp only [Act.put]
                            refine wpAnyM_take (n := 18) (i := 9) (v := ?_) rfl (by kernel_rfl) (by kernel_rfl) (by kernel_rfl) rfl (by kernel_rfl) hcl (fun _ _ _ h => h) (Or.inr hSS) (Or.inl ⟨by rfl, ?_⟩) (fun hcl2 => ?_)
                            rotate_left
                            · intro w hSw
                              (try dsimp only at hSw)
                              go_simp
                              try with_reducible rfl
                            clear hcl
                            have hcl := hcl2; clear hcl2
                            try simp only [Act.put]
                            refine wpAnyM_take (n := 18) (i := 10) (v := ?_) rfl (by kernel_rfl) (by kernel_rfl) (by kernel_rfl) rfl (by kernel_rfl) hcl (fun _ _ _ h => h) (Or.inr hSS) (Or.inl ⟨by rfl, ?_⟩) (fun hcl2 => ?_)
                            rotate_left
                            · intro w hSw
                              (try dsimp only at hSw)
                              go_simp
                              try with_reducible rfl
                            clear hcl
                            have hcl := hcl2; clear hcl2
                            try simp only [Act.put]
                            refine wpAnyM_one (i := 11) rfl (by kernel_rfl) hcl (fun K hK0 => ?_)
                            have hK := Lib.hid hK0; clear hK0
                            go_simp
                            have h37 := With37 pa pc (u : Int) w7.drew hpf0 hpf1 hu0 (by omega)
                            simp only [setV, Int.toNat_natCast] at h37
                            refine h37.mono ?_
                            clear h37
                            rintro e w8 ⟨rfl, hB8⟩
                            (try dsimp only)
                            simp only [setV]
                            refine hK.out _ _ ?_ (fun hSS2 hcl2 => ?_)
                            · refine Or.inr ?_
                              (try dsimp only)
                              go_split_ands
                              refine ⟨?_, ?_, ?_, ?_, ?_⟩
                              iterate 4 (rw [hB8.cell (by first | (simp; done) | (simp; omega))]; first | assumption | go_keep)
                              intro o; rw [hB8.frozen (by first | (simp; done) | (simp; omega))]; first | exact yf o | go_keep
                            clear hcl hK K
                            have hSS3 := hSS2.resolve_left (fun h => Bool.noConfusion (show false = true from h)); clear hSS2 hSS; have hSS := hSS3; clear hSS3
                            have hcl := hcl2; clear hcl2
                            try simp only [Act.put]
                            refine wpAnyM_take (n := 18) (i := 12) (v := ?_) rfl (by kernel_rfl) (by kernel_rfl) (by kernel_rfl) rfl (by kernel_rfl) hcl (fun _ _ _ h => h) (Or.inr hSS) (Or.inl ⟨by rfl, ?_⟩) (fun hcl2 => ?_)
                            rotate_left
                            · intro w hSw
                              (try dsimp only at hSw)
                              go_simp
                              try with_reducible rfl
                            clear hcl
                            have hcl := hcl2; clear hcl2
                            try simp only [Act.put]
                            refine wpAnyM_take (n := 18) (i := 13) (v := ?_) rfl (by kernel_rfl) (by kernel_rfl) (by kernel_rfl) rfl (by kernel_rfl) hcl (fun _ _ _ h => h) (Or.inr hSS) (Or.inl ⟨by rfl, ?_⟩) (fun hcl2 => ?_)
                            rotate_left
                            · intro w hSw
                              (try dsimp only at hSw)
                              go_simp
                              try with_reducible rfl
                            clear hcl
                            have hcl := hcl2; clear hcl2
                            try simp only [Act.put]
                            refine wpAnyM_free (i := 14) (v := ?_) rfl (by kernel_rfl) (by kernel_rfl) (by kernel_rfl) rfl hcl (fun _ _ _ h => h) (Or.inr hSS) (Or.inl ⟨by rfl, ?_⟩) (fun hcl2 => ?_)
                            rotate_left
                            · intro w hSw
                              (try dsimp only at hSw)
                              go_simp
                              try with_reducible rfl
                            clear hcl
                            have hcl := hcl2; clear hcl2
                            try simp only [Act.put]
                            refine wpAnyM_take (n := 18) (i := 15) (v := ?_) rfl (by kernel_rfl) (by kernel_rfl) (by kernel_rfl) rfl (by kernel_rfl) hcl (fun _ _ _ h => h) (Or.inr hSS) (Or.inl ⟨by rfl, ?_⟩) (fun hcl2 => ?_)
                            rotate_left
                            · intro w hSw
                              (try dsimp only at hSw)
                              go_simp
                              try with_reducible rfl
                            clear hcl
                            have hcl := hcl2; clear hcl2
                            try simp only [Act.put]
                            refine wpAnyM_one (i := 16) rfl (by kernel_rfl) hcl (fun K hK0 => ?_)
                            have hK := Lib.hid hK0; clear hK0
                            go_simp
                            refine hK.out _ _ ?_ (fun hSS2 hcl2 => ?_)
                            · exact Or.inl (by kernel_rfl)
                            clear hcl hK K
                            have hcl := hcl2; clear hcl2
                            try simp only [Act.put]
                            refine wpAnyM_done (by kernel_rfl) ?_ _
                            have sw := ((S5.out.drew.below' hB8).setP (lt * 2) (pa ||| oneLo u) (Nat.or_lt_two_pow hpf0 (oneLo_lt u))).setP (lt * 2 + 1) (pc ||| oneHi u) (Nat.or_lt_two_pow hpf1 (oneHi_lt hu))
                            generalize hw9 : World.setCell (World.setCell w8 _ _) _ _ = w9z at *
                            clear hw9 hSS hcl hB8 y0 y1 yf t2 z1 z2 hpf0 hpf1 q1
                            have SW := Lib.hid sw; clear sw
                            go_wp2_with fail
                            go_roundw
                            case rel => exact ⟨j + 1, _, _, _, by simp, hlt, SW.out, HAA.out⟩
                            case measure => simp [intOf]; omega
                        · have hne' : ¬ ((dt : Int) = 1073741824) := by omega
                          have hcd' : (c : Int) < (dt : Int) := by omega
                          subst ha3
                          go_wp2_with fail
                          refine (Lower57 (lt : Int) (c : Int) _ S5.out.h hlt2 (by omega) (by omega) (by rw [Int.toNat_natCast]; exact ha0) (by rw [Int.toNat_natCast]; exact ha1) (by rw [Int.toNat_natCast, Int.toNat_natCast]; exact ha2)).mono ?_
                          rintro e w7 ⟨⟨xv, rfl⟩, h7, hT7⟩
                          rw [Int.toNat_natCast, Int.toNat_natCast] at h7
                          have s7 := S5.out.heap hT7 h7
                          have hnl : ¬ heapS hb v1 lb := by
                            rintro (h | h)
                            · omega
                            · have := hVB.out _ h; omega
                          have qr7 := rowIs_tch hT7 QR.out hnl
                          clear h7 hT7 hnl S5 QR q1 t1 dc hszr
                          have q1 : w7.cell? ⟨lb, 1, none⟩ = some (.int .i64 (lt : Int)) := qr7.cell (i := 1) (by omega)
                          have t1 := s7.t1
                          have dc := s7.dc lt0
                          rw [HDT.out] at dc
                          have z3 := qr7.lt
                          have QR := Lib.hid qr7; clear qr7
                          have S5 := Lib.hid s7; clear s7
                          have df : ∀ o, w7.frozen? ⟨db, o, none⟩ = false := fun o => S5.out.d.frozen o
                          go_wp2_with fail
                          have t2 := S5.out.t2
                          obtain ⟨pf0, hpf0, hpr0⟩ := S5.out.p
                          have y0 := hpr0.cell (i := lt * 2) (by omega)
                          have y1 := hpr0.cell (i := lt * 2 + 1) (by omega)
                          have yf : ∀ o, w7.frozen? ⟨pb, o, none⟩ = false := fun o => hpr0.frozen o
                          clear hpf0 hpr0
                          unfold parRow at y0 y1
                          have e3 : db ≠ pb := S5.out.o.dp
                          have e4 : lb ≠ db := by have := S5.out.o.dh; omega
                          have e5 : lb ≠ pb := by have := S5.out.o.ph; omega
                          have e6 : tb ≠ db := S5.out.o.td
                          have e7 : tb ≠ pb := S5.out.o.tp
                          refine wp_region_lastM (fun w' => w'.cell? ⟨tb, 1, none⟩ = some (.slice (some ⟨db, 0, none⟩) 128 128) ∧ w'.cell? ⟨tb, 2, none⟩ = some (.slice (some ⟨pb, 0, none⟩) 128 128) ∧ w'.cell? ⟨lb, 1, none⟩ = some (.int .i64 (lt : Int))) 13 (by kernel_rfl) (by (try dsimp only); first | exact ⟨t1, t2, q1⟩ | go_keep) (fun hSS hcl => ?_)
                          refine wpAnyM_take (n := 15) (i := 0) (v := ?_) rfl (by kernel_rfl) (by kernel_rfl) (by kernel_rfl) rfl (by kernel_rfl) hcl (fun _ _ _ h => h) (Or.inr hSS) (Or.inl ⟨by rfl, ?_⟩) (fun hcl2 => ?_)
                          rotate_left
                          · intro w hSw
                            (try dsimp only at hSw)
                            go_simp
                            try with_reducible rfl
                          clear hcl
                          have hcl := hcl2; clear hcl2
                          try simp only [Act.put]
                          refine wpAnyM_take (n := 15) (i := 1) (v := ?_) rfl (by kernel_rfl) (by kernel_rfl) (by kernel_rfl) rfl (by kernel_rfl) hcl (fun _ _ _ h => h) (Or.inr hSS) (Or.inl ⟨by rfl, ?_⟩) (fun hcl2 => ?_)
                          rotate_left
                          · intro w hSw
                            (try dsimp only at hSw)
                            go_simp
                            try with_reducible rfl
                          clear hcl
                          have hcl := hcl2; clear hcl2
                          try simp only [Act.put]
                          refine wpAnyM_take (n := 15) (i := 2) (v := ?_) rfl (by kernel_rfl) (by kernel_rfl) (by kernel_rfl) rfl (by kernel_rfl) hcl (fun _ _ _ h => h) (Or.inr hSS) (Or.inl ⟨by rfl, ?_⟩) (fun hcl2 => ?_)
                          rotate_left
                          · intro w hSw
                            (try dsimp only at hSw)
                            go_simp
                            try with_reducible rfl
                          clear hcl
                          have hcl := hcl2; clear hcl2
                          try simp only [Act.put]
                          refine wpAnyM_take (n := 15) (i := 3) (v := ?_) rfl (by kernel_rfl) (by kernel_rfl) (by kernel_rfl) rfl (by kernel_rfl) hcl (fun _ _ _ h => h) (Or.inr hSS) (Or.inl ⟨by rfl, ?_⟩) (fun hcl2 => ?_)
                          rotate_left
                          · intro w hSw
                            (try dsimp only at hSw)
                            go_simp
                            try with_reducible rfl
                          clear hcl
                          have hcl := hcl2; clear hcl2
                          try simp only [Act.put]
                          refine wpAnyM_take (n := 15) (i := 4) (v := ?_) rfl (by kernel_rfl) (by kernel_rfl) (by kernel_rfl) rfl (by kernel_rfl) hcl (fun _ _ _ h => h) (Or.inr hSS) (Or.inl ⟨by rfl, ?_⟩) (fun hcl2 => ?_)
                          rotate_left
                          · intro w hSw
                            (try dsimp only at hSw)
                            go_simp
                            try with_reducible rfl
                          clear hcl
                          have hcl := hcl2; clear hcl2
                          try simp only [Act.put]
                          refine wpAnyM_take (n := 15) (i := 5) (v := ?_) rfl (by kernel_rfl) (by kernel_rfl) (by kernel_rfl) rfl (by kernel_rfl) hcl (fun _ _ _ h => h) (Or.inr hSS) (Or.inl ⟨by rfl, ?_⟩) (fun hcl2 => ?_)
                          rotate_left
                          · intro w hSw
                            (try dsimp only at hSw)
                            go_simp
                            try with_reducible rfl
                          clear hcl
                          have hcl := hcl2; clear hcl2
                          try simp only [Act.put]
                          refine wpAnyM_take (n := 15) (i := 6) (v := ?_) rfl (by kernel_rfl) (by kernel_rfl) (by kernel_rfl) rfl (by kernel_rfl) hcl (fun _ _ _ h => h) (Or.inr hSS) (Or.inl ⟨by rfl, ?_⟩) (fun hcl2 => ?_)
                          rotate_left
                          · intro w hSw
                            (try dsimp only at hSw)
                            go_simp
                            try with_reducible rfl
                          clear hcl
                          have hcl := hcl2; clear hcl2
                          try simp only [Act.put]
                          refine wpAnyM_take (n := 15) (i := 7) (v := ?_) rfl (by kernel_rfl) (by kernel_rfl) (by kernel_rfl) rfl (by kernel_rfl) hcl (fun _ _ _ h => h) (Or.inr hSS) (Or.inl ⟨by rfl, ?_⟩) (fun hcl2 => ?_)
                          rotate_left
                          · intro w hSw
                            (try dsimp only at hSw)
                            go_simp
                            try with_reducible rfl
                          clear hcl
                          have hcl := hcl2; clear hcl2
                          try simp only [Act.put]
                          refine wpAnyM_take (n := 15) (i := 8) (v := ?_) rfl (by kernel_rfl) (by kernel_rfl) (by kernel_rfl) rfl (by kernel_rfl) hcl (fun _ _ _ h => h) (Or.inr hSS) (Or.inl ⟨by rfl, ?_⟩) (fun hcl2 => ?_)
                          rotate_left
                          · intro w hSw
                            (try dsimp only at hSw)
                            go_simp
                            try with_reducible rfl
                          clear hcl
                          have hcl := hcl2; clear hcl2
                          try simp only [Act.put]
                          refine wpAnyM_take (n := 15) (i := 9) (v := ?_) rfl (by kernel_rfl) (by kernel_rfl) (by kernel_rfl) rfl (by kernel_rfl) hcl (fun _ _ _ h => h) (Or.inr hSS) (Or.inl ⟨by rfl, ?_⟩) (fun hcl2 => ?_)
                          rotate_left
                          · intro w hSw
                            (try dsimp only at hSw)
                            go_simp
                            try with_reducible rfl
                          clear hcl
                          have hcl := hcl2; clear hcl2
                          try simp only [Act.put]
                          refine wpAnyM_take (n := 15) (i := 10) (v := ?_) rfl (by kernel_rfl) (by kernel_rfl) (by kernel_rfl) rfl (by kernel_rfl) hcl (fun _ _ _ h => h) (Or.inr hSS) (Or.inl ⟨by rfl, ?_⟩) (fun hcl2 => ?_)
                          rotate_left
                          · intro w hSw
                            (try dsimp only at hSw)
                            go_simp
                            try with_reducible rfl
                          clear hcl
                          have hcl := hcl2; clear hcl2
                          try simp only [Act.put]
                          refine wpAnyM_one (i := 11) rfl (by kernel_rfl) hcl (fun K hK0 => ?_)
                          have hK := Lib.hid hK0; clear hK0
                          go_simp
                          refine hK.out _ _ ?_ (fun hSS2 hcl2 => ?_)
                          · refine Or.inr ?_
                            (try dsimp only)
                            go_split_ands
                            refine ⟨?_, ?_, ?_⟩
                            · exact cell_set_far e6 t1
                            · exact cell_set_far e6 t2
                            · exact cell_set_far e4 q1
                          clear hcl hK K
                          have hSS3 := hSS2.resolve_left (fun h => Bool.noConfusion (show false = true from h)); clear hSS2 hSS; have hSS := hSS3; clear hSS3
                          have hcl := hcl2; clear hcl2
                          try simp only [Act.put]
                          refine wpAnyM_take (n := 15) (i := 12) (v := ?_) rfl (by kernel_rfl) (by kernel_rfl) (by kernel_rfl) rfl (by kernel_rfl) hcl (fun _ _ _ h => h) (Or.inr hSS) (Or.inl ⟨by rfl, ?_⟩) (fun hcl2 => ?_)
                          rotate_left
                          · intro w hSw
                            (try dsimp only at hSw)
                            go_simp
                            try with_reducible rfl
                          clear hcl
                          have hcl := hcl2; clear hcl2
                          try simp only [Act.put]
                          refine wpAnyM_one (i := 13) rfl (by kernel_rfl) hcl (fun K hK0 => ?_)
                          have hK := Lib.hid hK0; clear hK0
                          go_simp
                          refine hK.out _ _ ?_ (fun hSS2 hcl2 => ?_)
                          · exact Or.inl (by kernel_rfl)
                          clear hcl hK K
                          have hcl := hcl2; clear hcl2
                          try simp only [Act.put]
                          refine wpAnyM_done (by kernel_rfl) ?_ _
                          have s8 : TreeSt w root tb db pb hp hb (D1.set lt c) _ _ (((w7.setCell ⟨db, lt, none⟩ (.int .i64 (c : Int))).setCell ⟨pb, lt * 2, none⟩ (.int .u64 0)).setCell ⟨pb, lt * 2 + 1, none⟩ (.int .u64 0)).drew := (((S5.out.setD c lt0).setP (lt * 2) 0 (Nat.two_pow_pos 64)).setP (lt * 2 + 1) 0 (Nat.two_pow_pos 64)).drew
                          have qr8 : (((w7.setCell ⟨db, lt, none⟩ (.int .i64 (c : Int))).setCell ⟨pb, lt * 2, none⟩ (.int .u64 0)).setCell ⟨pb, lt * 2 + 1, none⟩ (.int .u64 0)).drew.rowIs lb 43 4 (lkRow ⟨lf, lt, lc, ld⟩) := (((QR.out.setOther (a := ⟨db, lt, none⟩) e4 _).setOther (a := ⟨pb, lt * 2, none⟩) e5 _).setOther (a := ⟨pb, lt * 2 + 1, none⟩) e5 _).drew
                          clear QR S5 q1 t1 t2 dc df y0 y1 yf z3 e3 e4 e5 e6 e7 hSS hcl
                          generalize World.drew (World.setCell (World.setCell (World.setCell _ _ _) _ _) _ _) = w9 at *
                          have q1 : w9.cell? ⟨lb, 1, none⟩ = some (.int .i64 (lt : Int)) := qr8.cell (i := 1) (by omega)
                          have z3 := qr8.lt
                          have S8 := Lib.hid s8; clear s8 qr8
                          go_wp2_with fail
                          obtain ⟨pf, hpf, hpr⟩ := S8.out.p
                          have y0 := hpr.cell (i := lt * 2) (by omega)
                          have y1 := hpr.cell (i := lt * 2 + 1) (by omega)
                          have yf : ∀ o, w9.frozen? ⟨pb, o, none⟩ = false := fun o => hpr.frozen o
                          have t2 := S8.out.t2
                          have hpf0 := hpf (lt * 2)
                          have hpf1 := hpf (lt * 2 + 1)
                          have z1 := S8.out.t.lt
                          have z2 := hpr.lt
                          clear hpf hpr
                          unfold parRow at y0 y1
                          generalize pf (lt * 2) = pa at *
                          generalize pf (lt * 2 + 1) = pc at *
                          refine wp_region_lastM (fun w' => w'.cell? ⟨tb, 2, none⟩ = some (.slice (some ⟨pb, 0, none⟩) 128 128) ∧ w'.cell? ⟨lb, 1, none⟩ = some (.int .i64 (lt : Int)) ∧ w'.cell? ⟨pb, lt * 2, none⟩ = some (.int .u64 (pa : Int)) ∧ w'.cell? ⟨pb, lt * 2 + 1, none⟩ = some (.int .u64 (pc : Int)) ∧ (∀ o, w'.frozen? ⟨pb, o, none⟩ = false)) 16 (by kernel_rfl) (by (try dsimp only); first | exact ⟨t2, q1, y0, y1, yf⟩ | go_keep) (fun hSS hcl => ?_)
                          refine wpAnyM_take (n := 18) (i := 0) (v := ?_) rfl (by kernel_rfl) (by kernel_rfl) (by kernel_rfl) rfl (by kernel_rfl) hcl (fun _ _ _ h => h) (Or.inr hSS) (Or.inl ⟨by rfl, ?_⟩) (fun hcl2 => ?_)
                          rotate_left
                          · intro w hSw
                            (try dsimp only at hSw)
                            go_simp
                            try with_reducible rfl
                          clear hcl
                          have hcl := hcl2; clear hcl2
                          try simp only [Act.put]
                          refine wpAnyM_take (n := 18) (i := 1) (v := ?_) rfl (by kernel_rfl) (by kernel_rfl) (by kernel_rfl) rfl (by kernel_rfl) hcl (fun _ _ _ h => h) (Or.inr hSS) (Or.inl ⟨by rfl, ?_⟩) (fun hcl2 => ?_)
                          rotate_left
                          · intro w hSw
                            (try dsimp only at hSw)
                            go_simp
                            try with_reducible rfl
                          clear hcl
                          have hcl := hcl2; clear hcl2
                          try simp only [Act.put]
                          refine wpAnyM_take (n := 18) (i := 2) (v := ?_) rfl (by kernel_rfl) (by kernel_rfl) (by kernel_rfl) rfl (by kernel_rfl) hcl (fun _ _ _ h => h) (Or.inr hSS) (Or.inl ⟨by rfl, ?_⟩) (fun hcl2 => ?_)
                          rotate_left
                          · intro w hSw
                            (try dsimp only at hSw)
                            go_simp
                            try with_reducible rfl
                          clear hcl
                          have hcl := hcl2; clear hcl2
                          try simp only [Act.put]
                          refine wpAnyM_take (n := 18) (i := 3) (v := ?_) rfl (by kernel_rfl) (by kernel_rfl) (by kernel_rfl) rfl (by kernel_rfl) hcl (fun _ _ _ h => h) (Or.inr hSS) (Or.inl ⟨by rfl, ?_⟩) (fun hcl2 => ?_)
                          rotate_left
                          · intro w hSw
                            (try dsimp only at hSw)
                            go_simp
                            try with_reducible rfl
                          clear hcl
                          have hcl := hcl2; clear hcl2
                          try simp only [Act.put]
                          refine wpAnyM_take (n := 18) (i := 4) (v := ?_) rfl (by kernel_rfl) (by kernel_rfl) (by kernel_rfl) rfl (by kernel_rfl) hcl (fun _ _ _ h => h) (Or.inr hSS) (Or.inl ⟨by rfl, ?_⟩) (fun hcl2 => ?_)
                          rotate_left
                          · intro w hSw
                            (try dsimp only at hSw)
                            go_simp
                            try with_reducible rfl
                          clear hcl
                          have hcl := hcl2; clear hcl2
                          try simp only [Act.put]
                          refine wpAnyM_take (n := 18) (i := 5) (v := ?_) rfl (by kernel_rfl) (by kernel_rfl) (by kernel_rfl) rfl (by kernel_rfl) hcl (fun _ _ _ h => h) (Or.inr hSS) (Or.inl ⟨by rfl, ?_⟩) (fun hcl2 => ?_)
                          rotate_left
                          · intro w hSw
                            (try dsimp only at hSw)
                            go_simp
                            try with_reducible rfl
                          clear hcl
                          have hcl := hcl2; clear hcl2
                          try simp only [Act.put]
                          refine wpAnyM_take (n := 18) (i := 6) (v := ?_) rfl (by kernel_rfl) (by kernel_rfl) (by kernel_rfl) rfl (by kernel_rfl) hcl (fun _ _ _ h => h) (Or.inr hSS) (Or.inl ⟨by rfl, ?_⟩) (fun hcl2 => ?_)
                          rotate_left
                          · intro w hSw
                            (try dsimp only at hSw)
                            go_simp
                            try with_reducible rfl
                          clear hcl
                          have hcl := hcl2; clear hcl2
                          try simp only [Act.put]
                          refine wpAnyM_take (n := 18) (i := 7) (v := ?_) rfl (by kernel_rfl) (by kernel_rfl) (by kernel_rfl) rfl (by kernel_rfl) hcl (fun _ _ _ h => h) (Or.inr hSS) (Or.inl ⟨by rfl, ?_⟩) (fun hcl2 => ?_)
                          rotate_left
                          · intro w hSw
                            (try dsimp only at hSw)
                            go_simp
                            try with_reducible rfl
                          clear hcl
                          have hcl := hcl2; clear hcl2
                          try simp only [Act.put]
                          refine wpAnyM_take (n := 18) (i := 8) (v := ?_) rfl (by kernel_rfl) (by kernel_rfl) (by kernel_rfl) rfl (by kernel_rfl) hcl (fun _ _ _ h => h) (Or.inr hSS) (Or.inl ⟨by rfl, ?_⟩) (fun hcl2 => ?_)
                          rotate_left
                          · intro w hSw
                            (try dsimp only at hSw)
                            go_simp
                            try with_reducible rfl
                          clear hcl
                          have hcl := hcl2; clear hcl2
                          try simp only [Act.put]
                          refine wpAnyM_take (n := 18) (i := 9) (v := ?_) rfl (by kernel_rfl) (by kernel_rfl) (by kernel_rfl) rfl (by kernel_rfl) hcl (fun _ _ _ h => h) (Or.inr hSS) (Or.inl ⟨by rfl, ?_⟩) (fun hcl2 => ?_)
                          rotate_left
                          · intro w hSw
                            (try dsimp only at hSw)
                            go_simp
                            try with_reducible rfl
                          clear hcl
                          have hcl := hcl2; clear hcl2
                          try simp only [Act.put]
                          refine wpAnyM_take (n := 18) (i := 10) (v := ?_) rfl (by kernel_rfl) (by kernel_rfl) (by kernel_rfl) rfl (by kernel_rfl) hcl (fun _ _ _ h => h) (Or.inr hSS) (Or.inl ⟨by rfl, ?_⟩) (fun hcl2 => ?_)
                          rotate_left
                          · intro w hSw
                            (try dsimp only at hSw)
                            go_simp
                            try with_reducible rfl
                          clear hcl
                          have hcl := hcl2; clear hcl2
                          try simp only [Act.put]
                          refine wpAnyM_one (i := 11) rfl (by kernel_rfl) hcl (fun K hK0 => ?_)
                          have hK := Lib.hid hK0; clear hK0
                          go_simp
                          have h37 := With37 pa pc (u : Int) w9.drew hpf0 hpf1 hu0 (by omega)
                          simp only [setV, Int.toNat_natCast] at h37
                          refine h37.mono ?_
                          clear h37
                          rintro e w8 ⟨rfl, hB8⟩
                          (try dsimp only)
                          simp only [setV]
                          refine hK.out _ _ ?_ (fun hSS2 hcl2 => ?_)
                          · refine Or.inr ?_
                            (try dsimp only)
                            go_split_ands
                            refine ⟨?_, ?_, ?_, ?_, ?_⟩
                            iterate 4 (rw [hB8.cell (by first | (simp; done) | (simp; omega))]; first | assumption | go_keep)
                            intro o; rw [hB8.frozen (by first | (simp; done) | (simp; omega))]; first | exact yf o | go_keep
                          clear hcl hK K
                          have hSS3 := hSS2.resolve_left (fun h => Bool.noConfusion (show false = true from h)); clear hSS2 hSS; have hSS := hSS3; clear hSS3
                          have hcl := hcl2; clear hcl2
                          try simp only [Act.put]
                          refine wpAnyM_take (n := 18) (i := 12) (v := ?_) rfl (by kernel_rfl) (by kernel_rfl) (by kernel_rfl) rfl (by kernel_rfl) hcl (fun _ _ _ h => h) (Or.inr hSS) (Or.inl ⟨by rfl, ?_⟩) (fun hcl2 => ?_)
                          rotate_left
                          · intro w hSw
                            (try dsimp only at hSw)
                            go_simp
                            try with_reducible rfl
                          clear hcl
                          have hcl := hcl2; clear hcl2
                          try simp only [Act.put]
                          refine wpAnyM_take (n := 18) (i := 13) (v := ?_) rfl (by kernel_rfl) (by kernel_rfl) (by kernel_rfl) rfl (by kernel_rfl) hcl (fun _ _ _ h => h) (Or.inr hSS) (Or.inl ⟨by rfl, ?_⟩) (fun hcl2 => ?_)
                          rotate_left
                          · intro w hSw
                            (try dsimp only at hSw)
                            go_simp
                            try with_reducible rfl
                          clear hcl
                          have hcl := hcl2; clear hcl2
                          try simp only [Act.put]
                          refine wpAnyM_free (i := 14) (v := ?_) rfl (by kernel_rfl) (by kernel_rfl) (by kernel_rfl) rfl hcl (fun _ _ _ h => h) (Or.inr hSS) (Or.inl ⟨by rfl, ?_⟩) (fun hcl2 => ?_)
                          rotate_left
                          · intro w hSw
                            (try dsimp only at hSw)
                            go_simp
                            try with_reducible rfl
                          clear hcl
                          have hcl := hcl2; clear hcl2
                          try simp only [Act.put]
                          refine wpAnyM_take (n := 18) (i := 15) (v := ?_) rfl (by kernel_rfl) (by kernel_rfl) (by kernel_rfl) rfl (by kernel_rfl) hcl (fun _ _ _ h => h) (Or.inr hSS) (Or.inl ⟨by rfl, ?_⟩) (fun hcl2 => ?_)
                          rotate_left
                          · intro w hSw
                            (try dsimp only at hSw)
                            go_simp
                            try with_reducible rfl
                          clear hcl
                          have hcl := hcl2; clear hcl2
                          try simp only [Act.put]
                          refine wpAnyM_one (i := 16) rfl (by kernel_rfl) hcl (fun K hK0 => ?_)
                          have hK := Lib.hid hK0; clear hK0
                          go_simp
                          refine hK.out _ _ ?_ (fun hSS2 hcl2 => ?_)
                          · exact Or.inl (by kernel_rfl)
                          clear hcl hK K
                          have hcl := hcl2; clear hcl2
                          try simp only [Act.put]
                          refine wpAnyM_done (by kernel_rfl) ?_ _
                          have sw := ((S8.out.drew.below' hB8).setP (lt * 2) (pa ||| oneLo u) (Nat.or_lt_two_pow hpf0 (oneLo_lt u))).setP (lt * 2 + 1) (pc ||| oneHi u) (Nat.or_lt_two_pow hpf1 (oneHi_lt hu))
                          generalize hw9 : World.setCell (World.setCell w8 _ _) _ _ = w9z at *
                          clear hw9 hSS hcl hB8 y0 y1 yf t2 z1 z2 hpf0 hpf1 q1
                          have SW := Lib.hid sw; clear sw
                          go_wp2_with fail
                          go_roundw
                          case rel => exact ⟨j + 1, _, _, _, by simp, hlt, SW.out, HAA.out⟩
                          case measure => simp [intOf]; omega
                        · have hne' : ¬ ((dt : Int) = 1073741824) := by omega
                          have hcd' : ¬ ((c : Int) < (dt : Int)) := by omega
                          subst ha3
                          by_cases hcg : (dt : Int) < (c : Int)
                          · go_wp2_with fail
                            exact ⟨⟨j + 1, D1, H1, v1, by simp, hlt, S5.out, HAA.out⟩, by simp [intOf]; omega⟩
                          · have z3 := QR.out.lt
                            go_wp2_with fail
                            obtain ⟨pf, hpf, hpr⟩ := S5.out.p
                            have y0 := hpr.cell (i := lt * 2) (by omega)
                            have y1 := hpr.cell (i := lt * 2 + 1) (by omega)
                            have yf : ∀ o, w6.frozen? ⟨pb, o, none⟩ = false := fun o => hpr.frozen o
                            have t2 := S5.out.t2
                            have hpf0 := hpf (lt * 2)
                            have hpf1 := hpf (lt * 2 + 1)
                            have z1 := S5.out.t.lt
                            have z2 := hpr.lt
                            clear hpf hpr
                            unfold parRow at y0 y1
                            generalize pf (lt * 2) = pa at *
                            generalize pf (lt * 2 + 1) = pc at *
                            refine wp_region_lastM (fun w' => w'.cell? ⟨tb, 2, none⟩ = some (.slice (some ⟨pb, 0, none⟩) 128 128) ∧ w'.cell? ⟨lb, 1, none⟩ = some (.int .i64 (lt : Int)) ∧ w'.cell? ⟨pb, lt * 2, none⟩ = some (.int .u64 (pa : Int)) ∧ w'.cell? ⟨pb, lt * 2 + 1, none⟩ = some (.int .u64 (pc : Int)) ∧ (∀ o, w'.frozen? ⟨pb, o, none⟩ = false)) 16 (by kernel_rfl) (by (try dsimp only); first | exact ⟨t2, q1, y0, y1, yf⟩ | go_keep) (fun hSS hcl => ?_)
                            refine wpAnyM_take (n := 18) (i := 0) (v := ?_) rfl (by kernel_rfl) (by kernel_rfl) (by kernel_rfl) rfl (by kernel_rfl) hcl (fun _ _ _ h => h) (Or.inr hSS) (Or.inl ⟨by rfl, ?_⟩) (fun hcl2 => ?_)
                            rotate_left
                            · intro w hSw
                              (try dsimp only at hSw)
                              go_simp
                              try with_reducible rfl
                            clear hcl
                            have hcl := hcl2; clear hcl2
                            try simp only [Act.put]
                            refine wpAnyM_take (n := 18) (i := 1) (v := ?_) rfl (by kernel_rfl) (by kernel_rfl) (by kernel_rfl) rfl (by kernel_rfl) hcl (fun _ _ _ h => h) (Or.inr hSS) (Or.inl ⟨by rfl, ?_⟩) (fun hcl2 => ?_)
                            rotate_left
                            · intro w hSw
                              (try dsimp only at hSw)
                              go_simp
                              try with_reducible rfl
                            clear hcl
                            have hcl := hcl2; clear hcl2
                            try simp only [Act.put]
                            refine wpAnyM_take (n := 18) (i := 2) (v := ?_) rfl (by kernel_rfl) (by kernel_rfl) (by kernel_rfl) rfl (by kernel_rfl) hcl (fun _ _ _ h => h) (Or.inr hSS) (Or.inl ⟨by rfl, ?_⟩) (fun hcl2 => ?_)
                            rotate_left
                            · intro w hSw
                              (try dsimp only at hSw)
                              go_simp
                              try with_reducible rfl
                            clear hcl
                            have hcl := hcl2; clear hcl2
                            try simp only [Act.put]
                            refine wpAnyM_take (n := 18) (i := 3) (v := ?_) rfl (by kernel_rfl) (by kernel_rfl) (by kernel_rfl) rfl (by kernel_rfl) hcl (fun _ _ _ h => h) (Or.inr hSS) (Or.inl ⟨by rfl, ?_⟩) (fun hcl2 => ?_)
                            rotate_left
                            · intro w hSw
                              (try dsimp only at hSw)
                              go_simp
                              try with_reducible rfl
                            clear hcl
                            have hcl := hcl2; clear hcl2
                            try simp only [Act.put]
                            refine wpAnyM_take (n := 18) (i := 4) (v := ?_) rfl (by kernel_rfl) (by kernel_rfl) (by kernel_rfl) rfl (by kernel_rfl) hcl (fun _ _ _ h => h) (Or.inr hSS) (Or.inl ⟨by rfl, ?_⟩) (fun hcl2 => ?_)
                            rotate_left
                            · intro w hSw
                              (try dsimp only at hSw)
                              go_simp
                              try with_reducible rfl
                            clear hcl
                            have hcl := hcl2; clear hcl2
                            try simp only [Act.put]
                            refine wpAnyM_take (n := 18) (i := 5) (v := ?_) rfl (by kernel_rfl) (by kernel_rfl) (by kernel_rfl) rfl (by kernel_rfl) hcl (fun _ _ _ h => h) (Or.inr hSS) (Or.inl ⟨by rfl, ?_⟩) (fun hcl2 => ?_)
                            rotate_left
                            · intro w hSw
                              (try dsimp only at hSw)
                              go_simp
                              try with_reducible rfl
                            clear hcl
                            have hcl := hcl2; clear hcl2
                            try simp only [Act.put]
                            refine wpAnyM_take (n := 18) (i := 6) (v := ?_) rfl (by kernel_rfl) (by kernel_rfl) (by kernel_rfl) rfl (by kernel_rfl) hcl (fun _ _ _ h => h) (Or.inr hSS) (Or.inl ⟨by rfl, ?_⟩) (fun hcl2 => ?_)
                            rotate_left
                            · intro w hSw
                              (try dsimp only at hSw)
                              go_simp
                              try with_reducible rfl
                            clear hcl
                            have hcl := hcl2; clear hcl2
                            try simp only [Act.put]
                            refine wpAnyM_take (n := 18) (i := 7) (v := ?_) rfl (by kernel_rfl) (by kernel_rfl) (by kernel_rfl) rfl (by kernel_rfl) hcl (fun _ _ _ h => h) (Or.inr hSS) (Or.inl ⟨by rfl, ?_⟩) (fun hcl2 => ?_)
                            rotate_left
                            · intro w hSw
                              (try dsimp only at hSw)
                              go_simp
                              try with_reducible rfl
                            clear hcl
                            have hcl := hcl2; clear hcl2
                            try simp only [Act.put]
                            refine wpAnyM_take (n := 18) (i := 8) (v := ?_) rfl (by kernel_rfl) (by kernel_rfl) (by kernel_rfl) rfl (by kernel_rfl) hcl (fun _ _ _ h => h) (Or.inr hSS) (Or.inl ⟨by rfl, ?_⟩) (fun hcl2 => ?_)
                            rotate_left
                            · intro w hSw
                              (try dsimp only at hSw)
                              go_simp
                              try with_reducible rfl
                            clear hcl
                            have hcl := hcl2; clear hcl2
                            try simp only [Act.put]
                            refine wpAnyM_take (n := 18) (i := 9) (v := ?_) rfl (by kernel_rfl) (by kernel_rfl) (by kernel_rfl) rfl (by kernel_rfl) hcl (fun _ _ _ h => h) (Or.inr hSS) (Or.inl ⟨by rfl, ?_⟩) (fun hcl2 => ?_)
                            rotate_left
                            · intro w hSw
                              (try dsimp only at hSw)
                              go_simp
                              try with_reducible rfl
                            clear hcl
                            have hcl := hcl2; clear hcl2
                            try simp only [Act.put]
                            refine wpAnyM_take (n := 18) (i := 10) (v := ?_) rfl (by kernel_rfl) (by kernel_rfl) (by kernel_rfl) rfl (by kernel_rfl) hcl (fun _ _ _ h => h) (Or.inr hSS) (Or.inl ⟨by rfl, ?_⟩) (fun hcl2 => ?_)
                            rotate_left
                            · intro w hSw
                              (try dsimp only at hSw)
                              go_simp
                              try with_reducible rfl
                            clear hcl
                            have hcl := hcl2; clear hcl2
                            try simp only [Act.put]
                            refine wpAnyM_one (i := 11) rfl (by kernel_rfl) hcl (fun K hK0 => ?_)
                            have hK := Lib.hid hK0; clear hK0
                            go_simp
                            have h37 := With37 pa pc (u : Int) w6.drew hpf0 hpf1 hu0 (by omega)
                            simp only [setV, Int.toNat_natCast] at h37
                            refine h37.mono ?_
                            clear h37
                            rintro e w8 ⟨rfl, hB8⟩
                            (try dsimp only)
                            simp only [setV]
                            refine hK.out _ _ ?_ (fun hSS2 hcl2 => ?_)
                            · refine Or.inr ?_
                              (try dsimp only)
                              go_split_ands
                              refine ⟨?_, ?_, ?_, ?_, ?_⟩
                              iterate 4 (rw [hB8.cell (by first | (simp; done) | (simp; omega))]; first | assumption | go_keep)
                              intro o; rw [hB8.frozen (by first | (simp; done) | (simp; omega))]; first | exact yf o | go_keep
                            clear hcl hK K
                            have hSS3 := hSS2.resolve_left (fun h => Bool.noConfusion (show false = true from h)); clear hSS2 hSS; have hSS := hSS3; clear hSS3
                            have hcl := hcl2; clear hcl2
                            try simp only [Act.put]
                            refine wpAnyM_take (n := 18) (i := 12) (v := ?_) rfl (by kernel_rfl) (by kernel_rfl) (by kernel_rfl) rfl (by kernel_rfl) hcl (fun _ _ _ h => h) (Or.inr hSS) (Or.inl ⟨by rfl, ?_⟩) (fun hcl2 => ?_)
                            rotate_left
                            · intro w hSw
                              (try dsimp only at hSw)
                              go_simp
                              try with_reducible rfl
                            clear hcl
                            have hcl := hcl2; clear hcl2
                            try simp only [Act.put]
                            refine wpAnyM_take (n := 18) (i := 13) (v := ?_) rfl (by kernel_rfl) (by kernel_rfl) (by kernel_rfl) rfl (by kernel_rfl) hcl (fun _ _ _ h => h) (Or.inr hSS) (Or.inl ⟨by rfl, ?_⟩) (fun hcl2 => ?_)
                            rotate_left
                            · intro w hSw
                              (try dsimp only at hSw)
                              go_simp
                              try with_reducible rfl
                            clear hcl
                            have hcl := hcl2; clear hcl2
                            try simp only [Act.put]
                            refine wpAnyM_free (i := 14) (v := ?_) rfl (by kernel_rfl) (by kernel_rfl) (by kernel_rfl) rfl hcl (fun _ _ _ h => h) (Or.inr hSS) (Or.inl ⟨by rfl, ?_⟩) (fun hcl2 => ?_)
                            rotate_left
                            · intro w hSw
                              (try dsimp only at hSw)
                              go_simp
                              try with_reducible rfl
                            clear hcl
                            have hcl := hcl2; clear hcl2
                            try simp only [Act.put]
                            refine wpAnyM_take (n := 18) (i := 15) (v := ?_) rfl (by kernel_rfl) (by kernel_rfl) (by kernel_rfl) rfl (by kernel_rfl) hcl (fun _ _ _ h => h) (Or.inr hSS) (Or.inl ⟨by rfl, ?_⟩) (fun hcl2 => ?_)
                            rotate_left
                            · intro w hSw
                              (try dsimp only at hSw)
                              go_simp
                              try with_reducible rfl
                            clear hcl
                            have hcl := hcl2; clear hcl2
                            try simp only [Act.put]
                            refine wpAnyM_one (i := 16) rfl (by kernel_rfl) hcl (fun K hK0 => ?_)
                            have hK := Lib.hid hK0; clear hK0
                            go_simp
                            refine hK.out _ _ ?_ (fun hSS2 hcl2 => ?_)
                            · exact Or.inl (by kernel_rfl)
                            clear hcl hK K
                            have hcl := hcl2; clear hcl2
                            try simp only [Act.put]
                            refine wpAnyM_done (by kernel_rfl) ?_ _
                            have sw := ((S5.out.drew.below' hB8).setP (lt * 2) (pa ||| oneLo u) (Nat.or_lt_two_pow hpf0 (oneLo_lt u))).setP (lt * 2 + 1) (pc ||| oneHi u) (Nat.or_lt_two_pow hpf1 (oneHi_lt hu))
                            generalize hw9 : World.setCell (World.setCell w8 _ _) _ _ = w9z at *
                            clear hw9 hSS hcl hB8 y0 y1 yf t2 z1 z2 hpf0 hpf1 q1
                            have SW := Lib.hid sw; clear sw
                            go_wp2_with fail
                            go_roundw
                            case rel => exact ⟨j + 1, _, _, _, by simp, hlt, SW.out, HAA.out⟩
                            case measure => simp [intOf]; omega
                      · obtain rfl : j = xs.length := by omega
                        have hge : ¬ ((xs.length : Int) < (xs.length : Int)) := by omega
                        rw [List.drop_length] at hra
                        obtain rfl := Option.some.inj hra
                        clear hsl
                        have S := Lib.hid s; clear s
                        go_wp2_with fail
                        go_roundg k
                        case measure => omega
                        case rel => exact ⟨D1, H1, v1, S.out, HX2.out⟩
end Go.Proofs.Ythllmpgffdocmaa
