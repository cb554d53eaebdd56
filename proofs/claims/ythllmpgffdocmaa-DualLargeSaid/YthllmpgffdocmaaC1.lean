/-
  Walk over graph.Check, of a sound graph without pins.
-/
import Derived.Test.YthllmpgffdocmaaA
import Derived.Test.YthllmpgffdocmaaG
import Derived.Test.YthllmpgffdocmaaC2
import Derived.Deep.QuietTactic
import Derived.BigQuiet
import Derived.Deep.RegionHeld3
import Derived.Lib.Hide
import Derived.IntWalk
namespace Go.Proofs.Ythllmpgffdocmaa
open Go.RowKit Go.Deep

/-- The marks in 'there' when the first k nodes have been met. -/
def seenRow (ns : List Nat) (k : Nat) : Nat → Value := fun x => .bool (decide (x ∈ ns.take k))
theorem seenRow_step {ns : List Nat} {k : Nat} (hk : k < ns.length) : ∀ x, (if x = ns.getD k 0 then Value.bool true else seenRow ns k x) = seenRow ns (k + 1) x := by
  intro x
  unfold seenRow
  rw [List.take_succ_eq_append_getElem hk]
  have e : ns.getD k 0 = ns[k] := by rw [List.getD_eq_getElem?_getD, List.getElem?_eq_getElem hk]; rfl
  rw [e]
  by_cases hx : x = ns[k]
  · rw [if_pos hx, decide_eq_true (List.mem_append.2 (Or.inr (List.mem_singleton.2 hx)))]
  · rw [if_neg hx, decide_eq_decide.2 (show x ∈ ns.take k ↔ x ∈ ns.take k ++ [ns[k]] from ⟨fun h => List.mem_append.2 (Or.inl h), fun h => (List.mem_append.1 h).elim id fun h => absurd (List.mem_singleton.1 h) hx⟩)]
set_option maxRecDepth 100000 in
theorem zero54 (w : World) : (w.alloc (.cells Try.zeroCells54 54)).rowIs w.heap.size 54 128 (fun _ => .bool false) := by
  have hs : Try.zeroCells54.size = 128 := by kernel_rfl
  have hall : (List.range 128).all (fun i => match Try.zeroCells54[i]? with | some (.bool false) => true | _ => false) = true := by kernel_rfl
  have h := World.rowIs_alloc w Try.zeroCells54 54 (fun _ => .bool false) (by
    intro i hi
    have h1 := List.all_eq_true.1 hall i (by rw [hs] at hi; simpa using hi)
    split at h1
    · assumption
    · cases h1)
  rw [hs] at h
  exact h

/-- What stands after the first k nodes. -/
def checkN (w0 : World) (tb : Nat) (G : Gr) (i : Value) (wr : World) : Prop :=
  ∃ k : Nat, i = .int .i64 (k : Int) ∧ k ≤ G.ns.length ∧ Tch (fun x => x = tb) w0 wr ∧ wr.rowIs tb 54 128 (seenRow G.ns k)
/-- What stands when the first k links have been met. -/
def checkL (w0 : World) (G : Gr) (i : Value) (wr : World) : Prop :=
  ∃ k : Nat, i = .int .i64 (k : Int) ∧ k ≤ G.ls.length ∧ Below w0.heap.size w0 wr
theorem q75 (n : Int) (w : World) (h0 : 0 ≤ n) (h1 : n ≤ 127) : Calls Try.prog 75 #[.int .i64 n] w fun e w' => e = .returned (.bool true) ∧ w' = w := (in75 n w h0 h1).mono fun _ _ h => ⟨h.1, h.2.symm⟩
theorem q92 (n : Int) (w : World) (h0 : 1 ≤ n) (h1 : n ≤ 65535) : Calls Try.prog 92 #[.int .i64 n] w fun e w' => e = .returned (.bool true) ∧ w' = w := (costOk92 n w h0 h1).mono fun _ _ h => ⟨h.1, h.2.symm⟩
theorem q93 (n : Int) (w : World) (h0 : 0 ≤ n) (h1 : n ≤ 65535) : Calls Try.prog 93 #[.int .i64 n] w fun e w' => e = .returned (.bool true) ∧ w' = w := (delayOk93 n w h0 h1).mono fun _ _ h => ⟨h.1, h.2.symm⟩
set_option maxHeartbeats 4000000 in
set_option maxRecDepth 100000 in
theorem Check74 {G : Gr} {gv : Value} {bn cn bl cl : Nat} (w : World) (h : GraphAt w gv G bn cn bl cl) (hok : G.ok) : Calls Try.prog 74 #[gv] w (checkP w) := by
  have hgv := h.eq
  subst hgv
  have hN := hok.len
  have hL := hok.lens
  go_enter Try.func74, Try.ntmps74
  go_wp2_with fail
  generalize hw1 : World.alloc w _ = w1
  have hb1 : Below w.heap.size w w1 := by rw [← hw1]; exact (Below.refl _ _).alloc (Nat.le_refl _) _
  have hs1 : w1.heap.size = w.heap.size + 1 := by rw [← hw1]; simp
  have x0 : w1.cell? ⟨w.heap.size, 0, none⟩ = some (.slice (some ⟨bn, 0, none⟩) G.ns.length cn) := by rw [← hw1]; simp
  have x1 : w1.cell? ⟨w.heap.size, 1, none⟩ = some (.slice (some ⟨bl, 0, none⟩) G.ls.length cl) := by rw [← hw1]; simp
  have x2 : w1.cell? ⟨w.heap.size, 2, none⟩ = some (.slice none 0 0) := by rw [← hw1]; simp
  have h1 := h.below' hb1
  clear hw1
  rw [← hs1]
  generalize hw0 : World.alloc w1 _ = w0
  have hr0 : w0.rowIs w1.heap.size 54 128 (fun _ => .bool false) := by rw [← hw0]; exact zero54 w1
  have hb2 : Below w1.heap.size w1 w0 := by rw [← hw0]; exact (Below.refl _ _).alloc (Nat.le_refl _) _
  have hs0 : w0.heap.size = w1.heap.size + 1 := by rw [← hw0]; simp
  have h2 := h1.below' hb2
  have y0 : w0.cell? ⟨w.heap.size, 0, none⟩ = some (.slice (some ⟨bn, 0, none⟩) G.ns.length cn) := by rw [hb2.cell (p := ⟨w.heap.size, 0, none⟩) (by simp; omega)]; exact x0
  have y1 : w0.cell? ⟨w.heap.size, 1, none⟩ = some (.slice (some ⟨bl, 0, none⟩) G.ls.length cl) := by rw [hb2.cell (p := ⟨w.heap.size, 1, none⟩) (by simp; omega)]; exact x1
  have y2 : w0.cell? ⟨w.heap.size, 2, none⟩ = some (.slice none 0 0) := by rw [hb2.cell (p := ⟨w.heap.size, 2, none⟩) (by simp; omega)]; exact x2
  have hB0 : Below w.heap.size w w0 := hb1.trans (hb2.mono (by omega))
  have hbn := h.bnlt
  have hbl := h.bllt
  clear hw0 x0 x1 x2 h h1 hb1 hb2
  generalize htb : w1.heap.size = tb at *
  clear htb
  generalize hbx : w.heap.size = bx at *
  have HBX := Lib.hid hbx; clear hbx
  have HB0 := Lib.hid hB0; clear hB0
  have HR0 := Lib.hid hr0; clear hr0
  have HS1 := Lib.hid hs1; clear hs1
  have HS0 := Lib.hid hs0; clear hs0
  have htb : bx < tb := by have := HS1.out; omega
  have htb2 : tb < w0.heap.size := by have := HS0.out; omega
  go_loopw [23] (checkN w0 tb G) (fun i _ => G.ns.length - (intOf i).toNat)
  case atStart => exact ⟨0, rfl, Nat.zero_le _, Tch.refl _ _, HR0.out.congr (fun x _ => by simp [seenRow])⟩
  case round =>
    obtain ⟨k, rfl, hk, hT, hr⟩ := hrel
    have hTx : ∀ b o, b < w0.heap.size → b ≠ tb → wr.cell? ⟨b, o, none⟩ = w0.cell? ⟨b, o, none⟩ := fun b o hb hne => hT.cell (p := ⟨b, o, none⟩) hb hne
    have z0 : wr.cell? ⟨bx, 0, none⟩ = some (.slice (some ⟨bn, 0, none⟩) G.ns.length cn) := by rw [hTx _ _ (by omega) (by omega)]; exact y0
    have hg := h2.tch hT (fun e => by have : bn = tb := e; omega) (fun e => by have : bl = tb := e; omega)
    have z1 : wr.cell? ⟨bx, 1, none⟩ = some (.slice (some ⟨bl, 0, none⟩) G.ls.length cl) := by rw [hTx _ _ (by omega) (by omega)]; exact y1
    have z2 : wr.cell? ⟨bx, 2, none⟩ = some (.slice none 0 0) := by rw [hTx _ _ (by omega) (by omega)]; exact y2
    clear hTx
    by_cases hlt : k < G.ns.length
    · have hlt' : (k : Int) < (G.ns.length : Int) := by omega
      have n0 := hg.n0 hlt
      have n1 := hg.n1 hlt
      have n2 := hg.n2 hlt
      go_wp2_with fail
      have hk7 : G.nd k < 128 := hok.nr k hlt
      have tc := hr.cell hk7
      have tf : ∀ o, wr.frozen? ⟨tb, o, none⟩ = false := fun o => hr.frozen o
      have ht3 : tb < wr.heap.size := hr.lt
      have ht4 : bx < wr.heap.size := by omega
      have ht5 : bn < wr.heap.size := hg.bnlt
      have hdone : ∀ (nq : Nat) (v : Int), v = (k : Int) + 1 → checkN w0 tb G (.int .i64 v) (((wr.alloc (.cells #[.int .i64 (G.nd k : Int), .bool false, .complex .f64 0 0] 41)).drewN nq).setCell ⟨tb, G.nd k, none⟩ (.bool true)) := fun nq v hv =>
        ⟨k + 1, by rw [hv]; rfl, hlt, ((hT.alloc _).drewN nq).setCell (Or.inl rfl) _, ((rowIs_drewN (hr.alloc _) nq).set (G.nd k) (.bool true)).congr (fun x _ => seenRow_step hlt x)⟩
      have HD := Lib.hid hdone; clear hdone
      rcases Nat.eq_zero_or_pos k with hk0 | hk0
      · subst hk0
        go_quiet ((first | (go_at_call 75; exact Calls.quiet_of_same ((in75 (G.nd 0 : Int) _ (by omega) (by omega)).mono fun e w' hh => ⟨hh.1, hh.2.symm⟩)) | (go_at_call 91; exact Calls.quiet_of_same ((Ok91_zero _).mono fun e w' hh => ⟨hh.1, hh.2.symm⟩))))
        go_wp2_with fail
        go_roundw
        case rel => exact HD.out _ _ (by simp)
        case measure => simp [intOf]; omega
      · obtain ⟨m, rfl⟩ : ∃ m, k = m + 1 := ⟨k - 1, by omega⟩
        have hm128 : (m : Int) < 128 := by omega
        have hm1 : (0 : Int) < (m : Int) + 1 := by omega
        have m0 := hg.n0 (i := m) (by omega)
        have hord : (G.nd m : Int) < (G.nd (m + 1) : Int) := by have := hok.no m hlt; omega
        go_quiet ((first | (go_at_call 75; exact Calls.quiet_of_same ((in75 (G.nd (m + 1) : Int) _ (by omega) (by omega)).mono fun e w' hh => ⟨hh.1, hh.2.symm⟩)) | (go_at_call 91; exact Calls.quiet_of_same ((Ok91_zero _).mono fun e w' hh => ⟨hh.1, hh.2.symm⟩))))
        go_wp2_with fail
        go_roundw
        case rel => exact HD.out _ _ (by omega)
        case measure => (simp [intOf]; try omega)
    · have hke : k = G.ns.length := by omega
      have hge : ¬ ((k : Int) < (G.ns.length : Int)) := by omega
      have hr' : wr.rowIs tb 54 128 (seenRow G.ns G.ns.length) := by rw [← hke]; exact hr
      have ht3 : tb < wr.heap.size := hr.lt
      have ht4 : bx < wr.heap.size := by omega
      have ht6 : bl < wr.heap.size := hg.bllt
      clear hr z0 y0 y1 y2 hke hlt hk HR0
      go_wp2_with fail
      obtain ⟨wo, rfl⟩ : ∃ wo : World, wo = wr := ⟨_, rfl⟩
      go_loopw [61] (checkL wo G) (fun i _ => G.ls.length - (intOf i).toNat)
      case atStart => exact ⟨0, rfl, Nat.zero_le _, Below.refl _ _⟩
      case round =>
        obtain ⟨k, rfl, hk, hB⟩ := hrel
        have hgr := hg.below' hB
        have hr2 := rowIs_below hB hr' ht3
        have q1 : wr.cell? ⟨bx, 1, none⟩ = some (.slice (some ⟨bl, 0, none⟩) G.ls.length cl) := by rw [hB.cell (p := ⟨bx, 1, none⟩) ht4]; exact z1
        have q2 : wr.cell? ⟨bx, 2, none⟩ = some (.slice none 0 0) := by rw [hB.cell (p := ⟨bx, 2, none⟩) ht4]; exact z2
        have s1 := hB.size
        have v1 : tb < wr.heap.size := by omega
        have v2 : bx < wr.heap.size := by omega
        have v3 : bl < wr.heap.size := by omega
        by_cases hlt : k < G.ls.length
        · have hlt' : (k : Int) < (G.ls.length : Int) := by omega
          have p0 := hgr.l0 hlt
          have p1 := hgr.l1 hlt
          have p2 := hgr.l2 hlt
          have p3 := hgr.l3 hlt
          have b0 := hok.f128 hlt
          have b1 := hok.t128 hlt
          have b2 := hok.c1 k hlt
          have b3 := hok.c2 k hlt
          have b4 := hok.d2 k hlt
          have t0 : wr.cell? ⟨tb, (G.lk k).f, none⟩ = some (.bool true) := by
            rw [hr2.cell b0, seenRow, List.take_of_length_le (Nat.le_refl _), decide_eq_true (hok.lf k hlt)]
          have t1 : wr.cell? ⟨tb, (G.lk k).t, none⟩ = some (.bool true) := by
            rw [hr2.cell b1, seenRow, List.take_of_length_le (Nat.le_refl _), decide_eq_true (hok.lt k hlt)]
          have hne : ((G.lk k).f == (G.lk k).t) = false := beq_eq_false_iff_ne.2 (hok.ne k hlt)
          have hneI : (((G.lk k).f : Int) == ((G.lk k).t : Int)) = false := beq_eq_false_iff_ne.2 (fun e => hok.ne k hlt (by omega))
          generalize hlk : G.lk k = l at *
          obtain ⟨lf, lt, lc, ld⟩ := l
          simp only at p0 p1 p2 p3 b0 b1 b2 b3 b4 t0 t1 hne hneI
          have HLK := Lib.hid hlk; clear hlk
          have hgm := hgr
          clear hgr hr2
          rcases Nat.eq_zero_or_pos k with hk0 | hk0
          · subst hk0
            clear hgm
            go_wp2_with fail
            go_quiet ((first | (go_at_call 75; exact Calls.quiet_of_same (q75 _ _ (by omega) (by omega))) | (go_at_call 92; exact Calls.quiet_of_same (q92 _ _ (by omega) (by omega))) | (go_at_call 93; exact Calls.quiet_of_same (q93 _ _ (by omega) (by omega)))))
            go_wp2_with fail
            go_roundw
            case rel => exact ⟨1, rfl, hlt, below_drewN (hB.alloc s1 _) _⟩
            case measure => (simp [intOf]; try omega)
          · obtain ⟨m, rfl⟩ : ∃ m, k = m + 1 := ⟨k - 1, by omega⟩
            have hm1 : m < G.ls.length := by omega
            have m0 := hgm.l0 hm1
            have m1 := hgm.l1 hm1
            have m2 := hgm.l2 hm1
            have m3 := hgm.l3 hm1
            have hord := hok.lo m hlt
            rw [HLK.out] at hord
            generalize hlm : G.lk m = l' at *
            obtain ⟨mf, mt, mc, md⟩ := l'
            simp only at m0 m1 m2 m3 hord
            have hordI : (mf : Int) < (lf : Int) ∨ (mf : Int) = (lf : Int) ∧ (mt : Int) < (lt : Int) := by omega
            have HO := Lib.hid hordI; clear hordI hord
            have HLM := Lib.hid hlm; clear hlm
            have hm5 : (m : Int) < 2048 := by omega
            have hm6 : (0 : Int) < (m : Int) + 1 := by omega
            have hm7 : (m : Int) < (G.ls.length : Int) := by omega
            clear hgm
            go_wp2_with fail
            have hw1 : IntKind.i64.wrap ((m : Int) + 1 - 1) = (m : Int) := by rw [show (m : Int) + 1 - 1 = (m : Int) by omega]; exact IntWalk.i64_in _ (by omega)
            have hw2 : IntKind.i64.wrap (m : Int) = (m : Int) := IntWalk.i64_in _ (by omega)
            have hw3 : (0 : Int) ≤ (m : Int) := by omega
            have hw4 : (0 : Int) ≤ (lf : Int) := by omega
            have hw5 : (lf : Int) < 128 := by omega
            have hw6 : (0 : Int) ≤ (lt : Int) := by omega
            have hw7 : (lt : Int) < 128 := by omega
            have hw8 : (lf : Int).toNat = lf := by omega
            have hw9 : (lt : Int).toNat = lt := by omega
            go_region_held3 (fun w' => w'.cell? ⟨wr.heap.size, 0, none⟩ = some (.int .i64 lf) ∧ w'.cell? ⟨wr.heap.size, 1, none⟩ = some (.int .i64 lt) ∧ w'.cell? ⟨wr.heap.size, 2, none⟩ = some (.int .i64 lc) ∧ w'.cell? ⟨wr.heap.size, 3, none⟩ = some (.int .i64 ld) ∧ w'.cell? ⟨tb, lf, none⟩ = some (.bool true) ∧ w'.cell? ⟨tb, lt, none⟩ = some (.bool true) ∧ w'.cell? ⟨bx, 1, none⟩ = some (.slice (some ⟨bl, 0, none⟩) G.ls.length cl) ∧ w'.cell? ⟨bl, m * 4, none⟩ = some (.int .i64 mf) ∧ w'.cell? ⟨bl, m * 4 + 1, none⟩ = some (.int .i64 mt) ∧ w'.cell? ⟨bl, m * 4 + 1 + 1, none⟩ = some (.int .i64 mc) ∧ w'.cell? ⟨bl, m * 4 + 1 + 1 + 1, none⟩ = some (.int .i64 md))
              (first
                | go_keep
                | (go_split_ands
                   refine ⟨?_, ?_, ?_, ?_, ?_, ?_, ?_, ?_, ?_, ?_, ?_⟩
                   all_goals (rw [hb79.cell (by first | (simp; done) | (simp; omega))]; first | assumption | go_keep)))
              (first
                | (go_at_call 75; refine (q75 _ _ (by omega) (by omega)).mono ?_; rintro e w' ⟨rfl, rfl⟩)
                | (go_at_call 92; refine (q92 _ _ (by omega) (by omega)).mono ?_; rintro e w' ⟨rfl, rfl⟩)
                | (go_at_call 93; refine (q93 _ _ (by omega) (by omega)).mono ?_; rintro e w' ⟨rfl, rfl⟩)
                | (go_at_call 79; refine (compareLink79 mf mt mc md lf lt lc ld _ HO.out).mono ?_; rintro e w' ⟨rfl, hb79⟩))
            clear hw1 hw2 hw3 hw4 hw5 hw6 hw7 hw8 hw9
            go_wp2_with fail
            go_roundw
            case rel => exact ⟨m + 1 + 1, by simp, hlt, ((hB.alloc s1 _).drew).trans (hb79.mono (by simp; omega))⟩
            case measure => (simp [intOf]; try omega)
        · have hge2 : ¬ ((k : Int) < (G.ls.length : Int)) := by omega
          go_wp2_with fail
          go_loopw [128] (fun i wr3 => i = .int .i64 0 ∧ wr3 = wr) (fun _ _ => 0)
          case atStart => exact ⟨rfl, rfl⟩
          case round =>
            obtain ⟨rfl, rfl⟩ := hrel
            go_wp2_with fail
            go_ret
            exact ⟨rfl, by have := HB0.out; rw [HBX.out]; exact (this.trans (hT.below (fun n hn e => by have : n = tb := e; omega) (by omega))).trans (hB.mono (by omega))⟩
theorem checkSaid : CheckSaid := fun _ _ _ _ _ _ w h hok => Check74 w h hok

end Go.Proofs.Ythllmpgffdocmaa
