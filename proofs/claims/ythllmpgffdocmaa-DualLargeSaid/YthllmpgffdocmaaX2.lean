/-
  Regions that draw and end in one store, as in X: here S is asked only as long as the store has not come up, so that what waits for nothing (an extract) may come up behind it.
-/
import Derived.Test.YthllmpgffdocmaaX
namespace Go.Proofs.Ythllmpgffdocmaa

section
variable {P : Program} {ops : Array Oper} {Q : Exit → Act → World → Prop} {md : Region.Mode} {S : World → Prop} {last : Nat}

/-- Whatever order is picked from here on; S holds as long as 'last' has not come up. -/
def wpAnyM (P : Program) (md : Region.Mode) (ops : Array Oper) (Q : Exit → Act → World → Prop) (S : World → Prop) (last : Nat) : Nat → Array Bool → Act → World → Prop
  | 0, listed, a, w => Region.ready md ops listed = [] ∧ Q .normal a w
  | fuel + 1, listed, a, w =>
    (Region.ready md ops listed = [] → Q .normal a w) ∧
    ∀ i ∈ Region.ready md ops listed, wpOp P ops Q i (fun a' w' => ((listed.setIfInBounds i true).getD last false = true ∨ S w') ∧ wpAnyM P md ops Q S last fuel (listed.setIfInBounds i true) a' w') a w

theorem wpAny_of_lastM : ∀ (fuel : Nat) (listed : Array Bool) (a : Act) (w : World), wpAnyM P md ops Q S last fuel listed a w → wpAny P md ops Q fuel listed a w
  | 0, _, _, _, h => h
  | fuel + 1, _, _, _, h => ⟨h.1, fun i hi => wpOp_mono (fun a' w' h' => wpAny_of_lastM fuel _ a' w' h'.2) (h.2 i hi)⟩

theorem wpAnyM_first {S' : World → Prop} {i : Nat} {oi : Oper} {v : Value} (hi : ops[i]? = some oi) (hsel : ∀ (j : Nat) (o : Oper) cs b, ops[j]? = some o → o.op ≠ .select cs b)
    (hQ : ∀ c a w, Q (.panic c) (a.put oi.dst v) w → Q (.panic c) a w)
    (hil : i ≠ last) (hSS : ∀ listed w, ClosedL md ops listed → listed.getD i false = false → (listed.getD last false = true ∨ S w) → S' w) :
    ∀ (fuel : Nat) (listed : Array Bool) (a : Act) (w : World), ClosedL md ops listed →
      (∀ j oj, ops[j]? = some oj → j ≠ i → listed.getD j true = false → (∀ e ∈ oj.after, Region.binds md e = true → e.on ≠ i) → oi.apart ops oj = true) →
      i ∈ Region.ready md ops listed → YieldsIf P ops S' oi v a → (listed.getD last false = true ∨ S w) →
      wpAnyM P md ops Q S last fuel (listed.setIfInBounds i true) (a.put oi.dst v) w → wpAnyM P md ops Q S last (fuel + 1) listed a w := by
  intro fuel
  have hun : ∀ listed : Array Bool, i ∈ Region.ready md ops listed → listed.getD i false = false := by
    intro listed hr
    have h0 := (mem_ready.1 hr).1
    rcases Nat.lt_or_ge i listed.size with h' | h'
    · simpa [h'] using h0
    · simp [Array.getElem?_eq_none h']
  have hkeep : ∀ (listed : Array Bool) (k : Nat) (w : World), (listed.getD last false = true ∨ S w) → ((listed.setIfInBounds k true).getD last false = true ∨ S w) := by
    intro listed k w h
    rcases h with h | h
    · exact Or.inl (getD_set_true h)
    · exact Or.inr h
  induction fuel with
  | zero =>
    intro listed a w hcl _ hr hy hS H
    refine ⟨fun h => (by rw [h] at hr; cases hr), fun j hj => ?_⟩
    by_cases hji : j = i
    · subst hji; exact hy.wpOp hi (hSS listed w hcl (hun listed hr) hS) ⟨hkeep _ _ _ hS, H⟩
    · have := ready_mono hj hji
      rw [H.1] at this
      cases this
  | succ fuel ih =>
    intro listed a w hcl hfree hr hy hS H
    refine ⟨fun h => (by rw [h] at hr; cases hr), fun j hj => ?_⟩
    by_cases hji : j = i
    · subst hji; exact hy.wpOp hi (hSS listed w hcl (hun listed hr) hS) ⟨hkeep _ _ _ hS, H⟩
    · have h1 := H.2 j (ready_mono hj hji)
      obtain ⟨hjun, oj, hoj, hall⟩ := mem_ready.1 hj
      have hiun := hun listed hr
      have hnot : ∀ e ∈ oj.after, Region.binds md e = true → e.on ≠ i := fun e he hb heq => by
        have h1 := hall e he hb
        rw [heq, hiun] at h1
        cases h1
      have h2 := wpOp_putIf hoj (hfree j oj hoj hji hjun hnot) (fun cs b => hsel i oi cs b hi) (fun cs b => hsel j oj cs b hoj) hQ hy h1
      have hfree' : ∀ k ok, ops[k]? = some ok → k ≠ i → (listed.setIfInBounds j true).getD k true = false →
          (∀ e ∈ ok.after, Region.binds md e = true → e.on ≠ i) → oi.apart ops ok = true := fun k ok hk hki hun hno => by
        refine hfree k ok hk hki ?_ hno
        by_cases hjk : j = k
        · subst hjk; exact hjun
        · rw [getD_set_ne true hjk] at hun; exact hun
      refine wpOp_mono (fun a' w' h3 => ?_) h2
      have h4 : (listed.setIfInBounds j true).getD last false = true ∨ S w' := by
        rcases h3.2.1 with h5 | h5
        · rw [Array.setIfInBounds_comm _ _ (Ne.symm hji)] at h5
          rw [getD_set_ne false hil] at h5; exact Or.inl h5
        · exact Or.inr h5
      refine ⟨h4, ih (listed.setIfInBounds j true) a' w' (closed_set hcl hj) hfree' (ready_mono hr (Ne.symm hji)) h3.1 h4 ?_⟩
      rw [Array.setIfInBounds_comm _ _ hji]
      exact h3.2.2

theorem wpAnyM_take {i n : Nat} {oi : Oper} {v : Value} {fuel : Nat} {listed : Array Bool} {a : Act} {w : World} (hi : ops[i]? = some oi)
    (hs : Region.noSelect ops = true) (hf : Region.free md ops listed i = true) (hr : (Region.ready md ops listed).contains i = true) (hil : (i != last) = true) (hlast : waitsFor md ops i n last = true) (hcl : ClosedL md ops listed)
    (hQ : ∀ c a w, Q (.panic c) (a.put oi.dst v) w → Q (.panic c) a w) (hS : listed.getD last false = true ∨ S w) (hy : YieldsIf P ops S oi v a)
    (h : ClosedL md ops (listed.setIfInBounds i true) → wpAnyM P md ops Q S last fuel (listed.setIfInBounds i true) (a.put oi.dst v) w) : wpAnyM P md ops Q S last (fuel + 1) listed a w :=
  wpAnyM_first hi (Region.noSelect_spec hs) hQ (by simpa using hil) (fun listed w hc hu h => by
    rcases h with h | h
    · exfalso
      have := closed_waits hc n last h hlast
      rw [hu] at this
      cases this
    · exact h) fuel listed a w hcl (Region.free_spec hi hf) (by simpa using hr) hy hS (h (closed_set hcl (by simpa using hr)))

theorem wpAnyM_free {i : Nat} {oi : Oper} {v : Value} {fuel : Nat} {listed : Array Bool} {a : Act} {w : World} (hi : ops[i]? = some oi)
    (hs : Region.noSelect ops = true) (hf : Region.free md ops listed i = true) (hr : (Region.ready md ops listed).contains i = true) (hil : (i != last) = true) (hcl : ClosedL md ops listed)
    (hQ : ∀ c a w, Q (.panic c) (a.put oi.dst v) w → Q (.panic c) a w) (hS : listed.getD last false = true ∨ S w) (hy : YieldsIf P ops (fun _ => True) oi v a)
    (h : ClosedL md ops (listed.setIfInBounds i true) → wpAnyM P md ops Q S last fuel (listed.setIfInBounds i true) (a.put oi.dst v) w) : wpAnyM P md ops Q S last (fuel + 1) listed a w :=
  wpAnyM_first hi (Region.noSelect_spec hs) hQ (by simpa using hil) (fun _ _ _ _ _ => trivial) fuel listed a w hcl (Region.free_spec hi hf) (by simpa using hr) hy hS (h (closed_set hcl (by simpa using hr)))

/-- The one operation that may come up now. -/
theorem wpAnyM_one {i : Nat} {o : Oper} {fuel : Nat} {listed : Array Bool} {a : Act} {w : World} (ho : ops[i]? = some o) (hr : Region.ready md ops listed = [i]) (hcl : ClosedL md ops listed)
    (h : ∀ K' : Act → World → Prop, (∀ a w, ((listed.setIfInBounds i true).getD last false = true ∨ S w) → (((listed.setIfInBounds i true).getD last false = true ∨ S w) → ClosedL md ops (listed.setIfInBounds i true) → wpAnyM P md ops Q S last fuel (listed.setIfInBounds i true) a w) → K' a w) → if Region.wanted o (yielded ops a.tmps) = true then Oper.wp P o a w K' Q else K' (a.put o.dst undef) w) :
    wpAnyM P md ops Q S last (fuel + 1) listed a w := by
  refine ⟨fun h0 => (by rw [hr] at h0; cases h0), fun j hj => ?_⟩
  have hj' := hj
  rw [hr] at hj
  obtain rfl : j = i := by simpa using hj
  have hc2 := closed_set hcl hj'
  exact wpOp_step ho (fun K' hK => h K' (fun a w hS hW => hK a w ⟨hS, hW hS hc2⟩))

theorem wpAnyM_done {listed : Array Bool} {a : Act} {w : World} (hr : Region.ready md ops listed = []) (h : Q .normal a w) : ∀ fuel, wpAnyM P md ops Q S last fuel listed a w
  | 0 => ⟨hr, h⟩
  | _ + 1 => ⟨fun _ => h, by rw [hr]; simp⟩

theorem wp_region_lastM {id : Nat} {a : Act} {w : World} (S : World → Prop) (last : Nat) (hm : P.follows .mixedOrders = true) (hS : S w.drew)
    (h : S w.drew → ClosedL .any ops (Array.replicate ops.size false) → wpAnyM P .any ops Q S last ops.size (Array.replicate ops.size false) a w.drew) : (Code.region id ops true).wp P Q a w :=
  wp_region_any hm (wpAny_of_lastM _ _ _ _ (h hS (closed_none _ _ _)))

end
end Go.Proofs.Ythllmpgffdocmaa
