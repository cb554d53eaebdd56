/-
  Plain functions: the distances from a root, as full.View's Tree reckons them.
-/
import Derived.Test.YthllmpgffdocmaaQ
import Derived.Test.YthllmpgffdocmaaV
namespace Go.Proofs.Ythllmpgffdocmaa

def infN : Nat := 1073741824
def sumN (a b : Nat) : Nat := if a + b < 1073741824 then a + b else 1073741824
/-- One link out of a node that lies d away: the distances and the heap behind it. -/
def relaxF (d : Nat) (l : Lk) (s : List Nat × Hp) : Option (List Nat × Hp) :=
  let c := sumN d l.c
  let dt := s.1.getD l.t 0
  if dt = 1073741824 then
    (if s.2.atv l.t = 0 ∧ s.2.list.length < 4096 then some ((if c < dt then s.1.set l.t c else s.1), pushH s.2 l.t c) else none)
  else if c < dt then
    (if s.2.atv l.t ≠ 0 ∧ s.2.atv l.t - 1 < s.2.list.length ∧ c < (s.2.ent (s.2.atv l.t - 1)).1 then some (s.1.set l.t c, lowerH s.2 l.t c) else none)
  else some s
def relaxAll (d : Nat) : List Lk → List Nat × Hp → Option (List Nat × Hp)
  | [], s => some s
  | l :: r, s => (relaxF d l s).bind (relaxAll d r)
def treeF (out : Nat → List Lk) : Nat → List Nat × Hp → Option (List Nat)
  | 0, _ => none
  | k + 1, s =>
    if s.2.list = [] then some s.1
    else if (s.2.ent 0).1 ≤ 1073741824 then (relaxAll (s.2.ent 0).1 (out (s.2.ent 0).2) (s.1, takeH s.2)).bind (treeF out k)
    else none
def emptyHp : Hp := { list := [], ats := List.replicate 128 0 }
def treeOf (ls : List Lk) (root : Nat) : Option (List Nat) :=
  treeF (rowLs ls) 1000 ((List.replicate 128 1073741824).set root 0, pushH emptyHp root 0)

theorem relaxF_len {d : Nat} {l : Lk} {s s' : List Nat × Hp} (h : relaxF d l s = some s') : s'.1.length = s.1.length := by
  unfold relaxF at h
  simp only at h
  split at h
  · split at h
    · cases h; simp only; split <;> simp
    · cases h
  · split at h
    · split at h
      · cases h; simp
      · cases h
    · cases h; rfl

/-- The cells of a list of distances; of a list of sets. -/
def distRow (D : List Nat) : Nat → Go.Value := fun i => .int .i64 (D.getD i 0 : Int)
def parRow (p : Nat → Nat) : Nat → Go.Value := fun i => .int .u64 (p i : Int)
def treeRow (root db pb hp : Nat) : Nat → Go.Value := fun i => if i = 0 then .int .i64 (root : Int) else if i = 1 then .slice (some ⟨db, 0, none⟩) 128 128 else if i = 2 then .slice (some ⟨pb, 0, none⟩) 128 128 else .slice (some ⟨hp, 0, none⟩) 128 128
theorem distRow_set (D : List Nat) (t c : Nat) (ht : t < D.length) : ∀ i, (if i = t then Go.Value.int .i64 (c : Int) else distRow D i) = distRow (D.set t c) i := by
  intro i
  unfold distRow
  rw [getD_set _ _ _ _ ht]
  split <;> rfl
end Go.Proofs.Ythllmpgffdocmaa
