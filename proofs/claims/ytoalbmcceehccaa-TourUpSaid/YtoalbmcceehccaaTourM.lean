/-
  The tour as plain lists: what a play makes of the nodes, and that the nodes then tell who wins below them. No condition.
-/
import Derived.Test.YtoalbmcceehccaaFrame
namespace Go.Proofs.Ytoalbmcceehccaa

abbrev It := Int × Int
abbrev Leaf := It × Bool
def ahead (a b : It) : Bool := decide (a.1 < b.1) || (decide (a.1 = b.1) && decide (a.2 < b.2))
def zIt : It := (0, 0)
def zLeaf : Leaf := (zIt, false)
def leafVs (l : Leaf) : List Value := [.int .u64 l.1.1, .int .i64 l.1.2, .bool l.2]
theorem leafVs_len (l : Leaf) : (leafVs l).length = 3 := rfl
def itVs (x : It) : List Value := [.int .u64 x.1, .int .i64 x.2]
theorem itVs_len (l : It) : (itVs l).length = 2 := rfl

def leafAt (L : List Leaf) (a : Int) : Leaf := L.getD a.toNat zLeaf
def betterF (L : List Leaf) (a b : Int) : Int :=
  if a < 0 then b else if 0 ≤ b ∧ ahead (leafAt L b).1 (leafAt L a).1 = true then b else a

theorem betterF_neg (L : List Leaf) (a b : Int) (h : a < 0) : betterF L a b = b := by simp [betterF, h]
theorem betterF_bneg (L : List Leaf) (a b : Int) (h : 0 ≤ a) (hb : b < 0) : betterF L a b = a := by
  unfold betterF; rw [if_neg (by omega), if_neg (by omega)]
theorem betterF_both (L : List Leaf) (a b : Int) (h : 0 ≤ a) (hb : 0 ≤ b) : betterF L a b = if ahead (leafAt L b).1 (leafAt L a).1 = true then b else a := by
  unfold betterF; rw [if_neg (by omega)]; simp [hb]
theorem betterF_or (L : List Leaf) (a b : Int) : betterF L a b = a ∨ betterF L a b = b := by
  unfold betterF; split
  · exact .inr rfl
  · split
    · exact .inr rfl
    · exact .inl rfl

/-- From node k up: each one anew. -/
def climb (L : List Leaf) : Nat → Nat → List Int → List Int
  | 0, _, N => N
  | f + 1, k, N => if k = 0 then N else climb L f (k / 2) (N.set k (betterF L (N.getD (2 * k) (-1)) (N.getD (2 * k + 1) (-1))))

def playN (L : List Leaf) (size i : Nat) (b : Bool) (N : List Int) : List Int :=
  climb L (size + i) ((size + i) / 2) (N.set (size + i) (if b then (i : Int) else -1))

theorem climb_len (L : List Leaf) (f k : Nat) (N : List Int) : (climb L f k N).length = N.length := by
  induction f generalizing k N with
  | zero => rfl
  | succ f ih => unfold climb; split
                 · rfl
                 · rw [ih, List.length_set]
theorem climb_zero (L : List Leaf) (f : Nat) (N : List Int) : climb L f 0 N = N := by cases f <;> simp [climb]
theorem climb_step (L : List Leaf) (f k : Nat) (N : List Int) (hk : 0 < k) (hf : k ≤ f) :
    climb L f k N = climb L (f - 1) (k / 2) (N.set k (betterF L (N.getD (2 * k) (-1)) (N.getD (2 * k + 1) (-1)))) := by
  obtain ⟨g, rfl⟩ : ∃ g, f = g + 1 := ⟨f - 1, by omega⟩
  simp only [climb, Nat.add_sub_cancel]; rw [if_neg (by omega)]
theorem climb_fuel (L : List Leaf) : ∀ (k f g : Nat) (N : List Int), k ≤ f → k ≤ g → climb L f k N = climb L g k N := by
  intro k
  induction k using Nat.strongRecOn with
  | ind k ih =>
    intro f g N hf hg
    rcases Nat.eq_zero_or_pos k with rfl | hk
    · rw [climb_zero, climb_zero]
    · rw [climb_step L f k N hk hf, climb_step L g k N hk hg]
      exact ih (k / 2) (by omega) _ _ _ (by omega) (by omega)

def InR (n : Nat) (N : List Int) : Prop := ∀ v ∈ N, -1 ≤ v ∧ v < n
theorem InR.set {n : Nat} {N : List Int} (h : InR n N) (k : Nat) (v : Int) (h1 : -1 ≤ v) (h2 : v < n) : InR n (N.set k v) := by
  intro u hu
  rcases List.mem_or_eq_of_mem_set hu with hu | rfl
  · exact h u hu
  · exact ⟨h1, h2⟩
theorem InR.getD {n : Nat} {N : List Int} (h : InR n N) (k : Nat) : -1 ≤ N.getD k (-1) ∧ N.getD k (-1) < n := by
  rw [List.getD_eq_getElem?_getD]
  cases hk : N[k]? with
  | none => simp; omega
  | some v => simp only [Option.getD_some]; exact h v (List.mem_of_getElem? hk)
theorem InR.better {n : Nat} {N : List Int} (h : InR n N) (L : List Leaf) (k j : Nat) : -1 ≤ betterF L (N.getD k (-1)) (N.getD j (-1)) ∧ betterF L (N.getD k (-1)) (N.getD j (-1)) < n := by
  rcases betterF_or L (N.getD k (-1)) (N.getD j (-1)) with e | e <;> rw [e]
  · exact h.getD k
  · exact h.getD j

/-- Nodes that tell who wins below. -/
structure Good (L : List Leaf) (size : Nat) (N : List Int) : Prop where
  len : N.length = 2 * size
  leaf : ∀ i, i < size → N.getD (size + i) (-1) = if (L.getD i zLeaf).2 = true then (i : Int) else -1
  node : ∀ k, 1 ≤ k → k < size → N.getD k (-1) = betterF L (N.getD (2 * k) (-1)) (N.getD (2 * k + 1) (-1))

end Go.Proofs.Ytoalbmcceehccaa
