/-
  Items in order, as plain lists: what a heap, a wheel, a shard, a queue tell. No condition.
-/
import Derived.Test.YtbnifhdnpeiheaaDoorItem
set_option linter.unusedVariables false
set_option linter.unusedSimpArgs false
namespace Go.Proofs.YtbnifhdnpeiheaaDoor

/-- Each is ahead of all that follow. -/
def Srt (L : List It) : Prop := L.Pairwise (fun a b => ahead a b = true)
def NdI (L : List It) : Prop := (L.map (·.2)).Nodup
def insI (x : It) : List It → List It
  | [] => [x]
  | y :: r => if ahead y x = true then y :: insI x r else x :: y :: r
def hasI (L : List It) (id : Int) : Bool := L.any (fun x => x.2 == id)
def dropI (L : List It) (id : Int) : List It := L.filter (fun x => !(x.2 == id))
def findI (L : List It) (id : Int) : Option It := L.find? (fun x => x.2 == id)

theorem ahead_trans {a b c : It} (h1 : ahead a b = true) (h2 : ahead b c = true) : ahead a c = true := by rw [ahead_iff] at *; omega
theorem ahead_irrefl (a : It) : ahead a a = false := by rw [ahead_no]; omega
theorem ahead_asymm {a b : It} (h1 : ahead a b = true) : ahead b a = false := by rw [ahead_iff] at h1; rw [ahead_no]; omega
theorem ahead_total {a b : It} (h : a.2 ≠ b.2) : ahead a b = true ∨ ahead b a = true := by rw [ahead_iff, ahead_iff]; omega
theorem ahead_not {a b : It} (h : a.2 ≠ b.2) (h2 : ahead a b = false) : ahead b a = true := by rcases ahead_total h with h | h; rw [h] at h2; cases h2; exact h

theorem insI_perm (x : It) (L : List It) : (insI x L).Perm (x :: L) := by
  induction L with
  | nil => exact List.Perm.refl _
  | cons y r ih =>
    simp only [insI]
    split
    · exact (List.Perm.cons y ih).trans (List.Perm.swap x y r)
    · exact List.Perm.refl _
theorem insI_srt {x : It} {L : List It} (h : Srt L) (hx : ∀ y ∈ L, y.2 ≠ x.2) : Srt (insI x L) := by
  induction L with
  | nil => exact List.pairwise_singleton _ _
  | cons y r ih =>
    unfold Srt at h
    rw [List.pairwise_cons] at h
    simp only [insI]
    by_cases hy : ahead y x = true
    · rw [if_pos hy]
      unfold Srt
      rw [List.pairwise_cons]
      refine ⟨fun z hz => ?_, ih h.2 (fun z hz => hx z (List.mem_cons_of_mem _ hz))⟩
      have := (insI_perm x r).mem_iff.1 hz
      rcases List.mem_cons.1 this with rfl | hz
      · exact hy
      · exact h.1 z hz
    · rw [if_neg hy]
      have hxy : ahead x y = true := ahead_not (hx y (by simp)) (by simpa using hy)
      unfold Srt
      rw [List.pairwise_cons]
      refine ⟨fun z hz => ?_, List.pairwise_cons.2 h⟩
      rcases List.mem_cons.1 hz with rfl | hz
      · exact hxy
      · exact ahead_trans hxy (h.1 z hz)
theorem Srt.nd {L : List It} (h : Srt L) : L.Nodup := by
  refine List.Pairwise.imp (fun {a b} hab e => ?_) h
  subst e; rw [ahead_irrefl] at hab; cases hab
/-- Two orders of the same items are one. -/
theorem srt_unique {L M : List It} (h : Srt L) (g : Srt M) (hp : L.Perm M) : L = M := by
  induction L generalizing M with
  | nil => exact (List.nil_perm.1 hp).symm
  | cons a r ih =>
    cases M with
    | nil => exact absurd hp (by simp)
    | cons b s =>
      unfold Srt at h g
      rw [List.pairwise_cons] at h g
      have hab : a = b := by
        have h1 : a ∈ b :: s := hp.mem_iff.1 (by simp)
        have h2 : b ∈ a :: r := hp.mem_iff.2 (by simp)
        rcases List.mem_cons.1 h1 with e | h1
        · exact e
        · rcases List.mem_cons.1 h2 with e | h2
          · exact e.symm
          · have := ahead_asymm (h.1 b h2)
            rw [g.1 a h1] at this; cases this
      subst hab
      rw [ih h.2 g.2 (List.perm_cons a |>.1 hp)]
theorem NdI.perm {L M : List It} (h : NdI L) (hp : L.Perm M) : NdI M := (hp.map _).nodup_iff.1 h
theorem hasI_perm {L M : List It} (hp : L.Perm M) (id : Int) : hasI L id = hasI M id := by
  unfold hasI
  rw [Bool.eq_iff_iff, List.any_eq_true, List.any_eq_true]
  exact ⟨fun ⟨x, hx, h⟩ => ⟨x, hp.mem_iff.1 hx, h⟩, fun ⟨x, hx, h⟩ => ⟨x, hp.mem_iff.2 hx, h⟩⟩
theorem hasI_iff (L : List It) (id : Int) : hasI L id = true ↔ ∃ x ∈ L, x.2 = id := by unfold hasI; rw [List.any_eq_true]; simp
theorem hasI_no (L : List It) (id : Int) : hasI L id = false ↔ ∀ x ∈ L, x.2 ≠ id := by
  rw [← Bool.not_eq_true, hasI_iff]
  exact ⟨fun h x hx e => h ⟨x, hx, e⟩, fun h ⟨x, hx, e⟩ => h x hx e⟩
theorem dropI_srt {L : List It} (h : Srt L) (id : Int) : Srt (dropI L id) := List.Pairwise.sublist List.filter_sublist h
theorem dropI_nd {L : List It} (h : NdI L) (id : Int) : NdI (dropI L id) := h.sublist (List.filter_sublist.map _)
theorem dropI_perm {L M : List It} (hp : L.Perm M) (id : Int) : (dropI L id).Perm (dropI M id) := hp.filter _
theorem dropI_none {L : List It} {id : Int} (h : hasI L id = false) : dropI L id = L := by
  unfold dropI
  rw [List.filter_eq_self]
  intro x hx
  have := (hasI_no L id).1 h x hx
  simpa using this
theorem insI_nd {x : It} {L : List It} (h : NdI L) (hx : hasI L x.2 = false) : NdI (insI x L) := by
  refine NdI.perm (L := x :: L) ?_ (insI_perm x L).symm
  unfold NdI at *
  rw [List.map_cons, List.nodup_cons]
  refine ⟨fun hm => ?_, h⟩
  obtain ⟨y, hy, e⟩ := List.mem_map.1 hm
  exact (hasI_no L x.2).1 hx y hy e
theorem findI_mem {L : List It} {id : Int} {x : It} (h : findI L id = some x) : x ∈ L ∧ x.2 = id := by
  unfold findI at h
  exact ⟨List.mem_of_find?_eq_some h, by have := List.find?_some h; simpa using this⟩
theorem findI_of {L : List It} (h : NdI L) {x : It} (hx : x ∈ L) : findI L x.2 = some x := by
  cases hf : findI L x.2 with
  | none =>
    unfold findI at hf
    rw [List.find?_eq_none] at hf
    have := hf x hx
    simp at this
  | some y =>
    obtain ⟨hy, e⟩ := findI_mem hf
    congr 1
    unfold NdI at h
    obtain ⟨i, hi, rfl⟩ := List.mem_iff_getElem.1 hx
    obtain ⟨j, hj, rfl⟩ := List.mem_iff_getElem.1 hy
    have hp := List.pairwise_iff_getElem.1 h
    rcases Nat.lt_trichotomy i j with hij | rfl | hij
    · exact absurd (by rw [List.getElem_map, List.getElem_map]; exact e.symm) (hp i j (by simpa using hi) (by simpa using hj) hij)
    · rfl
    · exact absurd (by rw [List.getElem_map, List.getElem_map]; exact e) (hp j i (by simpa using hj) (by simpa using hi) hij)
theorem findI_none {L : List It} {id : Int} : findI L id = none ↔ hasI L id = false := by
  unfold findI
  rw [List.find?_eq_none, hasI_no]
  constructor
  · intro h x hx e; have := h x hx; simp [e] at this
  · intro h x hx; have := h x hx; simpa using this
theorem findI_perm {L M : List It} (h : NdI L) (hp : L.Perm M) (id : Int) : findI L id = findI M id := by
  cases hf : findI L id with
  | none => rw [findI_none, hasI_perm hp, ← findI_none] at hf; exact hf.symm
  | some x =>
    obtain ⟨hx, rfl⟩ := findI_mem hf
    exact (findI_of (h.perm hp) (hp.mem_iff.1 hx)).symm
/-- What a push of an item leaves, of the same items in any order. -/
theorem push_perm {A L : List It} (hp : A.Perm L) (x : It) : (A ++ [x]).Perm (insI x L) := (List.perm_append_singleton x A).trans ((List.Perm.cons x hp).trans (insI_perm x L).symm)

end Go.Proofs.YtbnifhdnpeiheaaDoor
