/-
  Texts of this claim, joined: HeapM, HeapA, HeapB, HeapC, HeapD, HeapE, HeapF, HeapG, HeapH, HeapI, HeapJ, HeapK. No condition.
-/
import Derived.Test.YtolohheflbmfaaaGreatDoorPB
import Derived.Deep.AppendLies
import Derived.Deep.RegionLaw
set_option linter.unusedVariables false
set_option linter.unusedSimpArgs false
/-! HeapM -/
namespace Go.Proofs.YtolohheflbmfaaaGreatDoor

def swp (A : List It) (i j : Nat) : List It := (A.set i (atI A j)).set j (atI A i)
def par (i : Nat) : Nat := (i - 1) / 2
def sUp : Nat → List It → Nat → List It
  | 0, A, _ => A
  | f + 1, A, i => if i = 0 ∨ ahead (atI A i) (atI A (par i)) = false then A else sUp f (swp A i (par i)) (par i)
def lst1 (A : List It) (i : Nat) : Nat := if 2 * i + 1 < A.length ∧ ahead (atI A (2 * i + 1)) (atI A i) = true then 2 * i + 1 else i
def lst (A : List It) (i : Nat) : Nat := if 2 * i + 2 < A.length ∧ ahead (atI A (2 * i + 2)) (atI A (lst1 A i)) = true then 2 * i + 2 else lst1 A i
def sDn : Nat → List It → Nat → List It
  | 0, A, _ => A
  | f + 1, A, i => if lst A i = i then A else sDn f (swp A i (lst A i)) (lst A i)
def HeapOrd (A : List It) : Prop := ∀ i, 0 < i → i < A.length → ahead (atI A i) (atI A (par i)) = false

theorem swp_len (A : List It) (i j : Nat) : (swp A i j).length = A.length := by simp [swp]
theorem atI_swp (A : List It) (i j k : Nat) (hi : i < A.length) (hj : j < A.length) : atI (swp A i j) k = if k = j then atI A i else if k = i then atI A j else atI A k := by
  unfold swp
  by_cases h1 : k = j
  · subst h1
    rw [if_pos rfl]
    unfold atI
    rw [List.getD_eq_getElem?_getD]; simp [hj]
  · rw [if_neg h1]
    by_cases h2 : k = i
    · subst h2
      rw [if_pos rfl]
      unfold atI
      rw [List.getD_eq_getElem?_getD, List.getElem?_set_ne (fun e => h1 e.symm)]; simp [hi]
    · rw [if_neg h2]
      unfold atI
      rw [List.getD_eq_getElem?_getD, List.getElem?_set_ne (fun e => h1 e.symm), List.getElem?_set_ne (fun e => h2 e.symm), ← List.getD_eq_getElem?_getD]
theorem swp_self (A : List It) (i : Nat) (hi : i < A.length) : swp A i i = A := by
  apply List.ext_getElem?
  intro k
  unfold swp atI
  rw [List.set_set, List.getD_eq_getElem?_getD, List.getElem?_eq_getElem hi]
  simp
theorem swp_perm (A : List It) (i j : Nat) (hi : i < A.length) (hj : j < A.length) : (swp A i j).Perm A := by
  unfold swp
  rw [atI_get A i hi, atI_get A j hj]
  exact List.set_set_perm hi hj

theorem sUp_len (f : Nat) : ∀ (A : List It) (i : Nat), (sUp f A i).length = A.length := by
  induction f with
  | zero => intro A i; rfl
  | succ f ih => intro A i; simp only [sUp]; split
                 · rfl
                 · rw [ih, swp_len]
theorem sDn_len (f : Nat) : ∀ (A : List It) (i : Nat), (sDn f A i).length = A.length := by
  induction f with
  | zero => intro A i; rfl
  | succ f ih => intro A i; simp only [sDn]; split
                 · rfl
                 · rw [ih, swp_len]
theorem lst1_lt (A : List It) (i : Nat) (hi : i < A.length) : lst1 A i < A.length ∧ i ≤ lst1 A i := by unfold lst1; split <;> omega
theorem lst_lt (A : List It) (i : Nat) (hi : i < A.length) : lst A i < A.length ∧ i ≤ lst A i := by have := lst1_lt A i hi; unfold lst; split <;> omega
theorem sUp_perm (f : Nat) : ∀ (A : List It) (i : Nat), i < A.length → (sUp f A i).Perm A := by
  induction f with
  | zero => intro A i _; exact List.Perm.refl _
  | succ f ih =>
    intro A i hi
    simp only [sUp]
    split
    · exact List.Perm.refl _
    · have hp : par i < A.length := by unfold par; omega
      exact (ih _ _ (by rw [swp_len]; exact hp)).trans (swp_perm A i (par i) hi hp)
theorem sDn_perm (f : Nat) : ∀ (A : List It) (i : Nat), i < A.length → (sDn f A i).Perm A := by
  induction f with
  | zero => intro A i _; exact List.Perm.refl _
  | succ f ih =>
    intro A i hi
    simp only [sDn]
    split
    · exact List.Perm.refl _
    · have hp := (lst_lt A i hi).1
      exact (ih _ _ (by rw [swp_len]; exact hp)).trans (swp_perm A i _ hi hp)

theorem sUp_ord : ∀ (i f : Nat) (A : List It), i < A.length → i ≤ f → (∀ j, 0 < j → j < A.length → j ≠ i → ahead (atI A j) (atI A (par j)) = false) →
    (∀ c, 0 < c → c < A.length → par c = i → 0 < i → ahead (atI A c) (atI A (par i)) = false) → HeapOrd (sUp f A i) := by
  intro i
  induction i using Nat.strongRecOn with
  | ind i ih =>
    intro f A hi hf h1 h2
    by_cases h0 : i = 0 ∨ ahead (atI A i) (atI A (par i)) = false
    · have e : sUp f A i = A := by cases f <;> simp [sUp, h0]
      rw [e]
      intro j hj hjl
      by_cases hji : j = i
      · subst hji
        rcases h0 with h0 | h0
        · omega
        · exact h0
      · exact h1 j hj hjl hji
    · obtain ⟨g, rfl⟩ : ∃ g, f = g + 1 := ⟨f - 1, by omega⟩
      simp only [sUp]
      rw [if_neg h0]
      have hi0 : 0 < i := by omega
      have hah : ahead (atI A i) (atI A (par i)) = true := by
        cases hh : ahead (atI A i) (atI A (par i)) with
        | true => rfl
        | false => exact absurd (.inr hh) h0
      have hpi : par i < i := by unfold par; omega
      have hpl : par i < A.length := by omega
      refine ih (par i) hpi g _ (by rw [swp_len]; exact hpl) (by omega) ?_ ?_
      · intro j hj hjl hjp
        rw [swp_len] at hjl
        rw [atI_swp A i (par i) j hi hpl, atI_swp A i (par i) (par j) hi hpl, if_neg hjp]
        by_cases hji : j = i
        · subst hji
          rw [if_pos rfl, if_pos rfl]
          exact ahead_asymm hah
        · rw [if_neg hji]
          have hjj := h1 j hj hjl hji
          by_cases e1 : par j = par i
          · rw [if_pos e1]
            rw [e1] at hjj
            rw [ahead_no] at hjj ⊢
            rw [ahead_iff] at hah
            omega
          · rw [if_neg e1]
            by_cases e2 : par j = i
            · rw [if_pos e2]; exact h2 j hj hjl e2 hi0
            · rw [if_neg e2]; exact hjj
      · intro c hc hcl hcp hp0
        rw [swp_len] at hcl
        have hpp : par (par i) < par i := by unfold par at *; omega
        rw [atI_swp A i (par i) c hi hpl, atI_swp A i (par i) (par (par i)) hi hpl, if_neg (show ¬ par (par i) = par i by omega), if_neg (show ¬ par (par i) = i by omega), if_neg (show ¬ c = par i by intro e; rw [e] at hcp; omega)]
        have hg := h1 (par i) hp0 hpl (by omega)
        by_cases e : c = i
        · rw [if_pos e]; exact hg
        · rw [if_neg e]
          have hcc := h1 c hc hcl e
          rw [hcp] at hcc
          rw [ahead_no] at hg hcc ⊢
          omega

theorem lst_cases (A : List It) (i : Nat) : lst A i = i ∨ lst A i = 2 * i + 1 ∨ lst A i = 2 * i + 2 := by unfold lst lst1; (repeat' split) <;> simp

/-- The least of a place and its two: none of the three is ahead of it. -/
theorem lst_least (A : List It) (i k : Nat) (hk : k = i ∨ (k = 2 * i + 1 ∧ k < A.length) ∨ (k = 2 * i + 2 ∧ k < A.length)) : ahead (atI A k) (atI A (lst A i)) = false := by
  have h1 : ahead (atI A i) (atI A (lst1 A i)) = false ∧ (2 * i + 1 < A.length → ahead (atI A (2 * i + 1)) (atI A (lst1 A i)) = false) := by
    unfold lst1
    by_cases h : 2 * i + 1 < A.length ∧ ahead (atI A (2 * i + 1)) (atI A i) = true
    · rw [if_pos h]; exact ⟨ahead_asymm h.2, fun _ => ahead_irrefl _⟩
    · rw [if_neg h]
      refine ⟨ahead_irrefl _, fun hl => ?_⟩
      cases hh : ahead (atI A (2 * i + 1)) (atI A i) with
      | false => rfl
      | true => exact absurd ⟨hl, hh⟩ h
  unfold lst
  by_cases h : 2 * i + 2 < A.length ∧ ahead (atI A (2 * i + 2)) (atI A (lst1 A i)) = true
  · rw [if_pos h]
    have hh := h.2
    rw [ahead_iff] at hh
    rcases hk with rfl | ⟨rfl, hl⟩ | ⟨rfl, hl⟩
    · have := h1.1; rw [ahead_no] at this ⊢; omega
    · have := h1.2 hl; rw [ahead_no] at this ⊢; omega
    · exact ahead_irrefl _
  · rw [if_neg h]
    rcases hk with rfl | ⟨rfl, hl⟩ | ⟨rfl, hl⟩
    · exact h1.1
    · exact h1.2 hl
    · cases hh : ahead (atI A (2 * i + 2)) (atI A (lst1 A i)) with
      | false => rfl
      | true => exact absurd ⟨hl, hh⟩ h
theorem par_child (c i : Nat) (hc : 0 < c) : par c = i ↔ c = 2 * i + 1 ∨ c = 2 * i + 2 := by unfold par; omega
theorem lst_eq (A : List It) (i : Nat) (_hi : i < A.length) (h : lst A i ≠ i) : ahead (atI A (lst A i)) (atI A i) = true := by
  unfold lst lst1 at *
  by_cases h1 : 2 * i + 1 < A.length ∧ ahead (atI A (2 * i + 1)) (atI A i) = true
  · rw [if_pos h1] at *
    by_cases h2 : 2 * i + 2 < A.length ∧ ahead (atI A (2 * i + 2)) (atI A (2 * i + 1)) = true
    · rw [if_pos h2]; exact ahead_trans h2.2 h1.2
    · rw [if_neg h2]; exact h1.2
  · rw [if_neg h1] at *
    by_cases h2 : 2 * i + 2 < A.length ∧ ahead (atI A (2 * i + 2)) (atI A i) = true
    · rw [if_pos h2]; exact h2.2
    · rw [if_neg h2] at h; exact absurd rfl h

theorem sDn_ord : ∀ (d i f : Nat) (A : List It), A.length - i = d → i < A.length → d ≤ f → (∀ j, 0 < j → j < A.length → par j ≠ i → ahead (atI A j) (atI A (par j)) = false) →
    (∀ c, 0 < c → c < A.length → par c = i → 0 < i → ahead (atI A c) (atI A (par i)) = false) → HeapOrd (sDn f A i) := by
  intro d
  induction d using Nat.strongRecOn with
  | ind d ih =>
    intro i f A hd hi hf h1 h2
    obtain ⟨g, rfl⟩ : ∃ g, f = g + 1 := ⟨f - 1, by omega⟩
    simp only [sDn]
    by_cases h0 : lst A i = i
    · rw [if_pos h0]
      intro j hj hjl
      by_cases hp : par j = i
      · rw [hp]
        have := lst_least A i j (.inr (by rcases (par_child j i hj).1 hp with e | e; exact .inl ⟨e, hjl⟩; exact .inr ⟨e, hjl⟩))
        rw [h0] at this; exact this
      · exact h1 j hj hjl hp
    · rw [if_neg h0]
      have hl := lst_lt A i hi
      have hah := lst_eq A i hi h0
      have hc := lst_cases A i
      obtain ⟨m, hm⟩ : ∃ m, lst A i = m := ⟨_, rfl⟩
      have hle := fun k hk => lst_least A i k hk
      rw [hm] at h0 hl hah hc hle ⊢
      have hmi : i < m := by omega
      have hpm : par m = i := by rw [par_child m i (by omega)]; omega
      refine ih (A.length - m) (by omega) m g _ (by rw [swp_len]) (by rw [swp_len]; exact hl.1) (by omega) ?_ ?_
      · intro j hj hjl hjp
        rw [swp_len] at hjl
        rw [atI_swp A i m j hi hl.1, atI_swp A i m (par j) hi hl.1, if_neg hjp]
        by_cases e1 : j = m
        · subst e1
          rw [if_pos rfl, if_pos hpm]
          exact ahead_asymm hah
        · rw [if_neg e1]
          by_cases e2 : j = i
          · subst e2
            rw [if_pos rfl]
            have hpj : par j < j := by unfold par; omega
            rw [if_neg (show ¬ par j = j by omega)]
            exact h2 m (by omega) hl.1 hpm hj
          · rw [if_neg e2]
            by_cases e3 : par j = i
            · rw [if_pos e3]
              exact hle j (.inr (by rcases (par_child j i hj).1 e3 with e | e; exact .inl ⟨e, hjl⟩; exact .inr ⟨e, hjl⟩))
            · rw [if_neg e3]; exact h1 j hj hjl e3
      · intro c hcc hcl hcp hm0
        rw [swp_len] at hcl
        have hcm : m < c := by rw [par_child c m hcc] at hcp; omega
        rw [atI_swp A i m c hi hl.1, atI_swp A i m (par m) hi hl.1, hpm, if_neg (show ¬ c = m by omega), if_neg (show ¬ c = i by omega), if_neg (show ¬ i = m by omega), if_pos rfl]
        have := h1 c hcc hcl (by omega)
        rw [hcp] at this
        exact this


/-- What an array that stands as it should has first. -/
theorem ord_first {A : List It} (h : HeapOrd A) : ∀ i, i < A.length → ahead (atI A i) (atI A 0) = false := by
  intro i
  induction i using Nat.strongRecOn with
  | ind i ih =>
    intro hi
    rcases Nat.eq_zero_or_pos i with rfl | h0
    · exact ahead_irrefl _
    · have h1 := h i h0 hi
      have h2 := ih (par i) (by unfold par; omega) (by unfold par; omega)
      rw [ahead_no] at h1 h2 ⊢
      omega
theorem ord_nil : HeapOrd [] := fun _ _ h => by simp at h

/-- A push. -/
theorem push_ord {A : List It} (h : HeapOrd A) (x : It) (f : Nat) (hf : A.length ≤ f) : HeapOrd (sUp f (A ++ [x]) A.length) := by
  refine sUp_ord A.length f _ (by simp) hf (fun j hj hjl hne => ?_) (fun c hc hcl hcp h0 => ?_)
  · simp at hjl
    have hjA : j < A.length := by omega
    rw [atI_append _ _ _ hjA, atI_append _ _ _ (by unfold par; omega)]
    exact h j hj hjA
  · simp at hcl
    rw [par_child c _ hc] at hcp
    omega

/-- Another item in the place of one in the middle. -/
theorem put_ord {A : List It} (h : HeapOrd A) {i : Nat} (hi : i < A.length) (x : It) (f g : Nat) (hf : A.length ≤ f) (hg : A.length ≤ g) : HeapOrd (sDn g (sUp f (A.set i x) i) i) := by
  have hat : ∀ k, k ≠ i → atI (A.set i x) k = atI A k := fun k hk => by unfold atI; rw [List.getD_eq_getElem?_getD, List.getElem?_set_ne (fun e => hk e.symm), ← List.getD_eq_getElem?_getD]
  have hati : atI (A.set i x) i = x := by unfold atI; rw [List.getD_eq_getElem?_getD]; simp [hi]
  -- what stands below i stands behind what stands above it
  have hgp : ∀ c, 0 < c → c < A.length → par c = i → 0 < i → ahead (atI A c) (atI A (par i)) = false := fun c hc hcl hcp h0 => by
    have h1 := h c hc hcl
    rw [hcp] at h1
    have h2 := h i h0 hi
    rw [ahead_no] at h1 h2 ⊢; omega
  by_cases h0 : i = 0 ∨ ahead x (atI A (par i)) = false
  · have e : sUp f (A.set i x) i = A.set i x := by
      cases f with
      | zero => rfl
      | succ f =>
        simp only [sUp]
        rw [if_pos]
        rcases h0 with h0 | h0
        · exact .inl h0
        · by_cases hi0 : i = 0
          · exact .inl hi0
          · right; rw [hati, hat (par i) (by unfold par; omega)]; exact h0
    rw [e]
    refine sDn_ord _ i g _ rfl (by simpa using hi) (by simp; omega) (fun j hj hjl hjp => ?_) (fun c hc hcl hcp hi0 => ?_)
    · simp at hjl
      by_cases hji : j = i
      · subst hji
        rw [hati, hat (par j) (by unfold par; omega)]
        rcases h0 with h0 | h0
        · omega
        · exact h0
      · rw [hat j hji, hat (par j) hjp]; exact h j hj hjl
    · simp at hcl
      rw [hat c (by rw [par_child c i hc] at hcp; omega), hat (par i) (by unfold par; omega)]
      exact hgp c hc hcl hcp hi0
  · have hah : ahead x (atI A (par i)) = true := by
      cases hh : ahead x (atI A (par i)) with
      | true => rfl
      | false => exact absurd (.inr hh) h0
    have hi0 : 0 < i := by omega
    have hup : HeapOrd (sUp f (A.set i x) i) := by
      refine sUp_ord i f _ (by simpa using hi) (by omega) (fun j hj hjl hji => ?_) (fun c hc hcl hcp _ => ?_)
      · simp at hjl
        rw [hat j hji]
        by_cases hp : par j = i
        · rw [hp, hati]
          have := hgp j hj hjl hp hi0
          rw [ahead_no] at this ⊢
          rw [ahead_iff] at hah
          omega
        · rw [hat (par j) hp]; exact h j hj hjl
      · simp at hcl
        rw [hat c (by rw [par_child c i hc] at hcp; omega), hat (par i) (by unfold par; omega)]
        exact hgp c hc hcl hcp hi0
    have hlen : (sUp f (A.set i x) i).length = A.length := by rw [sUp_len]; simp
    refine sDn_ord _ i g _ rfl (by rw [hlen]; exact hi) (by rw [hlen]; omega) (fun j hj hjl _ => hup j hj hjl) (fun c hc hcl hcp hi0 => ?_)
    have h1 := hup c hc hcl
    rw [hcp] at h1
    have h2 := hup i hi0 (by rw [hlen]; exact hi)
    rw [ahead_no] at h1 h2 ⊢; omega
theorem take_ord {A : List It} (h : HeapOrd A) (n : Nat) : HeapOrd (A.take n) := by
  intro i hi hl
  simp at hl
  have e : ∀ k, k < n → atI (A.take n) k = atI A k := fun k hk => by unfold atI; rw [List.getD_eq_getElem?_getD, List.getElem?_take, if_pos hk, ← List.getD_eq_getElem?_getD]
  rw [e i (by omega), e (par i) (by unfold par; omega)]
  exact h i hi (by omega)
end Go.Proofs.YtolohheflbmfaaaGreatDoor

/-! HeapA -/
namespace Go.Proofs.YtolohheflbmfaaaGreatDoor
open Go.RowKit

theorem underlyingIntMap : Tryz.prog.underlying 79 = some (.map 3 3) := by kernel_rfl
theorem underlyingInt : Tryz.prog.underlying 3 = some (.int .i64) := by kernel_rfl
theorem zeroInt (w : World) : (zeroValue 3).run Tryz.prog w = .ok (.int .i64 0) w := by kernel_rfl


/-- The map tells where each ID stands. -/
def IdxOf (A : List It) (M : AL) : Prop := (∀ j, j < A.length → lookM M (atI A j).2 = some (.int .i64 j)) ∧ ∀ id v, lookM M id = some v → ∃ j, j < A.length ∧ (atI A j).2 = id


/-- A heap in memory. -/
structure HpAt (w : World) (hb : Nat) (ao : Option Addr) (cap mb : Nat) (A : List It) : Prop where
  top : Blk w hb 160 [.slice ao A.length cap, .map (some mb)]
  row : RowO w 54 2 ao A.length cap (A.flatMap itVs)
  map : ∃ M, IMap w mb M ∧ NdM M ∧ IdxOf A M
  nd : NdI A
  small : A.length ≤ 1000
  d1 : hb ∉ blkO ao
  d2 : hb ≠ mb
  d3 : mb ∉ blkO ao

theorem HpAt.upd {S : List Nat} {w w' : World} {hb cap mb : Nat} {ao : Option Addr} {A : List It} (h : HpAt w hb ao cap mb A) (hu : Upd S w w') (h1 : hb ∉ S) (h2 : ∀ b ∈ blkO ao, b ∉ S) (h3 : mb ∉ S) : HpAt w' hb ao cap mb A := by
  obtain ⟨M, hM, r⟩ := h.map
  exact { h with top := h.top.upd hu h1, row := h.row.upd hu h2, map := ⟨M, hM.upd hu h3, r⟩ }


/-- The entry of an ID that is there. -/
theorem ent_of {w : World} {mb : Nat} {M : AL} (h : IMap w mb M) {k : Int} {v : Value} (hl : lookM M k = some v) : ∃ s, HasEnt w mb k s := by
  obtain ⟨es, clock, hb, hM, hS⟩ := h
  have := lookM_idx M k 0
  rw [hl] at this
  obtain ⟨⟨i, x⟩, hi, _⟩ := Option.map_eq_some_iff.1 this
  obtain ⟨_, e, he, _⟩ := idx_get hM hi
  exact ⟨e.born, es, clock, M, i, x, hb, hM, hS, hi, by rw [Nat.sub_zero] at he; rw [he]; rfl⟩

theorem swap_cells {w W1 : World} {hb g cap mb : Nat} {A : List It} (h : HpAt w hb (some ⟨g, 0, none⟩) cap mb A) {i j : Nat} (hi : i < A.length) (hj : j < A.length) {xi xj : It} (hxi : atI A i = xi) (hxj : atI A j = xj)
    (hW : W1 = ((((w.setCell ⟨g, i * 2, none⟩ (.int .u64 xj.1)).setCell ⟨g, i * 2 + 1, none⟩ (.int .i64 xj.2)).setCell ⟨g, j * 2, none⟩ (.int .u64 xi.1)).setCell ⟨g, j * 2 + 1, none⟩ (.int .i64 xi.2)).drew) :
    Upd [g] w W1 ∧ Row W1 54 2 g A.length cap ((swp A i j).flatMap itVs) := by
  subst hW
  refine ⟨((((Upd.refl _ w).setCell (by simp) _).setCell (by simp) _).setCell (by simp) _).setCell (by simp) _ |>.drew, ?_⟩
  have hr : Row w 54 2 g A.length cap (A.flatMap itVs) := h.row
  have h4 := (((hr.set (i * 2) (.int .u64 xj.1)).set (i * 2 + 1) (.int .i64 xj.2)).set (j * 2) (.int .u64 xi.1)).set (j * 2 + 1) (.int .i64 xi.2)
  rw [item_set A i hi xj, item_set (A.set i xj) j (by simpa using hj) xi] at h4
  unfold swp
  rw [hxi, hxj]
  exact h4.drew

theorem Ent.init {W1 : World} {mb : Nat} {k1 k2 : Int} {s1 s2 : Nat} (h1 : HasEnt W1 mb k1 s1) (h2 : HasEnt W1 mb k2 s2) :
    (∀ (a : Addr), W1.drew.cell? a = W1.cell? a) ∧ HasEnt W1.drew mb k1 s1 ∧ HasEnt W1.drew mb k2 s2 := ⟨fun _ => World.cell?_drew .., h1, h2⟩

theorem Ent.keep {w' W1 : World} {mb : Nat} {k1 k2 : Int} {s1 s2 : Nat} (h : (∀ (a : Addr), w'.cell? a = W1.cell? a) ∧ HasEnt w' mb k1 s1 ∧ HasEnt w' mb k2 s2) (s : Nat) (v : Value) :
    (∀ (a : Addr), (storeW w' mb s v).cell? a = W1.cell? a) ∧ HasEnt (storeW w' mb s v) mb k1 s1 ∧ HasEnt (storeW w' mb s v) mb k2 s2 := by
  obtain ⟨hc, h1, h2⟩ := h
  refine ⟨fun a => ?_, h1.stays s v, h2.stays s v⟩
  rw [← hc a]
  obtain ⟨es, clock, M, i, x, hb, hM, hS, _⟩ := h1
  rcases storeW_shape w' mb s v es clock hb with e | ⟨j, e⟩
  · rw [e]
  · rw [e]; exact setObjW_cell ⟨es, clock, hb, hM, hS⟩ _ _ a

theorem swap_idx {A : List It} {M : AL} {i j : Nat} {xi xj : It} (hA : NdI A) (hM : IdxOf A M) (hi : i < A.length) (hj : j < A.length) (hij : i ≠ j) (hxi : atI A i = xi) (hxj : atI A j = xj) :
    IdxOf (swp A i j) (putM (putM M xj.2 (.int .i64 i)) xi.2 (.int .i64 j)) := by
  have hne : xi.2 ≠ xj.2 := fun e => hij (atI_inj hA hi hj (by rw [hxi, hxj]; exact e))
  refine ⟨fun k hk => ?_, fun id v hl => ?_⟩
  · rw [swp_len] at hk
    rw [atI_swp A i j k hi hj, lookM_put, lookM_put]
    by_cases h1 : k = j
    · subst h1; rw [if_pos rfl, hxi, if_pos rfl]
    · rw [if_neg h1]
      by_cases h2 : k = i
      · subst h2; rw [if_pos rfl, hxj, if_neg (fun e => hne e.symm), if_pos rfl]
      · rw [if_neg h2, if_neg (fun e => h2 (atI_inj hA hk hi (by rw [hxi]; exact e))), if_neg (fun e => h1 (atI_inj hA hk hj (by rw [hxj]; exact e)))]
        exact hM.1 k hk
  · rw [lookM_put, lookM_put] at hl
    by_cases h1 : id = xi.2
    · subst h1; exact ⟨j, by rw [swp_len]; exact hj, by rw [atI_swp A i j j hi hj, if_pos rfl, hxi]⟩
    · rw [if_neg h1] at hl
      by_cases h2 : id = xj.2
      · subst h2; exact ⟨i, by rw [swp_len]; exact hi, by rw [atI_swp A i j i hi hj, if_neg hij, if_pos rfl, hxj]⟩
      · rw [if_neg h2] at hl
        obtain ⟨k, hk, e⟩ := hM.2 id v hl
        refine ⟨k, by rw [swp_len]; exact hk, ?_⟩
        rw [atI_swp A i j k hi hj, if_neg (fun h => h2 (by rw [← e, h, hxj])), if_neg (fun h => h1 (by rw [← e, h, hxi]))]
        exact e

theorem swap_done {w W1 : World} {hb g cap mb n : Nat} {A : List It} {i j : Nat} {xi xj : It} {M : AL} {si sj : Nat} (h : HpAt w hb (some ⟨g, 0, none⟩) cap mb A) (hn : A.length = n) (hxi : atI A i = xi) (hxj : atI A j = xj) (hi : i < n) (hj : j < n) (hij : i ≠ j)
    (hU : Upd [g] w W1) (hR : Row W1 54 2 g A.length cap ((swp A i j).flatMap itVs)) (hM : IMap W1 mb M) (hMn : NdM M) (hMi : IdxOf A M) (a1 : HasEnt W1 mb xi.2 si) (a2 : HasEnt W1 mb xj.2 sj) :
    HpAt (storeW (storeW W1.drew mb sj (.int .i64 i)) mb si (.int .i64 j)) hb (some ⟨g, 0, none⟩) cap mb (swp A i j) ∧ Upd [g, mb] w (storeW (storeW W1.drew mb sj (.int .i64 i)) mb si (.int .i64 j)) := by
  subst hn
  have n1 : hb ≠ g := by have := h.d1; simpa [blkO] using this
  have n3 : mb ≠ g := by have := h.d3; simpa [blkO] using this
  have u0 : Upd [mb] W1 W1.drew := (Upd.refl _ _).drew
  have t1 := storeW_to (a2.upd (Upd.refl [] W1).drew (by simp)) (hM.upd (Upd.refl [] W1).drew (by simp)) (.int .i64 i)
  have t2 := storeW_to ((a1.upd (Upd.refl [] W1).drew (by simp)).stays sj (.int .i64 i)) t1.map (.int .i64 j)
  have hu : Upd [mb] W1 _ := u0.trans (t1.upd.trans t2.upd)
  have hU2 : Upd [g, mb] w _ := (hU.mono (fun _ _ hm => by simp at hm ⊢; exact .inl hm)).trans (hu.mono (fun _ _ hm => by simp at hm ⊢; exact .inr hm))
  have hlen := swp_len A i j
  refine ⟨{ top := ?_, row := ?_, map := ⟨_, t2.map, (hMn.put _ _).put _ _, swap_idx h.nd hMi hi hj hij hxi hxj⟩, nd := h.nd.perm (swp_perm A i j hi hj).symm, small := by rw [hlen]; exact h.small, d1 := h.d1, d2 := h.d2, d3 := h.d3 }, hU2⟩
  · rw [hlen]; exact h.top.upd hU2 (by simp; exact ⟨n1, h.d2⟩)
  · rw [hlen]; exact (hR.upd hu (by simp; exact fun e => n3 e.symm)).o


set_option maxHeartbeats 4000000 in
theorem swap_ne (hb g cap mb : Nat) (A : List It) (i j : Nat) (w : World) (h : HpAt w hb (some ⟨g, 0, none⟩) cap mb A) (hi : i < A.length) (hj : j < A.length) (hij : i ≠ j) :
    Calls Tryz.prog 125 #[.pointer (some ⟨hb, 0, none⟩), .int .i64 i, .int .i64 j] w (fun e w' => e = .returned (.tuple #[]) ∧ HpAt w' hb (some ⟨g, 0, none⟩) cap mb (swp A i j) ∧ Upd [g, mb] w w') := by
  have HH := Lib.hid h
  have c0 := h.top.cell (j := 0) rfl
  have c1 := h.top.cell (j := 1) rfl
  obtain ⟨x0, x1⟩ := item_cells (g := g) h.row hi
  obtain ⟨y0, y1⟩ := item_cells (g := g) h.row hj
  have f0 := Row.free (g := g) h.row (i * 2)
  have f1 := Row.free (g := g) h.row (i * 2 + 1)
  have f2 := Row.free (g := g) h.row (j * 2)
  have f3 := Row.free (g := g) h.row (j * 2 + 1)
  have n1 : hb ≠ g := by have := h.d1; simpa [blkO] using this
  have n2 : hb ≠ mb := h.d2
  have n3 : mb ≠ g := by have := h.d3; simpa [blkO] using this
  have small := h.small
  obtain ⟨xi, hxi⟩ : ∃ x, atI A i = x := ⟨_, rfl⟩
  obtain ⟨xj, hxj⟩ : ∃ x, atI A j = x := ⟨_, rfl⟩
  rw [hxi] at x0 x1
  rw [hxj] at y0 y1
  have HXI := Lib.hid hxi
  have HXJ := Lib.hid hxj
  obtain ⟨n, hn⟩ : ∃ n, A.length = n := ⟨_, rfl⟩
  rw [hn] at c0 hi hj small
  have HN := Lib.hid hn
  have e1 : ¬ i * 2 = j * 2 := by omega
  have e2 : ¬ i * 2 = j * 2 + 1 := by omega
  have e3 : ¬ i * 2 + 1 = j * 2 := by omega
  have e4 : ¬ i * 2 + 1 = j * 2 + 1 := by omega
  have e5 : ¬ i = j := hij
  clear hxi hxj hn h hij
  go_enter Tryz.func125, Tryz.ntmps125
  go_wp2
  go_region
  go_wp2
  obtain ⟨W1, hW1⟩ : ∃ W1 : World, W1 = ((((w.setCell ⟨g, i * 2, none⟩ (.int .u64 xj.1)).setCell ⟨g, i * 2 + 1, none⟩ (.int .i64 xj.2)).setCell ⟨g, j * 2, none⟩ (.int .u64 xi.1)).setCell ⟨g, j * 2 + 1, none⟩ (.int .i64 xi.2)).drew := ⟨_, rfl⟩
  rw [← hW1]
  obtain ⟨hU1, hR1⟩ := swap_cells HH.out (by rw [HN.out]; exact hi) (by rw [HN.out]; exact hj) HXI.out HXJ.out hW1
  have k0 : W1.cell? ⟨hb, 0, none⟩ = some (.slice (some ⟨g, 0, none⟩) n cap) := by rw [hU1.cell HH.out.top.lt (by simp [n1])]; exact c0
  have k1 : W1.cell? ⟨hb, 1, none⟩ = some (.map (some mb)) := by rw [hU1.cell HH.out.top.lt (by simp [n1])]; exact c1
  have k2 := (item_cells hR1 (i := i) (by rw [swp_len, HN.out]; exact hi)).2
  have k3 := (item_cells hR1 (i := j) (by rw [swp_len, HN.out]; exact hj)).2
  rw [atI_swp A i j i (by rw [HN.out]; exact hi) (by rw [HN.out]; exact hj), if_neg e5, if_pos rfl, HXJ.out] at k2
  rw [atI_swp A i j j (by rw [HN.out]; exact hi) (by rw [HN.out]; exact hj), if_pos rfl, HXI.out] at k3
  obtain ⟨M, hM, hMn, hMi⟩ := HH.out.map
  have hl1 := hMi.1 i (by rw [HN.out]; exact hi)
  have hl2 := hMi.1 j (by rw [HN.out]; exact hj)
  rw [HXI.out] at hl1
  rw [HXJ.out] at hl2
  obtain ⟨si, hsi⟩ := ent_of hM hl1
  obtain ⟨sj, hsj⟩ := ent_of hM hl2
  have a1 := hsi.upd hU1 (by simp [n3])
  have a2 := hsj.upd hU1 (by simp [n3])
  have hM1 := Lib.hid (hM.upd hU1 (by simp [n3]))
  have HMN := Lib.hid hMn
  have HMI := Lib.hid hMi
  have HU1 := Lib.hid hU1
  have HR1 := Lib.hid hR1
  have q1 := fun (W : World) (h : HasEnt W mb xj.2 sj) => h.entry underlyingIntMap underlyingInt
  have q2 := fun (W : World) (h : HasEnt W mb xi.2 si) => h.entry underlyingIntMap underlyingInt
  have q3 := fun (W : World) (h : HasEnt W mb xj.2 sj) (v : Value) => h.store (P := Tryz.prog) (T := 79) v
  have q4 := fun (W : World) (h : HasEnt W mb xi.2 si) (v : Value) => h.store (P := Tryz.prog) (T := 79) v
  clear hW1 hU1 hR1 hM hMn hMi hl1 hl2 hsi hsj c0 c1 x0 x1 y0 y1 f0 f1 f2 f3
  go_region_held3 (fun w' => (∀ (a : Addr), w'.cell? a = W1.cell? a) ∧ HasEnt w' mb xj.2 sj ∧ HasEnt w' mb xi.2 si)
    (first | exact Ent.init a2 a1 | assumption | exact Ent.keep (by assumption) _ _) (fail)
  all_goals go_wp2
  go_end0
  exact ⟨rfl, swap_done HH.out HN.out HXI.out HXJ.out hi hj e5 HU1.out HR1.out hM1.out HMN.out HMI.out a1 a2⟩
end Go.Proofs.YtolohheflbmfaaaGreatDoor

/-! HeapB -/
namespace Go.Proofs.YtolohheflbmfaaaGreatDoor
open Go.RowKit

theorem self_cells {w W1 : World} {hb g cap mb : Nat} {A : List It} (h : HpAt w hb (some ⟨g, 0, none⟩) cap mb A) {i : Nat} (hi : i < A.length) {xi : It} (hxi : atI A i = xi)
    (hW : W1 = ((((w.setCell ⟨g, i * 2, none⟩ (.int .u64 xi.1)).setCell ⟨g, i * 2 + 1, none⟩ (.int .i64 xi.2)).setCell ⟨g, i * 2, none⟩ (.int .u64 xi.1)).setCell ⟨g, i * 2 + 1, none⟩ (.int .i64 xi.2)).drew) :
    Upd [g] w W1 ∧ Row W1 54 2 g A.length cap (A.flatMap itVs) := by
  have := swap_cells h hi hi hxi hxi hW
  rw [swp_self A i hi] at this
  exact this

theorem self_done {w W1 : World} {hb g cap mb n : Nat} {A : List It} {i : Nat} {xi : It} {M : AL} {si : Nat} (h : HpAt w hb (some ⟨g, 0, none⟩) cap mb A) (hn : A.length = n) (hxi : atI A i = xi) (hi : i < n)
    (hU : Upd [g] w W1) (hR : Row W1 54 2 g A.length cap (A.flatMap itVs)) (hM : IMap W1 mb M) (hMn : NdM M) (hMi : IdxOf A M) (a1 : HasEnt W1 mb xi.2 si) :
    HpAt (storeW (storeW W1.drew mb si (.int .i64 i)) mb si (.int .i64 i)) hb (some ⟨g, 0, none⟩) cap mb A ∧ Upd [g, mb] w (storeW (storeW W1.drew mb si (.int .i64 i)) mb si (.int .i64 i)) := by
  subst hn
  have n1 : hb ≠ g := by have := h.d1; simpa [blkO] using this
  have n3 : mb ≠ g := by have := h.d3; simpa [blkO] using this
  have u0 : Upd [mb] W1 W1.drew := (Upd.refl _ _).drew
  have t1 := storeW_to (a1.upd (Upd.refl [] W1).drew (by simp)) (hM.upd (Upd.refl [] W1).drew (by simp)) (.int .i64 i)
  have t2 := storeW_to ((a1.upd (Upd.refl [] W1).drew (by simp)).stays si (.int .i64 i)) t1.map (.int .i64 i)
  have hu : Upd [mb] W1 _ := u0.trans (t1.upd.trans t2.upd)
  have hU2 : Upd [g, mb] w _ := (hU.mono (fun _ _ hm => by simp at hm ⊢; exact .inl hm)).trans (hu.mono (fun _ _ hm => by simp at hm ⊢; exact .inr hm))
  refine ⟨{ h with top := h.top.upd hU2 (by simp; exact ⟨n1, h.d2⟩), row := (hR.upd hu (by simp; exact fun e => n3 e.symm)).o, map := ⟨_, t2.map, (hMn.put _ _).put _ _, fun k hk => ?_, fun id v hl => ?_⟩ }, hU2⟩
  · rw [lookM_put, lookM_put]
    by_cases h1 : (atI A k).2 = xi.2
    · rw [if_pos h1, atI_inj h.nd hk hi (by rw [hxi]; exact h1)]
    · rw [if_neg h1, if_neg h1]; exact hMi.1 k hk
  · rw [lookM_put, lookM_put] at hl
    by_cases h1 : id = xi.2
    · exact ⟨i, hi, by rw [hxi, h1]⟩
    · rw [if_neg h1, if_neg h1] at hl; exact hMi.2 id v hl

theorem Ent.init1 {W1 : World} {mb : Nat} {k1 : Int} {s1 : Nat} (h1 : HasEnt W1 mb k1 s1) : (∀ (a : Addr), W1.drew.cell? a = W1.cell? a) ∧ HasEnt W1.drew mb k1 s1 := ⟨fun _ => World.cell?_drew .., h1⟩
theorem Ent.keep1 {w' W1 : World} {mb : Nat} {k1 : Int} {s1 : Nat} (h : (∀ (a : Addr), w'.cell? a = W1.cell? a) ∧ HasEnt w' mb k1 s1) (s : Nat) (v : Value) :
    (∀ (a : Addr), (storeW w' mb s v).cell? a = W1.cell? a) ∧ HasEnt (storeW w' mb s v) mb k1 s1 := by
  have := Ent.keep (k2 := k1) (s2 := s1) ⟨h.1, h.2, h.2⟩ s v
  exact ⟨this.1, this.2.1⟩


set_option maxHeartbeats 4000000 in
theorem swap_eq (hb g cap mb : Nat) (A : List It) (i : Nat) (w : World) (h : HpAt w hb (some ⟨g, 0, none⟩) cap mb A) (hi : i < A.length) :
    Calls Tryz.prog 125 #[.pointer (some ⟨hb, 0, none⟩), .int .i64 i, .int .i64 i] w (fun e w' => e = .returned (.tuple #[]) ∧ HpAt w' hb (some ⟨g, 0, none⟩) cap mb A ∧ Upd [g, mb] w w') := by
  have HH := Lib.hid h
  have c0 := h.top.cell (j := 0) rfl
  have c1 := h.top.cell (j := 1) rfl
  obtain ⟨x0, x1⟩ := item_cells (g := g) h.row hi
  have f0 := Row.free (g := g) h.row (i * 2)
  have f1 := Row.free (g := g) h.row (i * 2 + 1)
  have n1 : hb ≠ g := by have := h.d1; simpa [blkO] using this
  have n2 : hb ≠ mb := h.d2
  have n3 : mb ≠ g := by have := h.d3; simpa [blkO] using this
  have small := h.small
  obtain ⟨xi, hxi⟩ : ∃ x, atI A i = x := ⟨_, rfl⟩
  rw [hxi] at x0 x1
  have HXI := Lib.hid hxi
  obtain ⟨n, hn⟩ : ∃ n, A.length = n := ⟨_, rfl⟩
  rw [hn] at c0 hi small
  have HN := Lib.hid hn
  clear hxi hn h
  go_enter Tryz.func125, Tryz.ntmps125
  go_wp2
  go_region
  go_wp2
  obtain ⟨W1, hW1⟩ : ∃ W1 : World, W1 = ((((w.setCell ⟨g, i * 2, none⟩ (.int .u64 xi.1)).setCell ⟨g, i * 2 + 1, none⟩ (.int .i64 xi.2)).setCell ⟨g, i * 2, none⟩ (.int .u64 xi.1)).setCell ⟨g, i * 2 + 1, none⟩ (.int .i64 xi.2)).drew := ⟨_, rfl⟩
  rw [← hW1]
  obtain ⟨hU1, hR1⟩ := self_cells HH.out (by rw [HN.out]; exact hi) HXI.out hW1
  have k0 : W1.cell? ⟨hb, 0, none⟩ = some (.slice (some ⟨g, 0, none⟩) n cap) := by rw [hU1.cell HH.out.top.lt (by simp [n1])]; exact c0
  have k1 : W1.cell? ⟨hb, 1, none⟩ = some (.map (some mb)) := by rw [hU1.cell HH.out.top.lt (by simp [n1])]; exact c1
  have k2 := (item_cells hR1 (i := i) (by rw [HN.out]; exact hi)).2
  rw [HXI.out] at k2
  obtain ⟨M, hM, hMn, hMi⟩ := HH.out.map
  have hl1 := hMi.1 i (by rw [HN.out]; exact hi)
  rw [HXI.out] at hl1
  obtain ⟨si, hsi⟩ := ent_of hM hl1
  have a1 := hsi.upd hU1 (by simp [n3])
  have hM1 := Lib.hid (hM.upd hU1 (by simp [n3]))
  have HMN := Lib.hid hMn
  have HMI := Lib.hid hMi
  have HU1 := Lib.hid hU1
  have HR1 := Lib.hid hR1
  have q2 := fun (W : World) (h : HasEnt W mb xi.2 si) => h.entry underlyingIntMap underlyingInt
  have q4 := fun (W : World) (h : HasEnt W mb xi.2 si) (v : Value) => h.store (P := Tryz.prog) (T := 79) v
  clear hW1 hU1 hR1 hM hMn hMi hl1 hsi c0 c1 x0 x1 f0 f1
  go_region_held3 (fun w' => (∀ (a : Addr), w'.cell? a = W1.cell? a) ∧ HasEnt w' mb xi.2 si)
    (first | exact Ent.init1 a1 | assumption | exact Ent.keep1 (by assumption) _ _) (fail)
  all_goals go_wp2
  go_end0
  exact ⟨rfl, self_done HH.out HN.out HXI.out hi HU1.out HR1.out hM1.out HMN.out HMI.out a1⟩
end Go.Proofs.YtolohheflbmfaaaGreatDoor

/-! HeapC -/
namespace Go.Proofs.YtolohheflbmfaaaGreatDoor
open Go.RowKit

def StepTo (w : World) (hb g cap mb : Nat) (A' : List It) (i' : Nat) (more : Bool) (e : Ending) (w' : World) : Prop :=
  e = .returned (.tuple #[.int .i64 i', .bool more]) ∧ HpAt w' hb (some ⟨g, 0, none⟩) cap mb A' ∧ Upd [g, mb] w w'


set_option maxHeartbeats 4000000 in
theorem up_stay (hb g cap mb : Nat) (A : List It) (i : Nat) (w : World) (h : HpAt w hb (some ⟨g, 0, none⟩) cap mb A) (hi : i < A.length) (hst : i = 0 ∨ ahead (atI A i) (atI A (par i)) = false) :
    Calls Tryz.prog 100 #[.pointer (some ⟨hb, 0, none⟩), .int .i64 i] w (StepTo w hb g cap mb A i false) := by
  have HH := Lib.hid h
  have c0 := h.top.cell (j := 0) rfl
  have lh := h.top.lt
  have lg := Row.lt (g := g) h.row
  have small := h.small
  by_cases h0 : i = 0
  · subst h0
    clear hst h
    go_enter Tryz.func100, Tryz.ntmps100
    go_wp2
    go_quiet (fail)
    go_wp2
    go_ret2
    exact ⟨rfl, HH.out.upd ((Upd.refl [] w).drewN _) (by simp) (by simp) (by simp), (Upd.refl _ w).drewN _⟩
  · have hah := hst.resolve_left h0
    have hp : par i < A.length := by unfold par; omega
    obtain ⟨x0, x1⟩ := item_cells (g := g) h.row hi
    obtain ⟨y0, y1⟩ := item_cells (g := g) h.row hp
    have e0 : ((i : Int) == 0) = false := by simp; omega
    have e1 : ((i : Int) - 1) / 2 = ((par i : Nat) : Int) := by unfold par; omega
    have p0 : (0 : Int) ≤ (i : Int) - 1 := by omega
    obtain ⟨xi, hxi⟩ : ∃ x, atI A i = x := ⟨_, rfl⟩
    obtain ⟨xp, hxp⟩ : ∃ x, atI A (par i) = x := ⟨_, rfl⟩
    rw [hxi] at x0 x1
    rw [hxp] at y0 y1
    rw [hxi, hxp] at hah
    have HA := Lib.hid hah
    obtain ⟨q, hq⟩ : ∃ q, par i = q := ⟨_, rfl⟩
    rw [hq] at y0 y1 hp e1
    obtain ⟨n, hn⟩ : ∃ n, A.length = n := ⟨_, rfl⟩
    rw [hn] at c0 hi small hp
    have b1 : (i : Int) < (n : Int) := by omega
    have b2 : (q : Int) < (n : Int) := by omega
    clear hxi hxp hah h hst hq hn h0
    have E1 := Lib.hid e1
    clear e1
    go_enter Tryz.func100, Tryz.ntmps100
    go_wp2
    rw [E1.out]
    go_region_held3 (fun w' => Upd [] w w' ∧ ∀ (b o : Nat), b < w.heap.size → b ∉ ([] : List Nat) → w'.cell? ⟨b, o, none⟩ = w.cell? ⟨b, o, none⟩)
      (first | exact Held.init _ _ | exact Held.step (by assumption) hB) (first | (go_at_call 72; refine (ahead_any xi xp _).mono ?_; rintro e w' ⟨rfl, hB⟩; rw [HA.out]))
    go_wp2
    go_ret2
    exact ⟨rfl, HH.out.upd ((Upd.refl [] w).drew.trans hB) (by simp) (by simp) (by simp), ((Upd.refl _ w).drew.trans hB.nil)⟩


set_option maxHeartbeats 4000000 in
theorem up_go (hb g cap mb : Nat) (A : List It) (i : Nat) (w : World) (h : HpAt w hb (some ⟨g, 0, none⟩) cap mb A) (hi : i < A.length) (h0 : i ≠ 0) (hah : ahead (atI A i) (atI A (par i)) = true) :
    Calls Tryz.prog 100 #[.pointer (some ⟨hb, 0, none⟩), .int .i64 i] w (StepTo w hb g cap mb (swp A i (par i)) (par i) true) := by
  have HH := Lib.hid h
  have c0 := h.top.cell (j := 0) rfl
  have lh := h.top.lt
  have lg := Row.lt (g := g) h.row
  have small := h.small
  have hp : par i < A.length := by unfold par; omega
  have hne : i ≠ par i := by unfold par; omega
  have hi' := hi
  have hp' := hp
  obtain ⟨x0, x1⟩ := item_cells (g := g) h.row hi
  obtain ⟨y0, y1⟩ := item_cells (g := g) h.row hp
  have e0 : ((i : Int) == 0) = false := by simp; omega
  have e1 : ((i : Int) - 1) / 2 = ((par i : Nat) : Int) := by unfold par; omega
  have p0 : (0 : Int) ≤ (i : Int) - 1 := by omega
  obtain ⟨xi, hxi⟩ : ∃ x, atI A i = x := ⟨_, rfl⟩
  obtain ⟨xp, hxp⟩ : ∃ x, atI A (par i) = x := ⟨_, rfl⟩
  rw [hxi] at x0 x1
  rw [hxp] at y0 y1
  rw [hxi, hxp] at hah
  have HA := Lib.hid hah
  obtain ⟨q, hq⟩ : ∃ q, par i = q := ⟨_, rfl⟩
  rw [hq] at y0 y1 hp e1 hp' hne ⊢
  obtain ⟨n, hn⟩ : ∃ n, A.length = n := ⟨_, rfl⟩
  rw [hn] at c0 hi small hp
  have b1 : (i : Int) < (n : Int) := by omega
  have b2 : (q : Int) < (n : Int) := by omega
  have E1 := Lib.hid e1
  have HI := Lib.hid hi'
  have HP := Lib.hid hp'
  clear hxi hxp hah h hq hn e1 hi' hp'
  go_enter Tryz.func100, Tryz.ntmps100
  go_wp2
  rw [E1.out]
  go_region_held3 (fun w' => Upd [] w w' ∧ ∀ (b o : Nat), b < w.heap.size → b ∉ ([] : List Nat) → w'.cell? ⟨b, o, none⟩ = w.cell? ⟨b, o, none⟩)
    (first | exact Held.init _ _ | exact Held.step (by assumption) hB) (first | (go_at_call 72; refine (ahead_any xi xp _).mono ?_; rintro e w' ⟨rfl, hB⟩; rw [HA.out]))
  have hU := Lib.hid ((Upd.refl [] w).drew.trans hB)
  go_wp2_with (go_at_call 125; refine (swap_ne hb g cap mb A i q _ (HH.out.upd hU.out (by simp) (by simp) (by simp)) HI.out HP.out hne).mono ?_; rintro e w3 ⟨rfl, hH3, hU3⟩)
  go_ret2
  exact ⟨rfl, hH3, hU.out.nil.trans hU3⟩
end Go.Proofs.YtolohheflbmfaaaGreatDoor

/-! HeapD -/
namespace Go.Proofs.YtolohheflbmfaaaGreatDoor
open Go.RowKit

/-- How far the look at the two below i has come. -/
def LookAt (A : List It) (hb g cap mb i : Nat) (w : World) (lv kv : Value) (wr : World) : Prop :=
  ∃ l k : Nat, lv = .int .i64 l ∧ kv = .int .i64 k ∧ Upd [] w wr ∧ ((k = 2 * i + 1 ∧ l = i) ∨ (k = 2 * i + 2 ∧ l = lst1 A i) ∨ (k = 2 * i + 3 ∧ l = lst A i))

theorem look_end {A : List It} {i l k : Nat} (_hi : i < A.length) (h : (k = 2 * i + 1 ∧ l = i) ∨ (k = 2 * i + 2 ∧ l = lst1 A i) ∨ (k = 2 * i + 3 ∧ l = lst A i)) (hk : ¬ (k ≤ 2 * i + 2 ∧ k < A.length)) : l = lst A i := by
  rcases h with ⟨rfl, rfl⟩ | ⟨rfl, rfl⟩ | ⟨rfl, rfl⟩
  · unfold lst lst1
    rw [if_neg (show ¬ (2 * l + 1 < A.length ∧ _) by omega), if_neg (by omega)]
  · unfold lst; rw [if_neg (by omega)]
  · rfl
theorem look_step {A : List It} {i l k : Nat} (h : (k = 2 * i + 1 ∧ l = i) ∨ (k = 2 * i + 2 ∧ l = lst1 A i) ∨ (k = 2 * i + 3 ∧ l = lst A i)) (hk : k ≤ 2 * i + 2 ∧ k < A.length) {b : Bool} (hb : ahead (atI A k) (atI A l) = b) :
    (k + 1 = 2 * i + 1 ∧ (if b = true then k else l) = i) ∨ (k + 1 = 2 * i + 2 ∧ (if b = true then k else l) = lst1 A i) ∨ (k + 1 = 2 * i + 3 ∧ (if b = true then k else l) = lst A i) := by
  rcases h with ⟨rfl, rfl⟩ | ⟨rfl, rfl⟩ | ⟨rfl, rfl⟩
  · right; left
    refine ⟨by omega, ?_⟩
    unfold lst1
    cases b with
    | true => rw [if_pos rfl, if_pos ⟨hk.2, hb⟩]
    | false => rw [if_neg (by simp), if_neg (by rw [hb]; simp)]
  · right; right
    refine ⟨by omega, ?_⟩
    unfold lst
    cases b with
    | true => rw [if_pos rfl, if_pos ⟨hk.2, hb⟩]
    | false => rw [if_neg (by simp), if_neg (by rw [hb]; simp)]
  · omega
theorem look_lt {A : List It} {i l k : Nat} (hi : i < A.length) (h : (k = 2 * i + 1 ∧ l = i) ∨ (k = 2 * i + 2 ∧ l = lst1 A i) ∨ (k = 2 * i + 3 ∧ l = lst A i)) : l < A.length := by
  rcases h with ⟨_, rfl⟩ | ⟨_, rfl⟩ | ⟨_, rfl⟩
  · exact hi
  · exact (lst1_lt A i hi).1
  · exact (lst_lt A i hi).1


/-- What down leaves. -/
def DownTo (w : World) (hb g cap mb : Nat) (A : List It) (i : Nat) (e : Ending) (w' : World) : Prop :=
  (lst A i = i ∧ StepTo w hb g cap mb A i false e w') ∨ (lst A i ≠ i ∧ StepTo w hb g cap mb (swp A i (lst A i)) (lst A i) true e w')


set_option maxHeartbeats 16000000 in
theorem down_any (hb g cap mb : Nat) (A : List It) (i : Nat) (w : World) (h : HpAt w hb (some ⟨g, 0, none⟩) cap mb A) (hi : i < A.length) :
    Calls Tryz.prog 130 #[.pointer (some ⟨hb, 0, none⟩), .int .i64 i] w (DownTo w hb g cap mb A i) := by
  have HH := Lib.hid h
  have c0 := h.top.cell (j := 0) rfl
  have lh := h.top.lt
  have lg := Row.lt (g := g) h.row
  have small := h.small
  have HI := Lib.hid hi
  obtain ⟨n, hn⟩ : ∃ n, A.length = n := ⟨_, rfl⟩
  rw [hn] at c0 hi small
  have HN := Lib.hid hn
  clear h hn
  go_enter Tryz.func130, Tryz.ntmps130
  go_wp2
  go_loopw [6, 7] (fun lv kv wr => LookAt A hb g cap mb i w lv kv wr) (fun _ kv _ => 2 * i + 3 - (intOf kv).toNat)
  case atStart => exact ⟨i, 2 * i + 1, rfl, by congr 1, Upd.refl _ _, .inl ⟨rfl, rfl⟩⟩
  case round =>
    obtain ⟨l, k, rfl, rfl, hU, hc⟩ := hrel
    have HC := Lib.hid hc
    have HU := Lib.hid hU
    have hk3 : k ≤ 2 * i + 3 := by omega
    have d0 : wr.cell? ⟨hb, 0, none⟩ = some (.slice (some ⟨g, 0, none⟩) n cap) := by rw [hU.cell lh (by simp)]; exact c0
    have lhw := Nat.lt_of_lt_of_le lh hU.size
    have lgw := Nat.lt_of_lt_of_le lg hU.size
    have hln : l < n := by rw [← HN.out]; exact look_lt HI.out hc
    clear hc hU
    by_cases hk : k ≤ 2 * i + 2 ∧ k < n
    · have HHw := Lib.hid (HH.out.upd HU.out (by simp) (by simp) (by simp))
      obtain ⟨x0, x1⟩ := item_cells (g := g) HHw.out.row (i := k) (by rw [HN.out]; exact hk.2)
      obtain ⟨y0, y1⟩ := item_cells (g := g) HHw.out.row (i := l) (by rw [HN.out]; exact hln)
      obtain ⟨xk, hxk⟩ : ∃ x, atI A k = x := ⟨_, rfl⟩
      obtain ⟨xl, hxl⟩ : ∃ x, atI A l = x := ⟨_, rfl⟩
      rw [hxk] at x0 x1
      rw [hxl] at y0 y1
      have HXK := Lib.hid hxk
      have HXL := Lib.hid hxl
      have HK := Lib.hid hk
      have g1 : decide ((k : Int) ≤ 2 * (i : Int) + 2) = true := by simp; omega
      have g2 : decide (k < n) = true := by simp; omega
      have b1 : (k : Int) < (n : Int) := by omega
      have b2 : (l : Int) < (n : Int) := by omega
      clear hxk hxl hk
      go_wp2
      go_region_held3 (fun w' => Upd [] wr w' ∧ ∀ (b o : Nat), b < wr.heap.size → b ∉ ([] : List Nat) → w'.cell? ⟨b, o, none⟩ = wr.cell? ⟨b, o, none⟩)
        (first | exact Held.init _ _ | exact Held.step (by assumption) hB) (first | (go_at_call 72; refine (ahead_any xk xl _).mono ?_; rintro e w' ⟨rfl, hB⟩))
      have hst := look_step HC.out (by rw [HN.out]; exact HK.out) (b := ahead xk xl) (by rw [HXK.out, HXL.out])
      have HST := Lib.hid hst
      clear hst
      cases hah : ahead xk xl <;> (have HS2 := HST.out; rw [hah] at HS2; simp at HS2; have HS3 := Lib.hid HS2; clear HS2; go_wp2)
      · exact ⟨⟨l, k + 1, rfl, by congr 1, HU.out.trans ((Upd.refl [] wr).drew.trans hB), by have := HS3.out; omega⟩, by simp [intOf]; have := HK.out; omega⟩
      · exact ⟨⟨k, k + 1, rfl, by congr 1, HU.out.trans ((Upd.refl [] wr).drew.trans hB), by have := HS3.out; omega⟩, by simp [intOf]; have := HK.out; omega⟩
    · have hl := look_end HI.out HC.out (by rw [HN.out]; exact hk)
      have HL := Lib.hid hl
      have gg : Hid (decide ((k : Int) ≤ 2 * (i : Int) + 2) = true ∧ decide (k < n) = false ∨ decide ((k : Int) ≤ 2 * (i : Int) + 2) = false) := by
        unfold Hid
        by_cases hh : k ≤ 2 * i + 2
        · exact .inl ⟨by simp; omega, by simp; omega⟩
        · exact .inr (by simp; omega)
      clear hk hl
      by_cases hli : l = i
      · have t1 : ((l : Int) == (i : Int)) = true := by simp [hli]
        have hfin : Hid (lst A i = i) := HL.out.symm.trans hli
        clear hli
        rcases gg.out with ⟨g1, g2⟩ | g1
        all_goals
          go_wp2
          go_ret2
          exact .inl ⟨hfin.out, rfl, HH.out.upd HU.out (by simp) (by simp) (by simp), HU.out.nil⟩
      · have t1 : ((l : Int) == (i : Int)) = false := by simp; omega
        have hne : i ≠ l := fun e => hli e.symm
        have hll : Hid (l < A.length) := by unfold Hid; rw [HN.out]; exact hln
        clear hli
        rcases gg.out with ⟨g1, g2⟩ | g1
        all_goals
          go_wp2_with (go_at_call 125; refine (swap_ne hb g cap mb A i l _ (HH.out.upd HU.out (by simp) (by simp) (by simp)) HI.out hll.out hne).mono ?_; rintro e w3 ⟨rfl, hH3, hU3⟩)
          go_ret2
          exact .inr ⟨by rw [← HL.out]; exact fun e => hne e.symm, by rw [← HL.out]; exact ⟨rfl, hH3, HU.out.nil.trans hU3⟩⟩
end Go.Proofs.YtolohheflbmfaaaGreatDoor

/-! HeapE -/
namespace Go.Proofs.YtolohheflbmfaaaGreatDoor
open Go.RowKit

theorem sUp_more (f : Nat) : ∀ (A : List It) (i g : Nat), i ≤ f → i ≤ g → sUp f A i = sUp g A i := by
  induction f with
  | zero => intro A i g h _; obtain rfl : i = 0 := by omega
            cases g <;> simp [sUp]
  | succ f ih =>
    intro A i g h hg
    cases g with
    | zero => obtain rfl : i = 0 := by omega
              simp [sUp]
    | succ g =>
      simp only [sUp]
      by_cases hc : i = 0 ∨ ahead (atI A i) (atI A (par i)) = false
      · rw [if_pos hc, if_pos hc]
      · rw [if_neg hc, if_neg hc]
        have h0 : i ≠ 0 := fun e => hc (.inl e)
        exact ih _ _ _ (by unfold par; omega) (by unfold par; omega)
theorem sUp_stay {A : List It} {i : Nat} (h : i = 0 ∨ ahead (atI A i) (atI A (par i)) = false) : sUp i A i = A := by
  cases i with
  | zero => rfl
  | succ i => simp only [sUp]; rw [if_pos h]
theorem sUp_go {A : List It} {i : Nat} (h0 : i ≠ 0) (h : ahead (atI A i) (atI A (par i)) = true) : sUp (par i) (swp A i (par i)) (par i) = sUp i A i := by
  obtain ⟨k, rfl⟩ : ∃ k, i = k + 1 := ⟨i - 1, by omega⟩
  have hc : ¬ (k + 1 = 0 ∨ ahead (atI A (k + 1)) (atI A (par (k + 1))) = false) := by rw [h]; simp
  conv => rhs; simp only [sUp]; rw [if_neg hc]
  exact sUp_more _ _ _ _ (Nat.le_refl _) (by unfold par; omega)
theorem sDn_more (f : Nat) : ∀ (A : List It) (i g : Nat), i < A.length → A.length ≤ i + f → A.length ≤ i + g → sDn f A i = sDn g A i := by
  induction f with
  | zero => intro A i g h h1 _; omega
  | succ f ih =>
    intro A i g h h1 hg
    cases g with
    | zero => omega
    | succ g =>
      simp only [sDn]
      have hl := lst_lt A i h
      by_cases hc : lst A i = i
      · rw [if_pos hc, if_pos hc]
      · rw [if_neg hc, if_neg hc]
        exact ih _ _ _ (by rw [swp_len]; exact hl.1) (by rw [swp_len]; omega) (by rw [swp_len]; omega)
theorem sDn_stay {A : List It} {i n : Nat} (h : lst A i = i) : sDn n A i = A := by
  cases n with
  | zero => rfl
  | succ n => simp only [sDn]; rw [if_pos h]
theorem sDn_go {A : List It} {i n : Nat} (hn : A.length = n) (hi : i < n) (h : lst A i ≠ i) : sDn n (swp A i (lst A i)) (lst A i) = sDn n A i := by
  obtain ⟨k, rfl⟩ : ∃ k, n = k + 1 := ⟨n - 1, by omega⟩
  have hl := lst_lt A i (by omega)
  conv => rhs; simp only [sDn]; rw [if_neg h]
  exact sDn_more _ _ _ _ (by rw [swp_len]; exact hl.1) (by rw [swp_len]; omega) (by rw [swp_len]; omega)


/-- How far a sift has come. -/
def UpAt (w : World) (hb g cap mb : Nat) (A : List It) (i : Nat) (iv mv : Value) (wr : World) : Prop :=
  ∃ (i' : Nat) (A' : List It) (more : Bool), iv = .int .i64 i' ∧ mv = .bool more ∧ HpAt wr hb (some ⟨g, 0, none⟩) cap mb A' ∧ A'.length = A.length ∧ i' < A.length ∧ Upd [g, mb] w wr ∧ (if more = true then sUp i' A' i' else A') = sUp i A i
def DnAt (w : World) (hb g cap mb : Nat) (A : List It) (i : Nat) (iv mv : Value) (wr : World) : Prop :=
  ∃ (i' : Nat) (A' : List It) (more : Bool), iv = .int .i64 i' ∧ mv = .bool more ∧ HpAt wr hb (some ⟨g, 0, none⟩) cap mb A' ∧ A'.length = A.length ∧ i' < A.length ∧ Upd [g, mb] w wr ∧ (if more = true then sDn A.length A' i' else A') = sDn A.length A i
def boolOf : Value → Nat | .bool true => 1 | _ => 0
def SiftTo (w : World) (hb g cap mb : Nat) (A' : List It) (e : Ending) (w' : World) : Prop :=
  e = .returned (.tuple #[]) ∧ HpAt w' hb (some ⟨g, 0, none⟩) cap mb A' ∧ Upd [g, mb] w w'


set_option maxHeartbeats 4000000 in
theorem sift_up (hb g cap mb : Nat) (A : List It) (i : Nat) (w : World) (h : HpAt w hb (some ⟨g, 0, none⟩) cap mb A) (hi : i < A.length) :
    Calls Tryz.prog 99 #[.int .i64 i, .func (.func 100) #[.pointer (some ⟨hb, 0, none⟩)] #[]] w (SiftTo w hb g cap mb (sUp i A i)) := by
  have HH := Lib.hid h
  have HI := Lib.hid hi
  have small := h.small
  clear h hi
  go_enter Tryz.func99, Tryz.ntmps99
  go_wp2
  go_loopw [0, 4] (fun iv mv wr => UpAt w hb g cap mb A i iv mv wr) (fun iv mv _ => 2 * (intOf iv).toNat + boolOf mv)
  case atStart => exact ⟨i, A, true, rfl, rfl, HH.out, rfl, HI.out, Upd.refl _ _, by simp⟩
  case round =>
    obtain ⟨i', A', more, rfl, rfl, hH, hl, hi', hU, he⟩ := hrel
    have HH' := Lib.hid hH
    have HL := Lib.hid hl
    have HU := Lib.hid hU
    have HI' := Lib.hid hi'
    have HE := Lib.hid he
    have hi2 : i' < A'.length := by omega
    clear hH hl hU hi' he
    cases more with
    | false =>
      go_wp2
      go_end0
      refine ⟨rfl, ?_, HU.out⟩
      have := HE.out
      rw [if_neg (by simp)] at this
      rw [← this]; exact HH'.out
    | true =>
      by_cases hs : i' = 0 ∨ ahead (atI A' i') (atI A' (par i')) = false
      · have HS := Lib.hid hs
        have HI2 := Lib.hid hi2
        clear hs hi2
        go_wp2_with (go_at_call 100; refine (up_stay hb g cap mb A' i' wr HH'.out HI2.out HS.out).mono ?_; rintro e w3 ⟨rfl, hH3, hU3⟩)
        refine ⟨⟨i', A', false, rfl, rfl, hH3, HL.out, HI'.out, HU.out.trans hU3, ?_⟩, by simp [intOf, boolOf]⟩
        have := HE.out
        rw [if_pos trivial, sUp_stay HS.out] at this
        rw [if_neg (by simp)]; exact this
      · have h0 : i' ≠ 0 := fun e => hs (.inl e)
        have hah : ahead (atI A' i') (atI A' (par i')) = true := by
          cases hh : ahead (atI A' i') (atI A' (par i')) with
          | true => rfl
          | false => exact absurd (.inr hh) hs
        have HS := Lib.hid hah
        have HI2 := Lib.hid hi2
        have hp : par i' < i' := by unfold par; omega
        have HP := Lib.hid hp
        have HZ := Lib.hid h0
        clear hs hi2 hah hp h0
        go_wp2_with (go_at_call 100; refine (up_go hb g cap mb A' i' wr HH'.out HI2.out HZ.out HS.out).mono ?_; rintro e w3 ⟨rfl, hH3, hU3⟩)
        refine ⟨⟨par i', swp A' i' (par i'), true, rfl, rfl, hH3, by rw [swp_len]; exact HL.out, by have := HP.out; have := HI'.out; omega, HU.out.trans hU3, ?_⟩, by have := HP.out; simp [intOf, boolOf]; omega⟩
        have := HE.out
        rw [if_pos trivial] at this
        rw [if_pos rfl, sUp_go HZ.out HS.out]; exact this


set_option maxHeartbeats 4000000 in
theorem sift_dn (hb g cap mb : Nat) (A : List It) (i : Nat) (w : World) (h : HpAt w hb (some ⟨g, 0, none⟩) cap mb A) (hi : i < A.length) :
    Calls Tryz.prog 99 #[.int .i64 i, .func (.func 130) #[.pointer (some ⟨hb, 0, none⟩)] #[]] w (SiftTo w hb g cap mb (sDn A.length A i)) := by
  have HH := Lib.hid h
  have HI := Lib.hid hi
  have small := h.small
  clear h hi
  go_enter Tryz.func99, Tryz.ntmps99
  go_wp2
  go_loopw [0, 4] (fun iv mv wr => DnAt w hb g cap mb A i iv mv wr) (fun iv mv _ => 2 * (A.length - (intOf iv).toNat) + boolOf mv)
  case atStart => exact ⟨i, A, true, rfl, rfl, HH.out, rfl, HI.out, Upd.refl _ _, by simp⟩
  case round =>
    obtain ⟨i', A', more, rfl, rfl, hH, hl, hi', hU, he⟩ := hrel
    have HH' := Lib.hid hH
    have HL := Lib.hid hl
    have HU := Lib.hid hU
    have HI' := Lib.hid hi'
    have HE := Lib.hid he
    have hi2 : i' < A'.length := by omega
    clear hH hl hU hi' he
    cases more with
    | false =>
      go_wp2
      go_end0
      refine ⟨rfl, ?_, HU.out⟩
      have := HE.out
      rw [if_neg (by simp)] at this
      rw [← this]; exact HH'.out
    | true =>
      have HI2 := Lib.hid hi2
      have HLL := Lib.hid (lst_lt A' i' hi2)
      by_cases hs : lst A' i' = i'
      · have HS := Lib.hid hs
        clear hs hi2
        go_wp2_with (go_at_call 130; refine (down_any hb g cap mb A' i' wr HH'.out HI2.out).mono ?_; rintro e w3 (⟨-, rfl, hH3, hU3⟩ | ⟨hne, -⟩); rotate_left; exact absurd HS.out hne)
        refine ⟨⟨i', A', false, rfl, rfl, hH3, HL.out, HI'.out, HU.out.trans hU3, ?_⟩, by simp [intOf, boolOf]⟩
        have := HE.out
        rw [if_pos trivial, sDn_stay HS.out] at this
        rw [if_neg (by simp)]; exact this
      · have HS := Lib.hid hs
        clear hs hi2
        go_wp2_with (go_at_call 130; refine (down_any hb g cap mb A' i' wr HH'.out HI2.out).mono ?_; rintro e w3 (⟨hne, -⟩ | ⟨-, rfl, hH3, hU3⟩); exact absurd hne HS.out)
        refine ⟨⟨lst A' i', swp A' i' (lst A' i'), true, rfl, rfl, hH3, by rw [swp_len]; exact HL.out, by have := HLL.out.1; rw [HL.out] at this; exact this, HU.out.trans hU3, ?_⟩, ?_⟩
        · have := HE.out
          rw [if_pos trivial] at this
          rw [if_pos rfl, sDn_go HL.out HI'.out HS.out]; exact this
        · have h1 := HLL.out; have h2 := HS.out; have h3 := HI'.out; have h4 := HL.out; simp [intOf, boolOf]; omega
end Go.Proofs.YtolohheflbmfaaaGreatDoor

/-! HeapF -/
namespace Go.Proofs.YtolohheflbmfaaaGreatDoor
open Go.RowKit

theorem look_has {A : List It} {M : AL} (h : IdxOf A M) (id : Int) : (lookM M id).isSome = hasI A id := by
  cases hl : lookM M id with
  | some v =>
    obtain ⟨j, hj, e⟩ := h.2 id v hl
    symm
    rw [Option.isSome_some, hasI_iff]
    exact ⟨atI A j, by rw [atI_get A j hj]; exact List.getElem_mem hj, e⟩
  | none =>
    symm
    rw [Option.isSome_none, hasI_no]
    intro x hx e
    obtain ⟨j, hj, rfl⟩ := List.getElem_of_mem hx
    have := h.1 j hj
    rw [atI_get A j hj, e, hl] at this
    cases this
theorem look_of {A : List It} {M : AL} (h : IdxOf A M) {id : Int} (hh : hasI A id = true) : ∃ j, j < A.length ∧ (atI A j).2 = id ∧ lookM M id = some (.int .i64 j) := by
  obtain ⟨x, hx, e⟩ := (hasI_iff _ _).1 hh
  obtain ⟨j, hj, rfl⟩ := List.getElem_of_mem hx
  refine ⟨j, hj, by rw [atI_get A j hj]; exact e, ?_⟩
  rw [← e, ← atI_get A j hj]
  exact h.1 j hj


/-- A heap of items in order; the blocks that it lies in. -/
def HeapIs (w : World) (hb : Nat) (L : List It) (fp : List Nat) : Prop :=
  ∃ ao cap mb A, HpAt w hb ao cap mb A ∧ HeapOrd A ∧ A.Perm L ∧ Srt L ∧ fp = hb :: mb :: blkO ao
theorem HeapIs.upd {S : List Nat} {w w' : World} {hb : Nat} {L : List It} {fp : List Nat} (h : HeapIs w hb L fp) (hu : Upd S w w') (hn : ∀ b ∈ fp, b ∉ S) : HeapIs w' hb L fp := by
  obtain ⟨ao, cap, mb, A, h1, h2, h3, h4, rfl⟩ := h
  exact ⟨ao, cap, mb, A, h1.upd hu (hn _ (by simp)) (fun b hb => hn _ (by simp [hb])) (hn _ (by simp)), h2, h3, h4, rfl⟩
theorem HeapIs.lt {w : World} {hb : Nat} {L : List It} {fp : List Nat} (h : HeapIs w hb L fp) : ∀ b ∈ fp, b < w.heap.size := by
  obtain ⟨ao, cap, mb, A, h1, h2, h3, h4, rfl⟩ := h
  intro b hb
  simp only [List.mem_cons] at hb
  rcases hb with rfl | rfl | hb
  · exact h1.top.lt
  · obtain ⟨M, hM, _⟩ := h1.map; exact hM.lt
  · exact h1.row.lt b hb
theorem HeapIs.own {w : World} {hb : Nat} {L : List It} {fp : List Nat} (h : HeapIs w hb L fp) : hb ∈ fp := by
  obtain ⟨ao, cap, mb, A, h1, h2, h3, h4, rfl⟩ := h
  simp
theorem HeapIs.srt {w : World} {hb : Nat} {L : List It} {fp : List Nat} (h : HeapIs w hb L fp) : Srt L := by obtain ⟨ao, cap, mb, A, h1, h2, h3, h4, rfl⟩ := h; exact h4
theorem HeapIs.nd {w : World} {hb : Nat} {L : List It} {fp : List Nat} (h : HeapIs w hb L fp) : NdI L := by obtain ⟨ao, cap, mb, A, h1, h2, h3, h4, rfl⟩ := h; exact h1.nd.perm h3


/-- What a deed on a heap leaves. -/
def HeapTo (w : World) (hb : Nat) (fp : List Nat) (v : Value) (L' : List It) (e : Ending) (w' : World) : Prop :=
  e = .returned v ∧ ∃ fp', HeapIs w' hb L' fp' ∧ (∀ b ∈ fp', b ∈ fp ∨ w.heap.size ≤ b) ∧ Upd fp w w'


set_option maxHeartbeats 4000000 in
theorem has_at (hb : Nat) (ao : Option Addr) (cap mb : Nat) (A : List It) (id : Int) (w : World) (h : HpAt w hb ao cap mb A) :
    Calls Tryz.prog 98 #[.pointer (some ⟨hb, 0, none⟩), .int .i64 id] w (RetUpd [] w (.bool (hasI A id))) := by
  have c1 := h.top.cell (j := 1) rfl
  obtain ⟨M, hM, hMn, hMi⟩ := h.map
  have hl := hM.look (P := Tryz.prog) underlyingIntMap underlyingInt zeroInt id true
  rw [look_has hMi] at hl
  simp only [if_true] at hl
  obtain ⟨v, hv⟩ : ∃ v, (lookM M id).getD (.int .i64 0) = v := ⟨_, rfl⟩
  rw [hv] at hl
  obtain ⟨b, hbb⟩ : ∃ b, hasI A id = b := ⟨_, rfl⟩
  rw [hbb] at hl ⊢
  clear h hM hMn hMi hv hbb
  go_enter Tryz.func98, Tryz.ntmps98
  go_wp2
  go_ret
  exact ⟨rfl, Upd.refl _ _⟩


theorem heap_has (hb : Nat) (L : List It) (fp : List Nat) (id : Int) (w : World) (h : HeapIs w hb L fp) :
    Calls Tryz.prog 98 #[.pointer (some ⟨hb, 0, none⟩), .int .i64 id] w (RetUpd [] w (.bool (hasI L id))) := by
  obtain ⟨ao, cap, mb, A, h1, h2, h3, h4, rfl⟩ := h
  rw [← hasI_perm h3]
  exact has_at hb ao cap mb A id w h1
theorem heap_new_is (w : World) : HeapIs ((w.alloc (.map #[] 0)).alloc (.cells #[.slice none 0 0, .map (some w.heap.size)] 160 (0, 0))) (w.heap.size + 1) [] [w.heap.size + 1, w.heap.size] := by
  refine ⟨none, 0, w.heap.size, [], ?_, ord_nil, List.Perm.refl _, List.Pairwise.nil, rfl⟩
  refine { top := ?_, row := RowO.nil _ _ _, map := ⟨[], (IMap.new w).upd ((Upd.refl [] _).alloc _) (by simp), by simp [NdM], fun j hj => by simp at hj, fun id v hl => by cases hl⟩, nd := by simp [NdI], small := by simp, d1 := by simp [blkO], d2 := by omega, d3 := by simp [blkO] }
  exact (heap_two w _ _).2


set_option maxHeartbeats 4000000 in
theorem heap_new (w : World) : Calls Tryz.prog 78 #[] w (fun e w' => e = .returned (.pointer (some ⟨w.heap.size + 1, 0, none⟩)) ∧ HeapIs w' (w.heap.size + 1) [] [w.heap.size + 1, w.heap.size] ∧ Upd [] w w') := by
  go_enter Tryz.func78, Tryz.ntmps78
  have hmk : (Instr.makeMap 79 none).run Tryz.prog w = .ok (.map (some w.heap.size)) (w.alloc (.map #[] 0)) := rfl
  go_wp2
  go_ret
  exact ⟨rfl, heap_new_is w, ((Upd.refl _ w).alloc _).alloc _⟩

theorem push_idx {A : List It} {M : AL} (h : IdxOf A M) (x : It) (hx : hasI A x.2 = false) : IdxOf (A ++ [x]) (putM M x.2 (.int .i64 A.length)) := by
  refine ⟨fun j hj => ?_, fun id v hl => ?_⟩
  · rw [List.length_append] at hj
    rw [lookM_put]
    by_cases hjl : j < A.length
    · rw [atI_append A x j hjl, if_neg, h.1 j hjl]
      intro e
      rw [hasI_no] at hx
      exact hx (atI A j) (by rw [atI_get A j hjl]; exact List.getElem_mem hjl) e
    · obtain rfl : j = A.length := by simp at hj; omega
      have : atI (A ++ [x]) A.length = x := by unfold atI; rw [List.getD_eq_getElem?_getD]; simp
      rw [this, if_pos rfl]
  · rw [lookM_put] at hl
    by_cases e : id = x.2
    · exact ⟨A.length, by simp, by unfold atI; rw [List.getD_eq_getElem?_getD]; simp [e]⟩
    · rw [if_neg e] at hl
      obtain ⟨j, hj, e2⟩ := h.2 id v hl
      exact ⟨j, by simp; omega, by rw [atI_append A x j hj]; exact e2⟩

theorem push_at {w w2 w3 w4 : World} {hb cap cap' mb g n : Nat} {ao : Option Addr} {A : List It} {x : It} {M : AL} (h : HpAt w hb ao cap mb A) (hn : A.length = n) (hsm : n < 1000) (hMn : NdM M) (hMi : IdxOf A M) (hx : hasI A x.2 = false)
    (u2 : Upd [] w w2) (t : MapTo w2 mb (putM M x.2 (.int .i64 n)) w3) (u4 : Upd (blkO ao) w3 w4) (hrow : Row w4 54 2 g (n + 1) cap' (A.flatMap itVs ++ itVs x)) (hg : g ∈ blkO ao ∨ w.heap.size ≤ g) (hgb : hb < w.heap.size) :
    HpAt (w4.setCell ⟨hb, 0, none⟩ (.slice (some ⟨g, 0, none⟩) (n + 1) cap')) hb (some ⟨g, 0, none⟩) cap' mb (A ++ [x]) ∧ Upd (hb :: mb :: blkO ao) w (w4.setCell ⟨hb, 0, none⟩ (.slice (some ⟨g, 0, none⟩) (n + 1) cap')) := by
  subst hn
  have n1 : hb ≠ g := by
    rcases hg with hg | hg
    · exact fun e => h.d1 (e ▸ hg)
    · omega
  have hmlt : mb < w.heap.size := by obtain ⟨M', hM', _⟩ := h.map; exact hM'.lt
  have n3 : mb ≠ g := by
    rcases hg with hg | hg
    · exact fun e => h.d3 (e ▸ hg)
    · omega
  have hup : Upd (mb :: blkO ao) w w4 := (u2.nil.trans (t.upd.mono (fun _ _ hm => by simp at hm; simp [hm]))).trans (u4.mono (fun _ _ hm => by simp [hm]))
  have hm4 : IMap w4 mb (putM M x.2 (.int .i64 A.length)) := t.map.upd u4 h.d3
  refine ⟨{ top := ?_, row := ?_, map := ⟨_, hm4.upd ((Upd.refl [hb] _).setCell (by simp) _) (by simpa using h.d2.symm), hMn.put _ _, push_idx hMi x hx⟩, nd := ?_, small := by simp; omega, d1 := by simpa [blkO] using n1, d2 := h.d2, d3 := by simpa [blkO] using n3 }, ?_⟩
  · have := (h.top.upd hup (by simp; exact ⟨h.d2, h.d1⟩)).set 0 (.slice (some ⟨g, 0, none⟩) (A.length + 1) cap')
    simpa using this
  · have := hrow.setFar (a := ⟨hb, 0, none⟩) n1 (.slice (some ⟨g, 0, none⟩) (A.length + 1) cap')
    rw [List.length_append, List.flatMap_append]
    simpa using this.o
  · have := insI_nd h.nd hx
    exact this.perm ((insI_perm x A).trans (List.perm_append_singleton x A).symm)
  · exact Upd.setCell (hup.mono (fun _ _ hm => List.mem_cons_of_mem _ hm)) (.inl (by simp)) _
end Go.Proofs.YtolohheflbmfaaaGreatDoor

/-! HeapG -/
namespace Go.Proofs.YtolohheflbmfaaaGreatDoor
open Go.RowKit

theorem RowO.newAt {w : World} {e : TypeId} {size g n cap : Nat} {xs : List Value} (h : w.ownsRow 0 e size (.slice (some ⟨g, 0, none⟩) n cap) n xs) : Row w e size g n cap xs := h

theorem ownB (ao : Option Addr) (n cap : Nat) {g : Nat} (h : (Value.slice ao n cap).ownBlock = some g) : g ∈ blkO ao := by
  cases ao with
  | none => simp [Value.ownBlock] at h
  | some ad => simp [Value.ownBlock] at h; simp [blkO, h]
theorem Upd.grownO {S : List Nat} {a w w' : World} {ao : Option Addr} {n cap : Nat} (h : Upd S a w) (hg : w.grownBy w' (Value.slice ao n cap).ownBlock) (hs : ∀ b ∈ blkO ao, b ∈ S) : Upd S a w' :=
  h.grown hg (fun k hk => .inl (hs k (ownB ao n cap hk)))


set_option maxHeartbeats 8000000 in
theorem push_no (hb : Nat) (ao : Option Addr) (cap mb : Nat) (A : List It) (x : It) (w : World) (h : HpAt w hb ao cap mb A) (hx : hasI A x.2 = true) :
    Calls Tryz.prog 82 #[.pointer (some ⟨hb, 0, none⟩), .agg #[.int .u64 x.1, .int .i64 x.2]] w (RetUpd [] w (.bool false)) := by
  have HH := Lib.hid h
  have HX := Lib.hid hx
  clear h hx
  go_enter Tryz.func82, Tryz.ntmps82
  go_wp2_with (go_at_call 98; refine (has_at hb ao cap mb A x.2 _ (HH.out.upd ((Upd.refl [] w).alloc _) (by simp) (by simp) (by simp))).mono ?_; rintro e w2 ⟨rfl, hB⟩; rw [HX.out])
  go_ret
  exact ⟨rfl, ((Upd.refl _ w).alloc _).trans hB⟩


set_option maxHeartbeats 16000000 in
theorem push_yes (hb : Nat) (ao : Option Addr) (cap mb : Nat) (A : List It) (x : It) (w : World) (h : HpAt w hb ao cap mb A) (hx : hasI A x.2 = false) (hsm : A.length < 1000) :
    Calls Tryz.prog 82 #[.pointer (some ⟨hb, 0, none⟩), .agg #[.int .u64 x.1, .int .i64 x.2]] w
      fun e w' => e = .returned (.bool true) ∧ ∃ g cap', HpAt w' hb (some ⟨g, 0, none⟩) cap' mb (sUp A.length (A ++ [x]) A.length) ∧ (g ∈ blkO ao ∨ w.heap.size ≤ g) ∧ Upd (hb :: mb :: blkO ao) w w' := by
  have HH := Lib.hid h
  have HX := Lib.hid hx
  obtain ⟨i0, hi0, hz0, hz1, hz2⟩ := info_parts infoItem
  have lh := h.top.lt
  have c0 := h.top.cell (j := 0) rfl
  have c1 := h.top.cell (j := 1) rfl
  obtain ⟨n, hn⟩ : ∃ n, A.length = n := ⟨_, rfl⟩
  rw [hn] at c0 hsm ⊢
  have HN := Lib.hid hn
  obtain ⟨M, hM, hMn, hMi⟩ := h.map
  have HM := Lib.hid hM
  have HMN := Lib.hid hMn
  have HMI := Lib.hid hMi
  have HC0 := Lib.hid c0
  have HC1 := Lib.hid c1
  obtain ⟨w1, hw1⟩ : ∃ w1, w1 = w.alloc (.cells #[.int .u64 x.1, .int .i64 x.2] 54 (0, 0)) := ⟨_, rfl⟩
  have hU1 : Upd [] w w1 := by rw [hw1]; exact (Upd.refl _ w).alloc _
  have hB1 : Blk w1 w.heap.size 54 [.int .u64 x.1, .int .i64 x.2] := by rw [hw1]; exact heap_one w _
  have hs1 : w1.heap.size = w.heap.size + 1 := by rw [hw1]; simp
  clear h hx hn hM hMn hMi c0 c1
  go_enter Tryz.func82, Tryz.ntmps82
  go_wp2_with (first | (rw [← hw1]; fail) | (go_at_call 98; refine (has_at hb ao cap mb A x.2 _ (HH.out.upd ((Upd.refl [] w).alloc _) (by simp) (by simp) (by simp))).mono ?_; rintro e w2 ⟨rfl, hB⟩; rw [HX.out]; rw [← hw1] at hB))
  have hU2 := hU1.trans hB
  have lh2 := Nat.lt_of_lt_of_le lh hU2.size
  have d0 : w2.cell? ⟨hb, 0, none⟩ = some (.slice ao n cap) := by rw [hU2.cell lh (by simp)]; exact HC0.out
  have d1 : w2.cell? ⟨hb, 1, none⟩ = some (.map (some mb)) := by rw [hU2.cell lh (by simp)]; exact HC1.out
  have hX2 := hB1.upd hB (by simp)
  have x0 := hX2.cell (j := 0) rfl
  have x1 := hX2.cell (j := 1) rfl
  have lx := hX2.lt
  obtain ⟨w3, hput, hto⟩ := (HM.out.upd hU2.drew (by simp)).put (P := Tryz.prog) underlyingIntMap underlyingInt x.2 (.int .i64 n)
  have HTO := Lib.hid hto
  have HU2 := Lib.hid hU2
  have hs2 : w.heap.size + 1 ≤ w2.heap.size := by have := hB.size; omega
  clear hw1 hU1 hB1 hs1 hB hU2 hX2
  go_region
  go_wp2
  have hrow3 : RowO w3 54 2 ao n cap (A.flatMap itVs) := by rw [← HN.out]; exact (HH.out.row.upd HU2.out.drew (by simp)).upd HTO.out.upd (by intro b hb' e; simp at e; subst e; exact HH.out.d3 hb')
  have hs3 : w3.heap.size = w2.heap.size := HTO.out.size
  have lh3 : hb < w3.heap.size := by omega
  have lx3 : w.heap.size < w3.heap.size := by omega
  have e0 : w3.cell? ⟨hb, 0, none⟩ = some (.slice ao n cap) := by rw [HTO.out.cells]; exact d0
  have y0 : w3.cell? ⟨w.heap.size, 0, none⟩ = some (.int .u64 x.1) := by rw [HTO.out.cells]; exact x0
  have y1 : w3.cell? ⟨w.heap.size, 1, none⟩ = some (.int .i64 x.2) := by rw [HTO.out.cells]; exact x1
  have q1 : hb ∉ blkO ao := HH.out.d1
  have q2 : w.heap.size ∉ blkO ao := fun e => by have := HH.out.row.lt _ e; omega
  have hfree : ∀ {S : List Nat} {w' : World}, Upd S w3 w' → hb ∉ S → w'.frozen? ⟨hb, 0, none⟩ = false := fun hu hn => by
    rw [hu.frozen lh3 hn, HTO.out.frozens]; exact Blk.free (HH.out.top.upd HU2.out (by simp)) 0
  have HS3 := Lib.hid hs3
  clear d0 d1 x0 x1 hput hto hs3
  go_region_law
    ((refine step_append_lies _ (by rfl) _ _ _ (by rfl) 0 54 i0 _ 2 16 underlyingItems hi0 hz0 hz1 hz2 rfl (by omega) (.slice ao n cap) n (A.flatMap itVs) (by rfl) (hrow3.upd ((Upd.refl [] w3).alloc _).drew (by simp))
        ⟨w3.heap.size, 0, none⟩ 1 1 (itVs x) (by rfl) (by rfl) (World.news_of_block (cs := #[.int .u64 x.1, .int .i64 x.2]) (t := 54) (fr := (0, 0)) (heap_alloc_new w3 _)) (by simp [itVs, Value.oneCell'])
        (by omega) (by unfold maxLen; omega) (by omega) (by simp) (w3.heap.size + 1) (by simp) ?_; intro g cap1 w4 hrow4 hgrow hat hlt; have hU4 : Upd (blkO ao) w3 w4 := Upd.grownO (((Upd.refl _ w3).alloc _).drew) hgrow (fun _ h => h); have hz4 := hfree hU4 q1; have hc4 := hU4.cell lh3 q1 0; rw [e0] at hc4))
  all_goals
    have hg : g ∈ blkO ao ∨ w.heap.size ≤ g := by
      rcases hat with hat | hat
      · exact .inl (ownB _ _ _ hat)
      · right; omega
    have HW := Lib.hid (push_at HH.out HN.out hsm HMN.out HMI.out HX.out HU2.out.drew HTO.out hU4 hrow4 hg lh)
    have HI : Hid (n < (A ++ [x]).length) := by unfold Hid; rw [List.length_append, HN.out]; simp
    clear hrow3 hrow4 hgrow hat hz4 hc4 e0 y0 y1 hU4
    generalize hw5 : w4.setCell ⟨hb, 0, none⟩ (.slice (some ⟨g, 0, none⟩) (n + 1) cap1) = w5 at HW
    have c5 : w5.cell? ⟨hb, 0, none⟩ = some (.slice (some ⟨g, 0, none⟩) (n + 1) cap1) := by
      have := HW.out.1.top.cell (j := 0) rfl
      rw [List.length_append, HN.out] at this
      exact this
    go_wp2_with (first | rw [hw5] | (go_at_call 99; refine (sift_up hb g cap1 mb (A ++ [x]) n _ HW.out.1 HI.out).mono ?_; rintro e w6 ⟨rfl, hH6, hU6⟩))
    go_ret
    refine ⟨rfl, g, cap1, hH6, hg, HW.out.2.then hU6 (fun _ _ hm => hm) ?_⟩
    intro b hb2 hm
    simp at hm
    rcases hm with rfl | rfl
    · rcases hg with hg | hg
      · simp [hg]
      · omega
    · simp

theorem heap_push (hb : Nat) (L : List It) (fp : List Nat) (x : It) (w : World) (h : HeapIs w hb L fp) (hsm : L.length < 1000) :
    Calls Tryz.prog 82 #[.pointer (some ⟨hb, 0, none⟩), .agg #[.int .u64 x.1, .int .i64 x.2]] w (HeapTo w hb fp (.bool (!hasI L x.2)) (if hasI L x.2 then L else insI x L)) := by
  have hlt := h.lt
  obtain ⟨ao, cap, mb, A, h1, h2, h3, h4, rfl⟩ := h
  cases hx : hasI L x.2 with
  | true =>
    refine (push_no hb ao cap mb A x w h1 (by rw [hasI_perm h3]; exact hx)).mono ?_
    rintro e w' ⟨rfl, hU⟩
    exact ⟨rfl, _, ⟨ao, cap, mb, A, h1.upd hU (by simp) (by simp) (by simp), h2, h3, h4, rfl⟩, fun b hb => .inl hb, hU.nil⟩
  | false =>
    refine (push_yes hb ao cap mb A x w h1 (by rw [hasI_perm h3]; exact hx) (by rw [h3.length_eq]; exact hsm)).mono ?_
    rintro e w' ⟨rfl, g, cap', hH, hg, hU⟩
    refine ⟨rfl, _, ⟨_, cap', mb, _, hH, push_ord h2 x _ (Nat.le_refl _), (sUp_perm _ _ _ (by simp)).trans (push_perm h3 x), insI_srt h4 ((hasI_no _ _).1 hx), rfl⟩, ?_, hU⟩
    intro b hb'
    simp [blkO] at hb'
    rcases hb' with rfl | rfl | rfl
    · simp
    · simp
    · rcases hg with hg | hg
      · simp [hg]
      · exact .inr hg
end Go.Proofs.YtolohheflbmfaaaGreatDoor

/-! HeapH -/
namespace Go.Proofs.YtolohheflbmfaaaGreatDoor
open Go.RowKit

theorem swap_any (hb g cap mb : Nat) (A : List It) (i j : Nat) (w : World) (h : HpAt w hb (some ⟨g, 0, none⟩) cap mb A) (hi : i < A.length) (hj : j < A.length) :
    Calls Tryz.prog 125 #[.pointer (some ⟨hb, 0, none⟩), .int .i64 i, .int .i64 j] w (SiftTo w hb g cap mb (swp A i j)) := by
  by_cases e : i = j
  · subst e
    rw [swp_self A i hi]
    exact swap_eq hb g cap mb A i w h hi
  · exact swap_ne hb g cap mb A i j w h hi hj e

theorem atI_take (A : List It) (n j : Nat) (hj : j < n) : atI (A.take n) j = atI A j := by
  unfold atI
  rw [List.getD_eq_getElem?_getD, List.getD_eq_getElem?_getD, List.getElem?_take, if_pos hj]

theorem swp_take {A : List It} {i last : Nat} (hi : i < last) : (swp A i last).take last = (A.take last).set i (atI A last) := by
  unfold swp
  rw [List.take_set_of_le (Nat.le_refl _), List.take_set]
theorem trunc_idx {B : List It} {M : AL} {last : Nat} (hl : B.length = last + 1) (hB : NdI B) (hM : IdxOf B M) (hMn : NdM M) {id : Int} (hid : (atI B last).2 = id) : IdxOf (B.take last) (delM M id) := by
  have hlen : (B.take last).length = last := by rw [List.length_take]; omega
  refine ⟨fun j hj => ?_, fun k v hk => ?_⟩
  · rw [hlen] at hj
    rw [atI_take B last j hj, lookM_del hMn, if_neg]
    · exact hM.1 j (by omega)
    · intro e
      have := atI_inj hB (i := j) (j := last) (by omega) (by omega) (by rw [hid]; exact e)
      omega
  · rw [lookM_del hMn] at hk
    by_cases e : k = id
    · rw [if_pos e] at hk; cases hk
    · rw [if_neg e] at hk
      obtain ⟨j, hj, e2⟩ := hM.2 k v hk
      have hjl : j ≠ last := by intro h; subst h; exact e (by rw [← e2, hid])
      exact ⟨j, by rw [hlen]; omega, by rw [atI_take B last j (by omega)]; exact e2⟩
theorem take_drop {B : List It} {last : Nat} (hl : B.length = last + 1) (hB : NdI B) {x : It} (hx : atI B last = x) : B.take last = dropI B x.2 := by
  have e : B = B.take last ++ [x] := by
    have h1 : B[last]? = some x := by rw [← hx, atI_get B last (by omega)]; exact List.getElem?_eq_getElem _
    have h2 : B.take (last + 1) = B.take last ++ [x] := by rw [List.take_add_one, h1]; rfl
    rw [← h2, List.take_of_length_le (by omega)]
  have hno : hasI (B.take last) x.2 = false := by
    rw [hasI_no]
    intro y hy ey
    rw [e] at hB
    unfold NdI at hB
    rw [List.map_append, List.nodup_append] at hB
    exact hB.2.2 _ (List.mem_map_of_mem hy) _ (by simp) ey
  conv => rhs; rw [e]
  unfold dropI at *
  rw [List.filter_append]
  have := dropI_none hno
  unfold dropI at this
  rw [this]; simp

theorem drop_trunc {w w2 w3 : World} {hb g cap mb last : Nat} {B : List It} {M : AL} {id : Int} (h : HpAt w hb (some ⟨g, 0, none⟩) cap mb B) (hl : B.length = last + 1) (hid : (atI B last).2 = id) (hM : IMap w mb M) (hMn : NdM M) (hMi : IdxOf B M)
    (hw2 : w2 = w.setCell ⟨hb, 0, none⟩ (.slice (some ⟨g, 0, none⟩) last cap)) (t : MapTo w2 mb (delM M id) w3) :
    HpAt w3 hb (some ⟨g, 0, none⟩) cap mb (B.take last) ∧ Upd [hb, mb] w w3 := by
  have n1 : hb ≠ g := by have := h.d1; simpa [blkO] using this
  have n3 : mb ≠ g := by have := h.d3; simpa [blkO] using this
  have hlen : (B.take last).length = last := by rw [List.length_take]; omega
  have u2 : Upd [hb] w w2 := by rw [hw2]; exact (Upd.refl _ w).setCell (by simp) _
  have hU : Upd [hb, mb] w w3 := (u2.mono (fun _ _ hm => by simp at hm; simp [hm])).trans (t.upd.mono (fun _ _ hm => by simp at hm; simp [hm]))
  refine ⟨{ top := ?_, row := ?_, map := ⟨_, t.map, hMn.del _, trunc_idx hl h.nd hMi hMn hid⟩, nd := ?_, small := by have := h.small; omega, d1 := h.d1, d2 := h.d2, d3 := h.d3 }, hU⟩
  · rw [hlen]
    have h2 : Blk w2 hb 160 [.slice (some ⟨g, 0, none⟩) last cap, .map (some mb)] := by
      rw [hw2]; have := h.top.set 0 (.slice (some ⟨g, 0, none⟩) last cap); simpa using this
    exact h2.upd t.upd (by simpa using h.d2)
  · have hr : Row w 54 2 g B.length cap (B.flatMap itVs) := h.row
    have := (hr.upd hU (by simp; exact ⟨fun e => n1 e.symm, fun e => n3 e.symm⟩)).trunc last (by omega)
    rw [flat_take itVs 2 itVs_len] at this
    rw [hlen]
    exact this.o
  · exact h.nd.sublist ((List.take_sublist _ _).map _)


/-- The end of a Drop: one that stood in the middle, or the last. -/
def fin (A : List It) (i last : Nat) : List It := if i < last then sDn last (sUp i ((swp A i last).take last) i) i else (swp A i last).take last
theorem fin_ord {A : List It} (h : HeapOrd A) {i last : Nat} (hl : A.length = last + 1) (hi : i < A.length) : HeapOrd (fin A i last) := by
  unfold fin
  by_cases h1 : i < last
  · rw [if_pos h1, swp_take h1]
    have hlen : (A.take last).length = last := by rw [List.length_take]; omega
    rw [sUp_more i _ i last (Nat.le_refl _) (by omega)]
    exact put_ord (take_ord h last) (by omega) _ last last (by omega) (by omega)
  · rw [if_neg h1]
    obtain rfl : i = last := by omega
    rw [swp_self A i hi]
    exact take_ord h i
theorem fin_perm {A : List It} (hA : NdI A) {i last : Nat} (hl : A.length = last + 1) (hi : i < A.length) {x : It} (hx : atI A i = x) : (fin A i last).Perm (dropI A x.2) := by
  have hlen : ((swp A i last).take last).length = last := by rw [List.length_take, swp_len]; omega
  have h0 : ((swp A i last).take last).Perm (dropI A x.2) := by
    rw [take_drop (by rw [swp_len]; exact hl) (hA.perm (swp_perm A i last hi (by omega)).symm) (x := x) (by rw [atI_swp A i last last hi (by omega), if_pos rfl, hx])]
    exact dropI_perm (swp_perm A i last hi (by omega)) _
  unfold fin
  by_cases h1 : i < last
  · rw [if_pos h1]
    exact ((sDn_perm _ _ _ (by rw [sUp_len]; omega)).trans (sUp_perm _ _ _ (by omega))).trans h0
  · rw [if_neg h1]; exact h0


set_option maxHeartbeats 4000000 in
theorem min_at (hb : Nat) (ao : Option Addr) (cap mb : Nat) (A : List It) (w : World) (h : HpAt w hb ao cap mb A) :
    Calls Tryz.prog 104 #[.pointer (some ⟨hb, 0, none⟩)] w (fun e w' => Upd [] w w' ∧ ((A.length = 0 ∧ e = .returned (.tuple #[.agg #[.int .u64 0, .int .i64 0], .bool false])) ∨ (A.length ≠ 0 ∧ e = .returned (.tuple #[.agg #[.int .u64 (atI A 0).1, .int .i64 (atI A 0).2], .bool true])))) := by
  have HH := Lib.hid h
  have c0 := h.top.cell (j := 0) rfl
  have lh := h.top.lt
  have small := h.small
  by_cases hn : A.length = 0
  · rw [hn] at c0
    have HN := Lib.hid hn
    clear h hn small
    go_enter Tryz.func104, Tryz.ntmps104
    go_wp2
    exact bodyPost_ret (v := .tuple #[.agg #[.int .u64 0, .int .i64 0], .bool false]) (by simp [results, Tryz.results104, go_sem]) rfl ⟨((Upd.refl [] w).alloc _), .inl ⟨HN.out, rfl⟩⟩
  · obtain ⟨g, hg, hrow⟩ := h.row.row (by omega)
    subst hg
    obtain ⟨x0, x1⟩ := item_cells (g := g) h.row (i := 0) (by omega)
    have lg := hrow.lt
    obtain ⟨x, hx⟩ : ∃ x, atI A 0 = x := ⟨_, rfl⟩
    rw [hx] at x0 x1 ⊢
    obtain ⟨n, hnn⟩ : ∃ n, A.length = n := ⟨_, rfl⟩
    rw [hnn] at c0 hn small ⊢
    have HN := Lib.hid hn
    have b1 : ((n : Int) == 0) = false := by simp; omega
    have b2 : (0 : Int) < (n : Int) := by omega
    clear h hn hrow hnn hx
    go_enter Tryz.func104, Tryz.ntmps104
    go_wp2
    refine bodyPost_ret (v := .tuple #[.agg #[.int .u64 x.1, .int .i64 x.2], .bool true]) (by simp [results, Tryz.results104, go_sem]) rfl ⟨?_, .inr ⟨HN.out, rfl⟩⟩
    exact (Upd.refl [] w).alloc _
end Go.Proofs.YtolohheflbmfaaaGreatDoor

/-! HeapI -/
namespace Go.Proofs.YtolohheflbmfaaaGreatDoor
open Go.RowKit

set_option maxHeartbeats 4000000 in
theorem drop_no (hb : Nat) (ao : Option Addr) (cap mb : Nat) (A : List It) (id : Int) (w : World) (h : HpAt w hb ao cap mb A) (hx : hasI A id = false) :
    Calls Tryz.prog 106 #[.pointer (some ⟨hb, 0, none⟩), .int .i64 id] w (RetUpd [] w (.tuple #[.agg #[.int .u64 0, .int .i64 0], .bool false])) := by
  have c1 := h.top.cell (j := 1) rfl
  have lh := h.top.lt
  obtain ⟨M, hM, hMn, hMi⟩ := h.map
  have hl := fun o => (hM.upd ((Upd.refl [] w).alloc o) (by simp)).look (P := Tryz.prog) underlyingIntMap underlyingInt zeroInt id true
  rw [look_has hMi, hx] at hl
  simp only [if_true] at hl
  clear h hM hMn hMi hx
  go_enter Tryz.func106, Tryz.ntmps106
  go_wp2
  exact bodyPost_ret (v := .tuple #[.agg #[.int .u64 0, .int .i64 0], .bool false]) (by simp [results, Tryz.results106, go_sem]) rfl ⟨rfl, ((Upd.refl [] w).alloc _)⟩


set_option maxHeartbeats 16000000 in
theorem drop_yes (hb : Nat) (ao : Option Addr) (cap mb : Nat) (A : List It) (id : Int) (w : World) (h : HpAt w hb ao cap mb A) (hx : hasI A id = true) :
    Calls Tryz.prog 106 #[.pointer (some ⟨hb, 0, none⟩), .int .i64 id] w
      fun e w' => ∃ i last, i < A.length ∧ A.length = last + 1 ∧ (atI A i).2 = id ∧ e = .returned (.tuple #[.agg #[.int .u64 (atI A i).1, .int .i64 (atI A i).2], .bool true]) ∧
        HpAt w' hb ao cap mb (fin A i last) ∧ Upd (hb :: mb :: blkO ao) w w' := by
  obtain ⟨M, hM, hMn, hMi⟩ := h.map
  have hl := fun o => (hM.upd ((Upd.refl [] w).alloc o) (by simp)).look (P := Tryz.prog) underlyingIntMap underlyingInt zeroInt id true
  obtain ⟨i, hi, hid, hlk⟩ := look_of hMi hx
  rw [look_has hMi, hx, hlk] at hl
  simp only [if_true, Option.getD_some] at hl
  obtain ⟨g, hg, hrow⟩ := h.row.row (by omega)
  subst hg
  obtain ⟨last, hlast⟩ : ∃ last, A.length = last + 1 := ⟨A.length - 1, by omega⟩
  have HH := Lib.hid h
  have c0 := h.top.cell (j := 0) rfl
  have c1 := h.top.cell (j := 1) rfl
  have lh := h.top.lt
  have small := h.small
  obtain ⟨x0, x1⟩ := item_cells (g := g) h.row hi
  have lg := hrow.lt
  have lm := hM.lt
  obtain ⟨x, hx⟩ : ∃ x, atI A i = x := ⟨_, rfl⟩
  rw [hx] at x0 x1 hid
  have HX := Lib.hid hx
  have HID := Lib.hid hid
  rw [hlast] at c0 small hi
  have HL := Lib.hid hlast
  have HI := Lib.hid hi
  have b1 : (i : Int) < ((last + 1 : Nat) : Int) := by omega
  have n1 : hb ≠ g := by have := h.d1; simpa [blkO] using this
  have n2 : hb ≠ mb := h.d2
  obtain ⟨W1, hW1⟩ : ∃ W1 : World, W1 = ((w.alloc (.cells #[.int .u64 0, .int .i64 0] 54)).alloc (.cells #[.int .u64 x.1, .int .i64 x.2] 54)).drew := ⟨_, rfl⟩
  have hU1 : Upd [] w W1 := by rw [hW1]; exact (((Upd.refl _ w).alloc _).alloc _).drew
  have hs1 : W1.heap.size = w.heap.size + 2 := by rw [hW1]; simp
  have hR0 : Blk W1 w.heap.size 54 [.int .u64 0, .int .i64 0] := by rw [hW1]; exact (heap_two w _ _).1
  have hR1 : Blk W1 (w.heap.size + 1) 54 [.int .u64 x.1, .int .i64 x.2] := by rw [hW1]; exact (heap_two w _ _).2
  have HH1 := Lib.hid (HH.out.upd hU1 (by simp) (by simp) (by simp))
  have HC := Lib.hid c0
  have hcap : last ≤ cap := by have := h.row.cap_le; omega
  have HU1 := Lib.hid hU1
  have HR0 := Lib.hid hR0
  have HR1 := Lib.hid hR1
  have HW1 := Lib.hid hW1
  clear h hrow hM hMn hMi hx hid hlast hlk hU1 hR0 hR1 hW1
  go_enter Tryz.func106, Tryz.ntmps106
  go_wp2
  go_region
  go_wp2_with fail
  rw [← HW1.out]
  refine (swap_any hb g cap mb A i last W1 HH1.out (by rw [HL.out]; exact HI.out) (by rw [HL.out]; omega)).mono ?_
  rintro e w2 ⟨rfl, hH2, hU2⟩
  have hlen2 : (swp A i last).length = last + 1 := by rw [swp_len]; exact HL.out
  have d0 := hH2.top.cell (j := 0) rfl
  have d1 := hH2.top.cell (j := 1) rfl
  have df := hH2.top.free 0
  rw [hlen2] at d0
  have lh2 : hb < w2.heap.size := hH2.top.lt
  obtain ⟨M2, hM2, hMn2, hMi2⟩ := hH2.map
  obtain ⟨w3, hW3⟩ : ∃ w3 : World, w3 = w2.setCell ⟨hb, 0, none⟩ (.slice (some ⟨g, 0, none⟩) last cap) := ⟨_, rfl⟩
  have hM3 : IMap (w2.setCell ⟨hb, 0, none⟩ (.slice (some ⟨g, 0, none⟩) last cap)) mb M2 := hM2.upd ((Upd.refl [hb] _).setCell (by simp) _) (by simpa using fun e => n2 e.symm)
  have hid2 : (atI (swp A i last) last).2 = id := by rw [atI_swp A i last last (by rw [HL.out]; exact HI.out) (by rw [HL.out]; omega), if_pos rfl, HX.out]; exact HID.out
  have htr := fun (w4 : World) (t : MapTo w3 mb (delM M2 id) w4) => drop_trunc hH2 hlen2 hid2 hM2 hMn2 hMi2 hW3 t
  obtain ⟨w4, hdel, hto⟩ := hM3.del (P := Tryz.prog) underlyingIntMap underlyingInt id 0
  rw [← hW3] at hto
  obtain ⟨hH4, hU24⟩ := htr w4 hto
  have hU4 : Upd [hb, mb, g] W1 w4 := (hU2.mono (fun _ _ hm => by simp at hm; rcases hm with rfl | rfl <;> simp)).trans (hU24.mono (fun _ _ hm => by simp at hm; rcases hm with rfl | rfl <;> simp))
  have HH4 := Lib.hid hH4
  have HU4 := Lib.hid hU4
  have hlen4 : ((swp A i last).take last).length = last := by rw [List.length_take, hlen2]; omega
  have q0 : w.heap.size ∉ [hb, mb, g] := by simp; omega
  have q1 : w.heap.size + 1 ∉ [hb, mb, g] := by simp; omega
  have HL4 := Lib.hid hlen4
  clear hH2 hU2 hM2 hMn2 hMi2 hM3 htr hlen2 hto hH4 hU24 hU4 hlen4 hid2
  by_cases hil : i < last
  · have t1 : decide (i < last) = true := by simp [hil]
    go_wp2_with fail
    refine (sift_up hb g cap mb ((swp A i last).take last) i w4 HH4.out (by rw [HL4.out]; exact hil)).mono ?_
    rintro e w5 ⟨rfl, hH5, hU5⟩
    have HH5 := Lib.hid hH5
    have HU5 := Lib.hid hU5
    have hl5 : (sUp i ((swp A i last).take last) i).length = last := by rw [sUp_len]; exact HL4.out
    have HL5 := Lib.hid hl5
    clear hH5 hU5 hl5 hdel
    go_wp2_with fail
    refine (sift_dn hb g cap mb (sUp i ((swp A i last).take last) i) i w5 HH5.out (by rw [HL5.out]; exact hil)).mono ?_
    rintro e w6 ⟨rfl, hH6, hU6⟩
    have hU16 : Upd [hb, mb, g] W1 w6 := HU4.out.trans ((HU5.out.mono (fun _ _ hm => by simp at hm; rcases hm with rfl | rfl <;> simp)).trans (hU6.mono (fun _ _ hm => by simp at hm; rcases hm with rfl | rfl <;> simp)))
    have r0 := HR0.out.upd hU16 q0
    have r1 := HR1.out.upd hU16 q1
    have k0 := r0.cell (j := 0) rfl
    have k1 := r0.cell (j := 1) rfl
    have k2 := r1.cell (j := 0) rfl
    have k3 := r1.cell (j := 1) rfl
    have z0 := r0.free 0
    have z1 := r0.free 1
    have HH6 := Lib.hid hH6
    have HU16 := Lib.hid hU16
    clear hH6 hU6 hU16 r0 r1
    go_wp2
    obtain ⟨s0, s1⟩ := two_set (w := w6) rfl rfl k0 k1 (.int .u64 x.1) (.int .i64 x.2)
    refine bodyPost_ret (v := .tuple #[.agg #[.int .u64 x.1, .int .i64 x.2], .bool true]) (by simp [results, Tryz.results106, go_sem, s0, s1]) rfl ⟨i, last, by rw [HL.out]; exact HI.out, HL.out, by rw [HX.out]; exact HID.out, by rw [HX.out], ?_, ?_⟩
    · have h7 := HH6.out
      rw [HL5.out] at h7
      unfold fin
      rw [if_pos hil]
      exact h7.upd (((Upd.refl [w.heap.size] _).setCell (by simp) _).setCell (by simp) _) (by simp; omega) (by simp [blkO]; omega) (by simp; omega)
    · refine ((HU1.out.nil.trans (HU16.out.mono ?_)).setCell (.inr (by simp)) _).setCell (.inr (by simp)) _
      intro b _ hm
      simp at hm
      rcases hm with rfl | rfl | rfl <;> simp [blkO]
  · have t1 : decide (i < last) = false := by simp [hil]
    have r0 := HR0.out.upd HU4.out q0
    have r1 := HR1.out.upd HU4.out q1
    have k0 := r0.cell (j := 0) rfl
    have k1 := r0.cell (j := 1) rfl
    have k2 := r1.cell (j := 0) rfl
    have k3 := r1.cell (j := 1) rfl
    have z0 := r0.free 0
    have z1 := r0.free 1
    have l0 := r0.lt
    clear r0 r1
    go_wp2
    obtain ⟨s0, s1⟩ := two_set (w := w4) rfl rfl k0 k1 (.int .u64 x.1) (.int .i64 x.2)
    refine bodyPost_ret (v := .tuple #[.agg #[.int .u64 x.1, .int .i64 x.2], .bool true]) (by simp [results, Tryz.results106, go_sem, s0, s1]) rfl ⟨i, last, by rw [HL.out]; exact HI.out, HL.out, by rw [HX.out]; exact HID.out, by rw [HX.out], ?_, ?_⟩
    · have h7 := HH4.out
      unfold fin
      rw [if_neg hil]
      exact h7.upd (((Upd.refl [w.heap.size] _).setCell (by simp) _).setCell (by simp) _) (by simp; omega) (by simp [blkO]; omega) (by simp; omega)
    · refine ((HU1.out.nil.trans (HU4.out.mono ?_)).setCell (.inr (by simp)) _).setCell (.inr (by simp)) _
      intro b _ hm
      simp at hm
      rcases hm with rfl | rfl | rfl <;> simp [blkO]
end Go.Proofs.YtolohheflbmfaaaGreatDoor

/-! HeapJ -/
namespace Go.Proofs.YtolohheflbmfaaaGreatDoor
open Go.RowKit

theorem HeapIs.first {w : World} {hb cap mb : Nat} {ao : Option Addr} {A : List It} {x : It} {L : List It} (h : HpAt w hb ao cap mb A) (ho : HeapOrd A) (hp : A.Perm (x :: L)) (hs : Srt (x :: L)) : A.length ≠ 0 ∧ atI A 0 = x := by
  have hl : A.length = L.length + 1 := by rw [hp.length_eq]; rfl
  refine ⟨by omega, ?_⟩
  have hx : x ∈ A := hp.mem_iff.2 (by simp)
  obtain ⟨j, hj, e⟩ := List.getElem_of_mem hx
  have h1 := ord_first ho j hj
  rw [atI_get A j hj, e] at h1
  have h0 : atI A 0 ∈ x :: L := hp.mem_iff.1 (by rw [atI_get A 0 (by omega)]; exact List.getElem_mem _)
  rcases List.mem_cons.1 h0 with h0 | h0
  · exact h0
  · have := (List.pairwise_cons.1 hs).1 _ h0
    rw [this] at h1; cases h1

theorem heap_min (hb : Nat) (L : List It) (fp : List Nat) (w : World) (h : HeapIs w hb L fp) :
    Calls Tryz.prog 104 #[.pointer (some ⟨hb, 0, none⟩)] w (RetUpd [] w (firstV L)) := by
  obtain ⟨ao, cap, mb, A, h1, h2, h3, h4, rfl⟩ := h
  refine (min_at hb ao cap mb A w h1).mono ?_
  rintro e w' ⟨hU, ⟨h0, rfl⟩ | ⟨h0, rfl⟩⟩
  · have : L.length = 0 := by rw [← h3.length_eq]; exact h0
    obtain rfl := List.eq_nil_of_length_eq_zero this
    exact ⟨rfl, hU⟩
  · cases L with
    | nil => have := h3.length_eq; simp at this; rw [this] at h0; exact absurd rfl h0
    | cons x L =>
      rw [(HeapIs.first h1 h2 h3 h4).2]
      exact ⟨rfl, hU⟩

theorem heap_drop (hb : Nat) (L : List It) (fp : List Nat) (id : Int) (w : World) (h : HeapIs w hb L fp) :
    Calls Tryz.prog 106 #[.pointer (some ⟨hb, 0, none⟩), .int .i64 id] w (HeapTo w hb fp (dropV L id) (dropI L id)) := by
  obtain ⟨ao, cap, mb, A, h1, h2, h3, h4, rfl⟩ := h
  cases hx : hasI L id with
  | false =>
    refine (drop_no hb ao cap mb A id w h1 (by rw [hasI_perm h3]; exact hx)).mono ?_
    rintro e w' ⟨rfl, hU⟩
    refine ⟨by unfold dropV; rw [findI_none.2 hx]; rfl, _, ⟨ao, cap, mb, A, h1.upd hU (by simp) (by simp) (by simp), h2, by rw [dropI_none hx]; exact h3, dropI_srt h4 _, rfl⟩, fun b hb => .inl hb, hU.nil⟩
  | true =>
    refine (drop_yes hb ao cap mb A id w h1 (by rw [hasI_perm h3]; exact hx)).mono ?_
    rintro e w' ⟨i, last, hi, hl, hid, rfl, hH, hU⟩
    have hf : findI L id = some (atI A i) := by
      rw [← findI_perm h1.nd h3, ← hid]
      exact findI_of h1.nd (by rw [atI_get A i hi]; exact List.getElem_mem hi)
    refine ⟨by unfold dropV; rw [hf]; rfl, _, ⟨ao, cap, mb, _, hH, fin_ord h2 hl hi, ?_, dropI_srt h4 _, rfl⟩, fun b hb => .inl hb, hU⟩
    have := fin_perm h1.nd hl hi rfl
    rw [hid] at this
    exact this.trans (dropI_perm h3 id)


set_option maxHeartbeats 8000000 in
theorem heap_pop_nil (hb : Nat) (fp : List Nat) (w : World) (h : HeapIs w hb [] fp) :
    Calls Tryz.prog 134 #[.pointer (some ⟨hb, 0, none⟩)] w (HeapTo w hb fp (firstV []) []) := by
  have HH := Lib.hid h
  clear h
  go_enter Tryz.func134, Tryz.ntmps134
  go_wp2_with fail
  refine (heap_min hb [] fp _ (HH.out.upd ((Upd.refl [] w).alloc _) (by simp))).mono ?_
  rintro e w2 ⟨rfl, hU2⟩
  unfold firstV itV
  have hU := ((Upd.refl [] w).alloc (.cells #[.int .u64 0, .int .i64 0] 54)).trans hU2
  have HU := Lib.hid hU
  have hR := (Blk.new w 54 [.int .u64 0, .int .i64 0]).upd hU2 (by simp)
  have k0 := hR.cell (j := 0) rfl
  have k1 := hR.cell (j := 1) rfl
  have z0 := hR.free 0
  have z1 := hR.free 1
  have lr := hR.lt
  clear hU hU2 hR
  go_wp2
  obtain ⟨s0, s1⟩ := two_set (w := w2.alloc (.cells #[.int .u64 zIt.1, .int .i64 zIt.2] 54)) rfl rfl (by rw [World.cell?_alloc_past _ _ _ (by simpa using lr)]; exact k0) (by rw [World.cell?_alloc_past _ _ _ (by simpa using lr)]; exact k1) (.int .u64 0) (.int .i64 0)
  have hUf := ((HU.out.mono (T := [w.heap.size]) (fun _ _ hm => by cases hm)).setCell (p := ⟨w.heap.size, 0, none⟩) (.inl (by simp)) (.int .u64 0)).setCell (p := ⟨w.heap.size, 1, none⟩) (.inl (by simp)) (.int .i64 0) |>.alloc (.cells #[.int .u64 zIt.1, .int .i64 zIt.2] 54)
  refine bodyPost_ret (v := .tuple #[.agg #[.int .u64 0, .int .i64 0], .bool false]) (by simp [results, Tryz.results134, go_sem, lr, k0, k1]) rfl ⟨rfl, fp, HH.out.upd hUf (fun b hb => by have := HH.out.lt b hb; simp; omega), fun b hb => .inl hb, hUf.mono (fun b hb hm => by simp at hm; omega)⟩


set_option maxHeartbeats 8000000 in
theorem heap_pop_cons (hb : Nat) (x : It) (L : List It) (fp : List Nat) (w : World) (h : HeapIs w hb (x :: L) fp) :
    Calls Tryz.prog 134 #[.pointer (some ⟨hb, 0, none⟩)] w (HeapTo w hb fp (firstV (x :: L)) L) := by
  have HH := Lib.hid h
  clear h
  go_enter Tryz.func134, Tryz.ntmps134
  go_wp2_with fail
  refine (heap_min hb (x :: L) fp _ (HH.out.upd ((Upd.refl [] w).alloc _) (by simp))).mono ?_
  rintro e w2 ⟨rfl, hU2⟩
  unfold firstV itV
  have hU := ((Upd.refl [] w).alloc (.cells #[.int .u64 0, .int .i64 0] 54)).trans hU2
  have HU := Lib.hid hU
  have hR := (Blk.new w 54 [.int .u64 0, .int .i64 0]).upd hU2 (by simp)
  have HR := Lib.hid hR
  have lr := hR.lt
  clear hU hU2 hR
  go_wp2_with fail
  refine (heap_drop hb (x :: L) fp x.2 _ ((HH.out.upd HU.out (by simp)).upd ((Upd.refl [] w2).alloc _) (by simp))).mono ?_
  rintro e w4 ⟨rfl, fp', hH4, hfp, hU4⟩
  have hnd := HH.out.nd
  rw [drop_head hnd] at hH4
  have hdv : dropV (x :: L) x.2 = itV x true := by unfold dropV; rw [find_head]
  rw [hdv]
  unfold itV
  have hr4 := (HR.out.alloc (.cells #[.int .u64 x.1, .int .i64 x.2] 54)).upd hU4 (fun e => by have := HH.out.lt _ e; omega)
  have k0 := hr4.cell (j := 0) rfl
  have k1 := hr4.cell (j := 1) rfl
  have z0 := hr4.free 0
  have z1 := hr4.free 1
  have HH4 := Lib.hid hH4
  have HU4 := Lib.hid hU4
  have HFP := Lib.hid hfp
  have hs2 : w.heap.size ≤ w2.heap.size := by omega
  clear hH4 hU4 hfp hr4 hnd hdv
  go_wp2
  obtain ⟨s0, s1⟩ := two_set (w := w4) rfl rfl k0 k1 (.int .u64 x.1) (.int .i64 x.2)
  have hnf : w.heap.size ∉ fp' := fun e => by
    rcases HFP.out _ e with e | e
    · have := HH.out.lt _ e; omega
    · simp at e; omega
  refine bodyPost_ret (v := .tuple #[.agg #[.int .u64 x.1, .int .i64 x.2], .bool true]) (by simp [results, Tryz.results134, go_sem, s0, s1]) rfl ⟨rfl, fp', HH4.out.upd (((Upd.refl [w.heap.size] _).setCell (by simp) _).setCell (by simp) _) (fun b hb => by simp; exact fun e => hnf (e ▸ hb)), fun b hb => ?_, ?_⟩
  · rcases HFP.out b hb with e | e
    · exact .inl e
    · simp at e; right; omega
  · exact (((HU.out.nil.alloc _).trans HU4.out).setCell (.inr (by simp)) _).setCell (.inr (by simp)) _

theorem heap_pop (hb : Nat) (L : List It) (fp : List Nat) (w : World) (h : HeapIs w hb L fp) :
    Calls Tryz.prog 134 #[.pointer (some ⟨hb, 0, none⟩)] w (HeapTo w hb fp (firstV L) L.tail) := by
  cases L with
  | nil => exact heap_pop_nil hb fp w h
  | cons x L => exact heap_pop_cons hb x L fp w h
end Go.Proofs.YtolohheflbmfaaaGreatDoor

/-! HeapK -/
namespace Go.Proofs.YtolohheflbmfaaaGreatDoor
open Go.RowKit

/-- A heap of items in order, in blocks that are new since W; nothing else was changed. -/
def HG (W : World) (hb : Nat) (L : List It) (fp : List Nat) (w : World) : Prop := HeapIs w hb L fp ∧ (∀ b ∈ fp, W.heap.size ≤ b) ∧ Upd [] W w
def HGTo (W : World) (hb : Nat) (L : List It) (fp : List Nat) (w w' : World) : Prop := ∃ fp', HG W hb L fp' w' ∧ (∀ b ∈ fp', b ∈ fp ∨ w.heap.size ≤ b) ∧ Upd fp w w'
theorem HG.upd {W : World} {hb : Nat} {L : List It} {fp : List Nat} {w w' : World} (h : HG W hb L fp w) (hu : Upd [] w w') : HG W hb L fp w' := ⟨h.1.upd hu (by simp), h.2.1, h.2.2.trans hu⟩
theorem HG.updS {W : World} {hb : Nat} {L : List It} {fp S : List Nat} {w w' : World} (h : HG W hb L fp w) (hu : Upd S w w') (hs : ∀ b ∈ fp, b ∉ S) (hw : ∀ b ∈ S, W.heap.size ≤ b) : HG W hb L fp w' :=
  ⟨h.1.upd hu hs, h.2.1, h.2.2.then hu (by simp) (fun i hi hm => by have := hw i hm; omega)⟩
theorem HG.to {W : World} {hb : Nat} {L L' : List It} {fp : List Nat} {v : Value} {e : Ending} {w w' : World} (h : HG W hb L fp w) (k : HeapTo w hb fp v L' e w') : e = .returned v ∧ HGTo W hb L' fp w w' := by
  obtain ⟨he, fp', h1, h2, h3⟩ := k
  refine ⟨he, fp', ⟨h1, fun b hb => ?_, h.2.2.then h3 (by simp) (fun i hi hm => by have := h.2.1 i hm; omega)⟩, h2, h3⟩
  rcases h2 b hb with e | e
  · exact h.2.1 b e
  · exact Nat.le_trans h.2.2.size e
theorem HG.push {W : World} {hb : Nat} {L : List It} {fp : List Nat} {w : World} (h : HG W hb L fp w) (x : It) (hs : L.length < 1000) :
    Calls Tryz.prog 82 #[.pointer (some ⟨hb, 0, none⟩), .agg #[.int .u64 x.1, .int .i64 x.2]] w (fun e w' => e = .returned (.bool (!hasI L x.2)) ∧ HGTo W hb (if hasI L x.2 then L else insI x L) fp w w') :=
  (heap_push hb L fp x w h.1 hs).mono fun _ _ k => h.to k
theorem HG.pop {W : World} {hb : Nat} {L : List It} {fp : List Nat} {w : World} (h : HG W hb L fp w) :
    Calls Tryz.prog 134 #[.pointer (some ⟨hb, 0, none⟩)] w (fun e w' => e = .returned (firstV L) ∧ HGTo W hb L.tail fp w w') :=
  (heap_pop hb L fp w h.1).mono fun _ _ k => h.to k
theorem HG.drop {W : World} {hb : Nat} {L : List It} {fp : List Nat} {w : World} (h : HG W hb L fp w) (id : Int) :
    Calls Tryz.prog 106 #[.pointer (some ⟨hb, 0, none⟩), .int .i64 id] w (fun e w' => e = .returned (dropV L id) ∧ HGTo W hb (dropI L id) fp w w') :=
  (heap_drop hb L fp id w h.1).mono fun _ _ k => h.to k
theorem HG.has {W : World} {hb : Nat} {L : List It} {fp : List Nat} {w : World} (h : HG W hb L fp w) (id : Int) :
    Calls Tryz.prog 98 #[.pointer (some ⟨hb, 0, none⟩), .int .i64 id] w (fun e w' => e = .returned (.bool (hasI L id)) ∧ HG W hb L fp w' ∧ Upd [] w w') :=
  (heap_has hb L fp id w h.1).mono fun _ _ k => ⟨k.1, h.upd k.2, k.2⟩
theorem HG.new (w : World) : Calls Tryz.prog 78 #[] w (fun e w' => ∃ hb fp, e = .returned (.pointer (some ⟨hb, 0, none⟩)) ∧ HG w hb [] fp w' ∧ Upd [] w w') :=
  (heap_new w).mono fun _ _ k => ⟨_, _, k.1, ⟨k.2.1, fun b hb => by simp at hb; omega, k.2.2⟩, k.2.2⟩

end Go.Proofs.YtolohheflbmfaaaGreatDoor
