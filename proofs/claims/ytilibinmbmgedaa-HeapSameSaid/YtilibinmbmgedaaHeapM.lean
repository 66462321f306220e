/-
  The heap as a plain list: sifting up and down, and that it leaves none ahead of the one at half its place. No condition.
-/
import Derived.Test.YtilibinmbmgedaaSpec
namespace Go.Proofs.Ytilibinmbmgedaa

def atI (A : List It) (i : Nat) : It := A.getD i zIt
def swp (A : List It) (i j : Nat) : List It := (A.set i (atI A j)).set j (atI A i)
def par (i : Nat) : Nat := (i - 1) / 2
def sUp : Nat → List It → Nat → List It
  | 0, A, _ => A
  | f + 1, A, i => if i = 0 ∨ ahead (atI A i) (atI A (par i)) = false then A else sUp f (swp A i (par i)) (par i)
def lst1 (A : List It) (i : Nat) : Nat := if 2 * i + 1 < A.length ∧ ahead (atI A (2 * i + 1)) (atI A i) = true then 2 * i + 1 else i
def lst (A : List It) (i : Nat) : Nat := if 2 * i + 2 < A.length ∧ ahead (atI A (2 * i + 2)) (atI A (lst1 A i)) = true then 2 * i + 2 else lst1 A i
def sDn : Nat → List It → Nat → List It
  | 0, A, _ => A
  | f + 1, A, i => if lst A i = i then A else sDn f (swp A i (lst A i)) (lst A i)
def HeapOrd (A : List It) : Prop := ∀ i, 0 < i → i < A.length → ahead (atI A i) (atI A (par i)) = false

theorem swp_len (A : List It) (i j : Nat) : (swp A i j).length = A.length := by simp [swp]
theorem atI_swp (A : List It) (i j k : Nat) (hi : i < A.length) (hj : j < A.length) : atI (swp A i j) k = if k = j then atI A i else if k = i then atI A j else atI A k := by
  unfold swp
  by_cases h1 : k = j
  · subst h1
    rw [if_pos rfl]
    unfold atI
    rw [List.getD_eq_getElem?_getD]; simp [hj]
  · rw [if_neg h1]
    by_cases h2 : k = i
    · subst h2
      rw [if_pos rfl]
      unfold atI
      rw [List.getD_eq_getElem?_getD, List.getElem?_set_ne (fun e => h1 e.symm)]; simp [hi]
    · rw [if_neg h2]
      unfold atI
      rw [List.getD_eq_getElem?_getD, List.getElem?_set_ne (fun e => h1 e.symm), List.getElem?_set_ne (fun e => h2 e.symm), ← List.getD_eq_getElem?_getD]
theorem swp_self (A : List It) (i : Nat) (hi : i < A.length) : swp A i i = A := by
  apply List.ext_getElem?
  intro k
  unfold swp atI
  rw [List.set_set, List.getD_eq_getElem?_getD, List.getElem?_eq_getElem hi]
  simp
theorem atI_get (A : List It) (i : Nat) (hi : i < A.length) : atI A i = A[i] := by unfold atI; rw [List.getD_eq_getElem?_getD, List.getElem?_eq_getElem hi]; rfl
theorem swp_perm (A : List It) (i j : Nat) (hi : i < A.length) (hj : j < A.length) : (swp A i j).Perm A := by
  unfold swp
  rw [atI_get A i hi, atI_get A j hj]
  exact List.set_set_perm hi hj

theorem sUp_len (f : Nat) : ∀ (A : List It) (i : Nat), (sUp f A i).length = A.length := by
  induction f with
  | zero => intro A i; rfl
  | succ f ih => intro A i; simp only [sUp]; split
                 · rfl
                 · rw [ih, swp_len]
theorem sDn_len (f : Nat) : ∀ (A : List It) (i : Nat), (sDn f A i).length = A.length := by
  induction f with
  | zero => intro A i; rfl
  | succ f ih => intro A i; simp only [sDn]; split
                 · rfl
                 · rw [ih, swp_len]
theorem lst1_lt (A : List It) (i : Nat) (hi : i < A.length) : lst1 A i < A.length ∧ i ≤ lst1 A i := by unfold lst1; split <;> omega
theorem lst_lt (A : List It) (i : Nat) (hi : i < A.length) : lst A i < A.length ∧ i ≤ lst A i := by have := lst1_lt A i hi; unfold lst; split <;> omega
theorem sUp_perm (f : Nat) : ∀ (A : List It) (i : Nat), i < A.length → (sUp f A i).Perm A := by
  induction f with
  | zero => intro A i _; exact List.Perm.refl _
  | succ f ih =>
    intro A i hi
    simp only [sUp]
    split
    · exact List.Perm.refl _
    · have hp : par i < A.length := by unfold par; omega
      exact (ih _ _ (by rw [swp_len]; exact hp)).trans (swp_perm A i (par i) hi hp)
theorem sDn_perm (f : Nat) : ∀ (A : List It) (i : Nat), i < A.length → (sDn f A i).Perm A := by
  induction f with
  | zero => intro A i _; exact List.Perm.refl _
  | succ f ih =>
    intro A i hi
    simp only [sDn]
    split
    · exact List.Perm.refl _
    · have hp := (lst_lt A i hi).1
      exact (ih _ _ (by rw [swp_len]; exact hp)).trans (swp_perm A i _ hi hp)

theorem sUp_ord : ∀ (i f : Nat) (A : List It), i < A.length → i ≤ f → (∀ j, 0 < j → j < A.length → j ≠ i → ahead (atI A j) (atI A (par j)) = false) →
    (∀ c, 0 < c → c < A.length → par c = i → 0 < i → ahead (atI A c) (atI A (par i)) = false) → HeapOrd (sUp f A i) := by
  intro i
  induction i using Nat.strongRecOn with
  | ind i ih =>
    intro f A hi hf h1 h2
    by_cases h0 : i = 0 ∨ ahead (atI A i) (atI A (par i)) = false
    · have e : sUp f A i = A := by cases f <;> simp [sUp, h0]
      rw [e]
      intro j hj hjl
      by_cases hji : j = i
      · subst hji
        rcases h0 with h0 | h0
        · omega
        · exact h0
      · exact h1 j hj hjl hji
    · obtain ⟨g, rfl⟩ : ∃ g, f = g + 1 := ⟨f - 1, by omega⟩
      simp only [sUp]
      rw [if_neg h0]
      have hi0 : 0 < i := by omega
      have hah : ahead (atI A i) (atI A (par i)) = true := by
        cases hh : ahead (atI A i) (atI A (par i)) with
        | true => rfl
        | false => exact absurd (.inr hh) h0
      have hpi : par i < i := by unfold par; omega
      have hpl : par i < A.length := by omega
      refine ih (par i) hpi g _ (by rw [swp_len]; exact hpl) (by omega) ?_ ?_
      · intro j hj hjl hjp
        rw [swp_len] at hjl
        rw [atI_swp A i (par i) j hi hpl, atI_swp A i (par i) (par j) hi hpl, if_neg hjp]
        by_cases hji : j = i
        · subst hji
          rw [if_pos rfl, if_pos rfl]
          exact ahead_asymm hah
        · rw [if_neg hji]
          have hjj := h1 j hj hjl hji
          by_cases e1 : par j = par i
          · rw [if_pos e1]
            rw [e1] at hjj
            rw [ahead_no] at hjj ⊢
            rw [ahead_iff] at hah
            omega
          · rw [if_neg e1]
            by_cases e2 : par j = i
            · rw [if_pos e2]; exact h2 j hj hjl e2 hi0
            · rw [if_neg e2]; exact hjj
      · intro c hc hcl hcp hp0
        rw [swp_len] at hcl
        have hpp : par (par i) < par i := by unfold par at *; omega
        rw [atI_swp A i (par i) c hi hpl, atI_swp A i (par i) (par (par i)) hi hpl, if_neg (show ¬ par (par i) = par i by omega), if_neg (show ¬ par (par i) = i by omega), if_neg (show ¬ c = par i by intro e; rw [e] at hcp; omega)]
        have hg := h1 (par i) hp0 hpl (by omega)
        by_cases e : c = i
        · rw [if_pos e]; exact hg
        · rw [if_neg e]
          have hcc := h1 c hc hcl e
          rw [hcp] at hcc
          rw [ahead_no] at hg hcc ⊢
          omega

theorem lst_cases (A : List It) (i : Nat) : lst A i = i ∨ lst A i = 2 * i + 1 ∨ lst A i = 2 * i + 2 := by unfold lst lst1; (repeat' split) <;> simp
/-- The least of a place and its two: none of the three is ahead of it. -/
theorem lst_least (A : List It) (i k : Nat) (hk : k = i ∨ (k = 2 * i + 1 ∧ k < A.length) ∨ (k = 2 * i + 2 ∧ k < A.length)) : ahead (atI A k) (atI A (lst A i)) = false := by
  have h1 : ahead (atI A i) (atI A (lst1 A i)) = false ∧ (2 * i + 1 < A.length → ahead (atI A (2 * i + 1)) (atI A (lst1 A i)) = false) := by
    unfold lst1
    by_cases h : 2 * i + 1 < A.length ∧ ahead (atI A (2 * i + 1)) (atI A i) = true
    · rw [if_pos h]; exact ⟨ahead_asymm h.2, fun _ => ahead_irrefl _⟩
    · rw [if_neg h]
      refine ⟨ahead_irrefl _, fun hl => ?_⟩
      cases hh : ahead (atI A (2 * i + 1)) (atI A i) with
      | false => rfl
      | true => exact absurd ⟨hl, hh⟩ h
  unfold lst
  by_cases h : 2 * i + 2 < A.length ∧ ahead (atI A (2 * i + 2)) (atI A (lst1 A i)) = true
  · rw [if_pos h]
    have hh := h.2
    rw [ahead_iff] at hh
    rcases hk with rfl | ⟨rfl, hl⟩ | ⟨rfl, hl⟩
    · have := h1.1; rw [ahead_no] at this ⊢; omega
    · have := h1.2 hl; rw [ahead_no] at this ⊢; omega
    · exact ahead_irrefl _
  · rw [if_neg h]
    rcases hk with rfl | ⟨rfl, hl⟩ | ⟨rfl, hl⟩
    · exact h1.1
    · exact h1.2 hl
    · cases hh : ahead (atI A (2 * i + 2)) (atI A (lst1 A i)) with
      | false => rfl
      | true => exact absurd ⟨hl, hh⟩ h
theorem par_child (c i : Nat) (hc : 0 < c) : par c = i ↔ c = 2 * i + 1 ∨ c = 2 * i + 2 := by unfold par; omega
theorem lst_eq (A : List It) (i : Nat) (_hi : i < A.length) (h : lst A i ≠ i) : ahead (atI A (lst A i)) (atI A i) = true := by
  unfold lst lst1 at *
  by_cases h1 : 2 * i + 1 < A.length ∧ ahead (atI A (2 * i + 1)) (atI A i) = true
  · rw [if_pos h1] at *
    by_cases h2 : 2 * i + 2 < A.length ∧ ahead (atI A (2 * i + 2)) (atI A (2 * i + 1)) = true
    · rw [if_pos h2]; exact ahead_trans h2.2 h1.2
    · rw [if_neg h2]; exact h1.2
  · rw [if_neg h1] at *
    by_cases h2 : 2 * i + 2 < A.length ∧ ahead (atI A (2 * i + 2)) (atI A i) = true
    · rw [if_pos h2]; exact h2.2
    · rw [if_neg h2] at h; exact absurd rfl h

theorem sDn_ord : ∀ (d i f : Nat) (A : List It), A.length - i = d → i < A.length → d ≤ f → (∀ j, 0 < j → j < A.length → par j ≠ i → ahead (atI A j) (atI A (par j)) = false) →
    (∀ c, 0 < c → c < A.length → par c = i → 0 < i → ahead (atI A c) (atI A (par i)) = false) → HeapOrd (sDn f A i) := by
  intro d
  induction d using Nat.strongRecOn with
  | ind d ih =>
    intro i f A hd hi hf h1 h2
    obtain ⟨g, rfl⟩ : ∃ g, f = g + 1 := ⟨f - 1, by omega⟩
    simp only [sDn]
    by_cases h0 : lst A i = i
    · rw [if_pos h0]
      intro j hj hjl
      by_cases hp : par j = i
      · rw [hp]
        have := lst_least A i j (.inr (by rcases (par_child j i hj).1 hp with e | e; exact .inl ⟨e, hjl⟩; exact .inr ⟨e, hjl⟩))
        rw [h0] at this; exact this
      · exact h1 j hj hjl hp
    · rw [if_neg h0]
      have hl := lst_lt A i hi
      have hah := lst_eq A i hi h0
      have hc := lst_cases A i
      obtain ⟨m, hm⟩ : ∃ m, lst A i = m := ⟨_, rfl⟩
      have hle := fun k hk => lst_least A i k hk
      rw [hm] at h0 hl hah hc hle ⊢
      have hmi : i < m := by omega
      have hpm : par m = i := by rw [par_child m i (by omega)]; omega
      refine ih (A.length - m) (by omega) m g _ (by rw [swp_len]) (by rw [swp_len]; exact hl.1) (by omega) ?_ ?_
      · intro j hj hjl hjp
        rw [swp_len] at hjl
        rw [atI_swp A i m j hi hl.1, atI_swp A i m (par j) hi hl.1, if_neg hjp]
        by_cases e1 : j = m
        · subst e1
          rw [if_pos rfl, if_pos hpm]
          exact ahead_asymm hah
        · rw [if_neg e1]
          by_cases e2 : j = i
          · subst e2
            rw [if_pos rfl]
            have hpj : par j < j := by unfold par; omega
            rw [if_neg (show ¬ par j = j by omega)]
            exact h2 m (by omega) hl.1 hpm hj
          · rw [if_neg e2]
            by_cases e3 : par j = i
            · rw [if_pos e3]
              exact hle j (.inr (by rcases (par_child j i hj).1 e3 with e | e; exact .inl ⟨e, hjl⟩; exact .inr ⟨e, hjl⟩))
            · rw [if_neg e3]; exact h1 j hj hjl e3
      · intro c hcc hcl hcp hm0
        rw [swp_len] at hcl
        have hcm : m < c := by rw [par_child c m hcc] at hcp; omega
        rw [atI_swp A i m c hi hl.1, atI_swp A i m (par m) hi hl.1, hpm, if_neg (show ¬ c = m by omega), if_neg (show ¬ c = i by omega), if_neg (show ¬ i = m by omega), if_pos rfl]
        have := h1 c hcc hcl (by omega)
        rw [hcp] at this
        exact this

/-- What an array that stands as it should has first. -/
theorem ord_first {A : List It} (h : HeapOrd A) : ∀ i, i < A.length → ahead (atI A i) (atI A 0) = false := by
  intro i
  induction i using Nat.strongRecOn with
  | ind i ih =>
    intro hi
    rcases Nat.eq_zero_or_pos i with rfl | h0
    · exact ahead_irrefl _
    · have h1 := h i h0 hi
      have h2 := ih (par i) (by unfold par; omega) (by unfold par; omega)
      rw [ahead_no] at h1 h2 ⊢
      omega
theorem ord_nil : HeapOrd [] := fun _ _ h => by simp at h
theorem atI_append (A : List It) (x : It) (i : Nat) (hi : i < A.length) : atI (A ++ [x]) i = atI A i := by unfold atI; rw [List.getD_eq_getElem?_getD, List.getElem?_append_left hi, ← List.getD_eq_getElem?_getD]
/-- A push. -/
theorem push_ord {A : List It} (h : HeapOrd A) (x : It) (f : Nat) (hf : A.length ≤ f) : HeapOrd (sUp f (A ++ [x]) A.length) := by
  refine sUp_ord A.length f _ (by simp) hf (fun j hj hjl hne => ?_) (fun c hc hcl hcp h0 => ?_)
  · simp at hjl
    have hjA : j < A.length := by omega
    rw [atI_append _ _ _ hjA, atI_append _ _ _ (by unfold par; omega)]
    exact h j hj hjA
  · simp at hcl
    rw [par_child c _ hc] at hcp
    omega
/-- Another item in the place of one in the middle. -/
theorem put_ord {A : List It} (h : HeapOrd A) {i : Nat} (hi : i < A.length) (x : It) (f g : Nat) (hf : A.length ≤ f) (hg : A.length ≤ g) : HeapOrd (sDn g (sUp f (A.set i x) i) i) := by
  have hat : ∀ k, k ≠ i → atI (A.set i x) k = atI A k := fun k hk => by unfold atI; rw [List.getD_eq_getElem?_getD, List.getElem?_set_ne (fun e => hk e.symm), ← List.getD_eq_getElem?_getD]
  have hati : atI (A.set i x) i = x := by unfold atI; rw [List.getD_eq_getElem?_getD]; simp [hi]
  -- what stands below i stands behind what stands above it
  have hgp : ∀ c, 0 < c → c < A.length → par c = i → 0 < i → ahead (atI A c) (atI A (par i)) = false := fun c hc hcl hcp h0 => by
    have h1 := h c hc hcl
    rw [hcp] at h1
    have h2 := h i h0 hi
    rw [ahead_no] at h1 h2 ⊢; omega
  by_cases h0 : i = 0 ∨ ahead x (atI A (par i)) = false
  · have e : sUp f (A.set i x) i = A.set i x := by
      cases f with
      | zero => rfl
      | succ f =>
        simp only [sUp]
        rw [if_pos]
        rcases h0 with h0 | h0
        · exact .inl h0
        · by_cases hi0 : i = 0
          · exact .inl hi0
          · right; rw [hati, hat (par i) (by unfold par; omega)]; exact h0
    rw [e]
    refine sDn_ord _ i g _ rfl (by simpa using hi) (by simp; omega) (fun j hj hjl hjp => ?_) (fun c hc hcl hcp hi0 => ?_)
    · simp at hjl
      by_cases hji : j = i
      · subst hji
        rw [hati, hat (par j) (by unfold par; omega)]
        rcases h0 with h0 | h0
        · omega
        · exact h0
      · rw [hat j hji, hat (par j) hjp]; exact h j hj hjl
    · simp at hcl
      rw [hat c (by rw [par_child c i hc] at hcp; omega), hat (par i) (by unfold par; omega)]
      exact hgp c hc hcl hcp hi0
  · have hah : ahead x (atI A (par i)) = true := by
      cases hh : ahead x (atI A (par i)) with
      | true => rfl
      | false => exact absurd (.inr hh) h0
    have hi0 : 0 < i := by omega
    have hup : HeapOrd (sUp f (A.set i x) i) := by
      refine sUp_ord i f _ (by simpa using hi) (by omega) (fun j hj hjl hji => ?_) (fun c hc hcl hcp _ => ?_)
      · simp at hjl
        rw [hat j hji]
        by_cases hp : par j = i
        · rw [hp, hati]
          have := hgp j hj hjl hp hi0
          rw [ahead_no] at this ⊢
          rw [ahead_iff] at hah
          omega
        · rw [hat (par j) hp]; exact h j hj hjl
      · simp at hcl
        rw [hat c (by rw [par_child c i hc] at hcp; omega), hat (par i) (by unfold par; omega)]
        exact hgp c hc hcl hcp hi0
    have hlen : (sUp f (A.set i x) i).length = A.length := by rw [sUp_len]; simp
    refine sDn_ord _ i g _ rfl (by rw [hlen]; exact hi) (by rw [hlen]; omega) (fun j hj hjl _ => hup j hj hjl) (fun c hc hcl hcp hi0 => ?_)
    have h1 := hup c hc hcl
    rw [hcp] at h1
    have h2 := hup i hi0 (by rw [hlen]; exact hi)
    rw [ahead_no] at h1 h2 ⊢; omega
theorem take_ord {A : List It} (h : HeapOrd A) (n : Nat) : HeapOrd (A.take n) := by
  intro i hi hl
  simp at hl
  have e : ∀ k, k < n → atI (A.take n) k = atI A k := fun k hk => by unfold atI; rw [List.getD_eq_getElem?_getD, List.getElem?_take, if_pos hk, ← List.getD_eq_getElem?_getD]
  rw [e i (by omega), e (par i) (by unfold par; omega)]
  exact h i hi (by omega)
end Go.Proofs.Ytilibinmbmgedaa
