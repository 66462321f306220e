/-
  A wheel's items: which lie where, as plain laws. No condition.
-/
import Derived.Test.YtbnifhdnpeiheaaDoorWf
set_option linter.unusedVariables false
set_option linter.unusedSimpArgs false
namespace Go.Proofs.YtbnifhdnpeiheaaDoor
open Go.RowKit

/-! ### Levels -/
theorem same_iff (W b k l : Nat) : sameB W b k l = true ↔ b / 2 ^ (W + 6 * (l + 1)) = k / 2 ^ (W + 6 * (l + 1)) := by unfold sameB; exact decide_eq_true_iff
theorem div_up (x s : Nat) : x / 2 ^ (s + 6) = x / 2 ^ s / 64 := by rw [Nat.pow_add, Nat.div_div_eq_div_mul]
theorem same_succ {W b k l : Nat} (h : sameB W b k l = true) : sameB W b k (l + 1) = true := by
  rw [same_iff] at *
  have e : W + 6 * (l + 1 + 1) = W + 6 * (l + 1) + 6 := by omega
  rw [e, div_up, div_up, h]
theorem same_mono {W b k l m : Nat} (h : sameB W b k l = true) (hm : l ≤ m) : sameB W b k m = true := by
  induction hm with
  | refl => exact h
  | step _ ih => exact same_succ ih
theorem lev3_spec {W b k l : Nat} (hl : l < 3) (h : lev3 W b k = l) : sameB W b k l = true ∧ ∀ j, j < l → sameB W b k j = false := by
  unfold lev3 at h
  split at h
  · rename_i h0
    subst h
    exact ⟨h0, fun j hj => by omega⟩
  · rename_i h0
    split at h
    · rename_i h1
      subst h
      exact ⟨h1, fun j hj => by obtain rfl : j = 0 := by omega
                                simpa using h0⟩
    · rename_i h1
      split at h
      · rename_i h2
        subst h
        exact ⟨h2, fun j hj => by
          have : j = 0 ∨ j = 1 := by omega
          rcases this with rfl | rfl
          · simpa using h0
          · simpa using h1⟩
      · omega
theorem lev3_lt_iff {W b k l : Nat} (hl : l < 3) : lev3 W b k ≤ l ↔ sameB W b k l = true := by
  constructor
  · intro h
    obtain ⟨m, hm⟩ : ∃ m, lev3 W b k = m := ⟨_, rfl⟩
    exact same_mono (lev3_spec (by omega) hm).1 (by omega)
  · intro h
    rcases Nat.lt_or_ge l (lev3 W b k) with h1 | h1
    · exfalso
      rcases Nat.lt_or_ge (lev3 W b k) 3 with h2 | h2
      · have := (lev3_spec h2 rfl).2 l h1
        rw [h] at this; cases this
      · unfold lev3 at h2
        have h3 : sameB W b k 2 = true := same_mono h (by omega)
        split at h2
        · omega
        · split at h2
          · omega
          · first | omega | (rw [if_pos h3] at h2; omega)
    · exact h1
theorem fits_iff (W b k : Nat) : lev3 W b k < 3 ↔ b / 2 ^ (W + 18) = k / 2 ^ (W + 18) := by
  have : lev3 W b k < 3 ↔ lev3 W b k ≤ 2 := by omega
  rw [this, lev3_lt_iff (by omega), same_iff]
/-- A number and its stretch's. -/
theorem buc_split (W k l : Nat) : k / 2 ^ (W + 6 * l) = 64 * (k / 2 ^ (W + 6 * (l + 1))) + bucN W k l := by
  have e : W + 6 * (l + 1) = W + 6 * l + 6 := by omega
  rw [e, div_up]
  unfold bucN
  omega
theorem lt_of_div {x y s : Nat} (h : x / s < y / s) : x < y := by
  rcases Nat.lt_or_ge x y with h1 | h1
  · exact h1
  · have := Nat.div_le_div_right (c := s) h1
    omega
/-- A higher level's keys are greater. -/
theorem lev_lt {W b x y l m : Nat} (hl : l < 3) (hx : lev3 W b x = l) (hy : lev3 W b y = m) (hby : b ≤ y) (hlm : l < m) : x < y := by
  have h1 := (lev3_spec hl hx).1
  rw [same_iff] at h1
  have h2 : ¬ sameB W b y l = true := by
    intro h
    have := (lev3_lt_iff hl).2 h
    omega
  rw [same_iff] at h2
  have h3 := Nat.div_le_div_right (c := 2 ^ (W + 6 * (l + 1))) hby
  exact lt_of_div (s := 2 ^ (W + 6 * (l + 1))) (by omega)
theorem buc_lt {W b x y l : Nat} (hl : l < 3) (hx : lev3 W b x = l) (hy : lev3 W b y = l) (hlt : bucN W x l < bucN W y l) : x < y := by
  have h1 := (lev3_spec hl hx).1
  have h2 := (lev3_spec hl hy).1
  rw [same_iff] at h1 h2
  have h3 := buc_split W x l
  have h4 := buc_split W y l
  exact lt_of_div (s := 2 ^ (W + 6 * l)) (by omega)

/-! ### What lies in the buckets -/
def kn (x : It) : Nat := x.1.toNat
def KeyOk (x : It) : Prop := 0 ≤ x.1 ∧ x.1 < 18446744073709551616
def allB (s : WS) : List It := (List.range 192).flatMap (fun q => (s.bk q).L)
def okP (W b : Nat) (x : It) (q : Nat) : Prop := lev3 W b (kn x) = q / 64 ∧ bucN W (kn x) (q / 64) = q % 64
theorem mem_allB {s : WS} {x : It} : x ∈ allB s ↔ ∃ q, q < 192 ∧ x ∈ (s.bk q).L := by
  unfold allB; rw [List.mem_flatMap]; simp only [List.mem_range]

theorem flat_congr {α β : Type} {f g : α → List β} {l : List α} (h : ∀ a ∈ l, f a = g a) : l.flatMap f = l.flatMap g := by
  induction l with
  | nil => rfl
  | cons a r ih => rw [List.flatMap_cons, List.flatMap_cons, h a (by simp), ih (fun b hb => h b (by simp [hb]))]
theorem flat_upd {α : Type} (f f' : Nat → List α) {n q0 : Nat} (hq : q0 < n) (h : ∀ q, q ≠ q0 → f' q = f q) {A B : List α} (hp : (f' q0 ++ A).Perm (f q0 ++ B)) : ((List.range n).flatMap f' ++ A).Perm ((List.range n).flatMap f ++ B) := by
  induction n with
  | zero => omega
  | succ n ih =>
    rw [List.range_succ, List.flatMap_append, List.flatMap_append]
    simp only [List.flatMap_cons, List.flatMap_nil, List.append_nil]
    by_cases e : q0 = n
    · subst e
      have e2 : (List.range q0).flatMap f' = (List.range q0).flatMap f := by
        exact flat_congr (fun q hq' => h q (by rw [List.mem_range] at hq'; omega))
      rw [e2, List.append_assoc, List.append_assoc]
      exact hp.append_left _
    · have e2 : f' n = f n := h n (fun e' => e e'.symm)
      rw [e2]
      have := ih (by omega)
      have h1 : (List.flatMap f' (List.range n) ++ f n ++ A).Perm (List.flatMap f' (List.range n) ++ A ++ f n) := by
        rw [List.append_assoc, List.append_assoc]
        exact (List.perm_append_comm).append_left _
      have h2 : (List.flatMap f (List.range n) ++ B ++ f n).Perm (List.flatMap f (List.range n) ++ f n ++ B) := by
        rw [List.append_assoc, List.append_assoc]
        exact (List.perm_append_comm).append_left _
      exact h1.trans ((this.append_right _).trans h2)
theorem len_le_flat {α : Type} (f : Nat → List α) {n q : Nat} (hq : q < n) : (f q).length ≤ ((List.range n).flatMap f).length := by
  induction n with
  | zero => omega
  | succ n ih =>
    rw [List.range_succ, List.flatMap_append, List.length_append]
    simp only [List.flatMap_cons, List.flatMap_nil, List.append_nil]
    by_cases e : q = n
    · subst e; omega
    · have := ih (by omega); omega

/-- A wheel of items in order. -/
structure WOk (s : WS) (L : List It) : Prop where
  srt : Srt L
  nd : NdI L
  len : L.length ≤ 1000
  perm : (allB s).Perm L
  key : ∀ x ∈ L, KeyOk x ∧ s.base ≤ kn x
  pl : ∀ q, q < 192 → ∀ x ∈ (s.bk q).L, okP s.wd s.base x q
  bits : ∀ l, l < 3 → ∀ b, b < 64 → (s.mw l).testBit b = decide (0 < (s.bk (l * 64 + b)).L.length)
  keys : ∀ id, lookM s.M id = (findI L id).map (fun x => .int .u64 x.1)
  mlen : s.M.length = L.length

theorem wok_ne {s : WS} {L : List It} {w : World} {wb : Nat} (h : WOk s L) (hw : WhAt w wb s) : ∀ l b : Nat, l < 3 → nxtB (s.mw l) 0 = b → 0 < (s.bk (l * 64 + b)).L.length := by
  intro l b hl hb
  obtain ⟨h1, _, h3, _⟩ := nxtB_some (hw.mw64 l hl) hb
  rw [h.bits l hl b h3] at h1
  simpa using h1

theorem minI_mem (x : It) (L : List It) : minI x L = x ∨ minI x L ∈ L := by
  unfold minI
  induction L generalizing x with
  | nil => exact .inl rfl
  | cons y r ih =>
    simp only [List.foldl_cons]
    rcases ih (if ahead y x = true then y else x) with h | h
    · rw [h]
      split
      · exact .inr (by simp)
      · exact .inl rfl
    · exact .inr (by simp [h])
theorem minI_least (x : It) (L : List It) : ahead x (minI x L) = false ∧ ∀ y ∈ L, ahead y (minI x L) = false := by
  unfold minI
  induction L generalizing x with
  | nil => exact ⟨ahead_irrefl x, fun y hy => by cases hy⟩
  | cons z r ih =>
    simp only [List.foldl_cons]
    obtain ⟨h1, h2⟩ := ih (if ahead z x = true then z else x)
    have trans : ∀ {a b c : It}, ahead b a = false → ahead b c = true → ahead a c = true := by
      intro a b c hab hbc
      rw [ahead_no] at hab
      rw [ahead_iff] at hbc ⊢
      omega
    have hzx : ahead x (List.foldl (fun m y => if ahead y m = true then y else m) (if ahead z x = true then z else x) r) = false ∧ ahead z (List.foldl (fun m y => if ahead y m = true then y else m) (if ahead z x = true then z else x) r) = false := by
      by_cases hz : ahead z x = true
      · rw [if_pos hz] at h1 ⊢
        refine ⟨?_, h1⟩
        cases ha : ahead x (List.foldl (fun m y => if ahead y m = true then y else m) z r) with
        | false => rfl
        | true => rw [ahead_trans hz ha] at h1; cases h1
      · rw [if_neg hz] at h1 ⊢
        refine ⟨h1, ?_⟩
        cases ha : ahead z (List.foldl (fun m y => if ahead y m = true then y else m) x r) with
        | false => rfl
        | true =>
          have := trans (a := x) (b := z) (by simpa using hz) ha
          rw [this] at h1; cases h1
    refine ⟨hzx.1, fun y hy => ?_⟩
    rcases List.mem_cons.1 hy with rfl | hy
    · exact hzx.2
    · exact h2 y hy

theorem wok_min {s : WS} {L : List It} {w : World} {wb : Nat} {v : Value} (h : WOk s L) (hw : WhAt w wb s) (hv : MinOf s v) : v = firstV L := by
  have hempty : ∀ l, l < 3 → ∀ b, b < 64 → (s.mw l).testBit b = false → (s.bk (l * 64 + b)).L = [] := by
    intro l hl b hb hbit
    rw [h.bits l hl b hb] at hbit
    apply List.eq_nil_of_length_eq_zero
    simpa using hbit
  rcases hv with ⟨hz, rfl⟩ | ⟨l, b, hl, hj, hb, rfl⟩
  · have hall : L = [] := by
      rw [List.eq_nil_iff_forall_not_mem]
      intro x hx
      obtain ⟨q, hq, hxq⟩ := mem_allB.1 (h.perm.mem_iff.2 hx)
      have h1 := (nxtB_none (hw.mw64 (q / 64) (by omega))).1 (hz (q / 64) (by omega)) (q % 64) (by omega)
      have h2 := hempty (q / 64) (by omega) (q % 64) (by omega) h1
      have e : q / 64 * 64 + q % 64 = q := by omega
      rw [e] at h2
      rw [h2] at hxq; cases hxq
    subst hall
    rfl
  · obtain ⟨h1, _, hb64, h4⟩ := nxtB_some (hw.mw64 l hl) hb
    have hpos := wok_ne h hw l b hl hb
    obtain ⟨B, hB⟩ : ∃ B, (s.bk (l * 64 + b)).L = B := ⟨_, rfl⟩
    rw [hB] at hpos ⊢
    obtain ⟨m, hm⟩ : ∃ m, minI (atI B 0) B = m := ⟨_, rfl⟩
    have h0 : atI B 0 ∈ B := by rw [atI_get B 0 hpos]; exact List.getElem_mem _
    have hmB : m ∈ B := by
      rw [← hm]
      rcases minI_mem (atI B 0) B with h | h
      · rw [h]; exact h0
      · exact h
    have hleast := (minI_least (atI B 0) B).2
    rw [hm] at hleast ⊢
    have hq : l * 64 + b < 192 := by omega
    have hmL : m ∈ L := h.perm.mem_iff.1 (mem_allB.2 ⟨l * 64 + b, hq, by rw [hB]; exact hmB⟩)
    have pm := h.pl (l * 64 + b) hq m (by rw [hB]; exact hmB)
    have e1 : (l * 64 + b) / 64 = l := by omega
    have e2 : (l * 64 + b) % 64 = b := by omega
    unfold okP at pm
    rw [e1, e2] at pm
    have hno : ∀ y ∈ L, ahead y m = false := by
      intro y hy
      obtain ⟨q, hq', hyq⟩ := mem_allB.1 (h.perm.mem_iff.2 hy)
      have py := h.pl q hq' y hyq
      unfold okP at py
      have hky := h.key y hy
      have hkm := h.key m hmL
      have lty : kn m < kn y → ahead y m = false := by
        intro hlt
        unfold kn at hlt
        rw [ahead_no]
        have := hky.1.1; have := hkm.1.1
        omega
      by_cases c1 : q / 64 < l
      · exfalso
        have h2 := hempty (q / 64) (by omega) (q % 64) (by omega) ((nxtB_none (hw.mw64 (q / 64) (by omega))).1 (hj (q / 64) c1) (q % 64) (by omega))
        have e : q / 64 * 64 + q % 64 = q := by omega
        rw [e] at h2
        rw [h2] at hyq; cases hyq
      · by_cases c2 : l < q / 64
        · exact lty (lev_lt hl pm.1 py.1 hky.2 c2)
        · have c3 : q / 64 = l := by omega
          rw [c3] at py
          by_cases c4 : q % 64 < b
          · exfalso
            have h2 := hempty l hl (q % 64) (by omega) (h4 (q % 64) (by omega) c4)
            have e : l * 64 + q % 64 = q := by omega
            rw [e] at h2
            rw [h2] at hyq; cases hyq
          · by_cases c5 : b < q % 64
            · exact lty (buc_lt hl pm.1 py.1 (by omega))
            · have e : q = l * 64 + b := by omega
              subst e
              rw [hB] at hyq
              exact hleast y hyq
    cases L with
    | nil => cases hmL
    | cons x r =>
      rcases List.mem_cons.1 hmL with rfl | hmr
      · rfl
      · have := (List.pairwise_cons.1 h.srt).1 m hmr
        rw [hno x (by simp)] at this; cases this
end Go.Proofs.YtbnifhdnpeiheaaDoor
