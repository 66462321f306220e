/-
  Texts of this claim, joined: Wj, Wk, Wl, Wm, Wo, Wp, Wq, Wr. No condition.
-/
import Derived.Test.YtolohheflbmfaaaGreatDoorPW
import Derived.Laws.IdiomCopy
set_option linter.unusedVariables false
set_option linter.unusedSimpArgs false
/-! Wj -/
namespace Go.Proofs.YtolohheflbmfaaaGreatDoor
open Go.RowKit

/-! ### Levels -/
theorem same_iff (W b k l : Nat) : sameB W b k l = true ↔ b / 2 ^ (W + 6 * (l + 1)) = k / 2 ^ (W + 6 * (l + 1)) := by unfold sameB; exact decide_eq_true_iff
theorem div_up (x s : Nat) : x / 2 ^ (s + 6) = x / 2 ^ s / 64 := by rw [Nat.pow_add, Nat.div_div_eq_div_mul]
theorem same_succ {W b k l : Nat} (h : sameB W b k l = true) : sameB W b k (l + 1) = true := by
  rw [same_iff] at *
  have e : W + 6 * (l + 1 + 1) = W + 6 * (l + 1) + 6 := by omega
  rw [e, div_up, div_up, h]
theorem same_mono {W b k l m : Nat} (h : sameB W b k l = true) (hm : l ≤ m) : sameB W b k m = true := by
  induction hm with
  | refl => exact h
  | step _ ih => exact same_succ ih
theorem lev3_spec {W b k l : Nat} (hl : l < 3) (h : lev3 W b k = l) : sameB W b k l = true ∧ ∀ j, j < l → sameB W b k j = false := by
  unfold lev3 at h
  split at h
  · rename_i h0
    subst h
    exact ⟨h0, fun j hj => by omega⟩
  · rename_i h0
    split at h
    · rename_i h1
      subst h
      exact ⟨h1, fun j hj => by obtain rfl : j = 0 := by omega
                                simpa using h0⟩
    · rename_i h1
      split at h
      · rename_i h2
        subst h
        exact ⟨h2, fun j hj => by
          have : j = 0 ∨ j = 1 := by omega
          rcases this with rfl | rfl
          · simpa using h0
          · simpa using h1⟩
      · omega
theorem lev3_lt_iff {W b k l : Nat} (hl : l < 3) : lev3 W b k ≤ l ↔ sameB W b k l = true := by
  constructor
  · intro h
    obtain ⟨m, hm⟩ : ∃ m, lev3 W b k = m := ⟨_, rfl⟩
    exact same_mono (lev3_spec (by omega) hm).1 (by omega)
  · intro h
    rcases Nat.lt_or_ge l (lev3 W b k) with h1 | h1
    · exfalso
      rcases Nat.lt_or_ge (lev3 W b k) 3 with h2 | h2
      · have := (lev3_spec h2 rfl).2 l h1
        rw [h] at this; cases this
      · unfold lev3 at h2
        have h3 : sameB W b k 2 = true := same_mono h (by omega)
        split at h2
        · omega
        · split at h2
          · omega
          · first | omega | (rw [if_pos h3] at h2; omega)
    · exact h1
theorem fits_iff (W b k : Nat) : lev3 W b k < 3 ↔ b / 2 ^ (W + 18) = k / 2 ^ (W + 18) := by
  have : lev3 W b k < 3 ↔ lev3 W b k ≤ 2 := by omega
  rw [this, lev3_lt_iff (by omega), same_iff]

/-- A number and its stretch's. -/
theorem buc_split (W k l : Nat) : k / 2 ^ (W + 6 * l) = 64 * (k / 2 ^ (W + 6 * (l + 1))) + bucN W k l := by
  have e : W + 6 * (l + 1) = W + 6 * l + 6 := by omega
  rw [e, div_up]
  unfold bucN
  omega
theorem lt_of_div {x y s : Nat} (h : x / s < y / s) : x < y := by
  rcases Nat.lt_or_ge x y with h1 | h1
  · exact h1
  · have := Nat.div_le_div_right (c := s) h1
    omega

/-- A higher level's keys are greater. -/
theorem lev_lt {W b x y l m : Nat} (hl : l < 3) (hx : lev3 W b x = l) (hy : lev3 W b y = m) (hby : b ≤ y) (hlm : l < m) : x < y := by
  have h1 := (lev3_spec hl hx).1
  rw [same_iff] at h1
  have h2 : ¬ sameB W b y l = true := by
    intro h
    have := (lev3_lt_iff hl).2 h
    omega
  rw [same_iff] at h2
  have h3 := Nat.div_le_div_right (c := 2 ^ (W + 6 * (l + 1))) hby
  exact lt_of_div (s := 2 ^ (W + 6 * (l + 1))) (by omega)
theorem buc_lt {W b x y l : Nat} (hl : l < 3) (hx : lev3 W b x = l) (hy : lev3 W b y = l) (hlt : bucN W x l < bucN W y l) : x < y := by
  have h1 := (lev3_spec hl hx).1
  have h2 := (lev3_spec hl hy).1
  rw [same_iff] at h1 h2
  have h3 := buc_split W x l
  have h4 := buc_split W y l
  exact lt_of_div (s := 2 ^ (W + 6 * l)) (by omega)

/-! ### What lies in the buckets -/
def kn (x : It) : Nat := x.1.toNat
def KeyOk (x : It) : Prop := 0 ≤ x.1 ∧ x.1 < 18446744073709551616
def allB (s : WS) : List It := (List.range 192).flatMap (fun q => (s.bk q).L)
def okP (W b : Nat) (x : It) (q : Nat) : Prop := lev3 W b (kn x) = q / 64 ∧ bucN W (kn x) (q / 64) = q % 64
theorem mem_allB {s : WS} {x : It} : x ∈ allB s ↔ ∃ q, q < 192 ∧ x ∈ (s.bk q).L := by
  unfold allB; rw [List.mem_flatMap]; simp only [List.mem_range]

theorem flat_congr {α β : Type} {f g : α → List β} {l : List α} (h : ∀ a ∈ l, f a = g a) : l.flatMap f = l.flatMap g := by
  induction l with
  | nil => rfl
  | cons a r ih => rw [List.flatMap_cons, List.flatMap_cons, h a (by simp), ih (fun b hb => h b (by simp [hb]))]
theorem flat_upd {α : Type} (f f' : Nat → List α) {n q0 : Nat} (hq : q0 < n) (h : ∀ q, q ≠ q0 → f' q = f q) {A B : List α} (hp : (f' q0 ++ A).Perm (f q0 ++ B)) : ((List.range n).flatMap f' ++ A).Perm ((List.range n).flatMap f ++ B) := by
  induction n with
  | zero => omega
  | succ n ih =>
    rw [List.range_succ, List.flatMap_append, List.flatMap_append]
    simp only [List.flatMap_cons, List.flatMap_nil, List.append_nil]
    by_cases e : q0 = n
    · subst e
      have e2 : (List.range q0).flatMap f' = (List.range q0).flatMap f := by
        exact flat_congr (fun q hq' => h q (by rw [List.mem_range] at hq'; omega))
      rw [e2, List.append_assoc, List.append_assoc]
      exact hp.append_left _
    · have e2 : f' n = f n := h n (fun e' => e e'.symm)
      rw [e2]
      have := ih (by omega)
      have h1 : (List.flatMap f' (List.range n) ++ f n ++ A).Perm (List.flatMap f' (List.range n) ++ A ++ f n) := by
        rw [List.append_assoc, List.append_assoc]
        exact (List.perm_append_comm).append_left _
      have h2 : (List.flatMap f (List.range n) ++ B ++ f n).Perm (List.flatMap f (List.range n) ++ f n ++ B) := by
        rw [List.append_assoc, List.append_assoc]
        exact (List.perm_append_comm).append_left _
      exact h1.trans ((this.append_right _).trans h2)
theorem len_le_flat {α : Type} (f : Nat → List α) {n q : Nat} (hq : q < n) : (f q).length ≤ ((List.range n).flatMap f).length := by
  induction n with
  | zero => omega
  | succ n ih =>
    rw [List.range_succ, List.flatMap_append, List.length_append]
    simp only [List.flatMap_cons, List.flatMap_nil, List.append_nil]
    by_cases e : q = n
    · subst e; omega
    · have := ih (by omega); omega


/-- A wheel of items in order. -/
structure WOk (s : WS) (L : List It) : Prop where
  srt : Srt L
  nd : NdI L
  len : L.length ≤ 1000
  perm : (allB s).Perm L
  key : ∀ x ∈ L, KeyOk x ∧ s.base ≤ kn x
  pl : ∀ q, q < 192 → ∀ x ∈ (s.bk q).L, okP s.wd s.base x q
  bits : ∀ l, l < 3 → ∀ b, b < 64 → (s.mw l).testBit b = decide (0 < (s.bk (l * 64 + b)).L.length)
  keys : ∀ id, lookM s.M id = (findI L id).map (fun x => .int .u64 x.1)
  mlen : s.M.length = L.length

theorem wok_ne {s : WS} {L : List It} {w : World} {wb : Nat} (h : WOk s L) (hw : WhAt w wb s) : ∀ l b : Nat, l < 3 → nxtB (s.mw l) 0 = b → 0 < (s.bk (l * 64 + b)).L.length := by
  intro l b hl hb
  obtain ⟨h1, _, h3, _⟩ := nxtB_some (hw.mw64 l hl) hb
  rw [h.bits l hl b h3] at h1
  simpa using h1

theorem minI_mem (x : It) (L : List It) : minI x L = x ∨ minI x L ∈ L := by
  unfold minI
  induction L generalizing x with
  | nil => exact .inl rfl
  | cons y r ih =>
    simp only [List.foldl_cons]
    rcases ih (if ahead y x = true then y else x) with h | h
    · rw [h]
      split
      · exact .inr (by simp)
      · exact .inl rfl
    · exact .inr (by simp [h])
theorem minI_least (x : It) (L : List It) : ahead x (minI x L) = false ∧ ∀ y ∈ L, ahead y (minI x L) = false := by
  unfold minI
  induction L generalizing x with
  | nil => exact ⟨ahead_irrefl x, fun y hy => by cases hy⟩
  | cons z r ih =>
    simp only [List.foldl_cons]
    obtain ⟨h1, h2⟩ := ih (if ahead z x = true then z else x)
    have trans : ∀ {a b c : It}, ahead b a = false → ahead b c = true → ahead a c = true := by
      intro a b c hab hbc
      rw [ahead_no] at hab
      rw [ahead_iff] at hbc ⊢
      omega
    have hzx : ahead x (List.foldl (fun m y => if ahead y m = true then y else m) (if ahead z x = true then z else x) r) = false ∧ ahead z (List.foldl (fun m y => if ahead y m = true then y else m) (if ahead z x = true then z else x) r) = false := by
      by_cases hz : ahead z x = true
      · rw [if_pos hz] at h1 ⊢
        refine ⟨?_, h1⟩
        cases ha : ahead x (List.foldl (fun m y => if ahead y m = true then y else m) z r) with
        | false => rfl
        | true => rw [ahead_trans hz ha] at h1; cases h1
      · rw [if_neg hz] at h1 ⊢
        refine ⟨h1, ?_⟩
        cases ha : ahead z (List.foldl (fun m y => if ahead y m = true then y else m) x r) with
        | false => rfl
        | true =>
          have := trans (a := x) (b := z) (by simpa using hz) ha
          rw [this] at h1; cases h1
    refine ⟨hzx.1, fun y hy => ?_⟩
    rcases List.mem_cons.1 hy with rfl | hy
    · exact hzx.2
    · exact h2 y hy

theorem wok_min {s : WS} {L : List It} {w : World} {wb : Nat} {v : Value} (h : WOk s L) (hw : WhAt w wb s) (hv : MinOf s v) : v = firstV L := by
  have hempty : ∀ l, l < 3 → ∀ b, b < 64 → (s.mw l).testBit b = false → (s.bk (l * 64 + b)).L = [] := by
    intro l hl b hb hbit
    rw [h.bits l hl b hb] at hbit
    apply List.eq_nil_of_length_eq_zero
    simpa using hbit
  rcases hv with ⟨hz, rfl⟩ | ⟨l, b, hl, hj, hb, rfl⟩
  · have hall : L = [] := by
      rw [List.eq_nil_iff_forall_not_mem]
      intro x hx
      obtain ⟨q, hq, hxq⟩ := mem_allB.1 (h.perm.mem_iff.2 hx)
      have h1 := (nxtB_none (hw.mw64 (q / 64) (by omega))).1 (hz (q / 64) (by omega)) (q % 64) (by omega)
      have h2 := hempty (q / 64) (by omega) (q % 64) (by omega) h1
      have e : q / 64 * 64 + q % 64 = q := by omega
      rw [e] at h2
      rw [h2] at hxq; cases hxq
    subst hall
    rfl
  · obtain ⟨h1, _, hb64, h4⟩ := nxtB_some (hw.mw64 l hl) hb
    have hpos := wok_ne h hw l b hl hb
    obtain ⟨B, hB⟩ : ∃ B, (s.bk (l * 64 + b)).L = B := ⟨_, rfl⟩
    rw [hB] at hpos ⊢
    obtain ⟨m, hm⟩ : ∃ m, minI (atI B 0) B = m := ⟨_, rfl⟩
    have h0 : atI B 0 ∈ B := by rw [atI_get B 0 hpos]; exact List.getElem_mem _
    have hmB : m ∈ B := by
      rw [← hm]
      rcases minI_mem (atI B 0) B with h | h
      · rw [h]; exact h0
      · exact h
    have hleast := (minI_least (atI B 0) B).2
    rw [hm] at hleast ⊢
    have hq : l * 64 + b < 192 := by omega
    have hmL : m ∈ L := h.perm.mem_iff.1 (mem_allB.2 ⟨l * 64 + b, hq, by rw [hB]; exact hmB⟩)
    have pm := h.pl (l * 64 + b) hq m (by rw [hB]; exact hmB)
    have e1 : (l * 64 + b) / 64 = l := by omega
    have e2 : (l * 64 + b) % 64 = b := by omega
    unfold okP at pm
    rw [e1, e2] at pm
    have hno : ∀ y ∈ L, ahead y m = false := by
      intro y hy
      obtain ⟨q, hq', hyq⟩ := mem_allB.1 (h.perm.mem_iff.2 hy)
      have py := h.pl q hq' y hyq
      unfold okP at py
      have hky := h.key y hy
      have hkm := h.key m hmL
      have lty : kn m < kn y → ahead y m = false := by
        intro hlt
        unfold kn at hlt
        rw [ahead_no]
        have := hky.1.1; have := hkm.1.1
        omega
      by_cases c1 : q / 64 < l
      · exfalso
        have h2 := hempty (q / 64) (by omega) (q % 64) (by omega) ((nxtB_none (hw.mw64 (q / 64) (by omega))).1 (hj (q / 64) c1) (q % 64) (by omega))
        have e : q / 64 * 64 + q % 64 = q := by omega
        rw [e] at h2
        rw [h2] at hyq; cases hyq
      · by_cases c2 : l < q / 64
        · exact lty (lev_lt hl pm.1 py.1 hky.2 c2)
        · have c3 : q / 64 = l := by omega
          rw [c3] at py
          by_cases c4 : q % 64 < b
          · exfalso
            have h2 := hempty l hl (q % 64) (by omega) (h4 (q % 64) (by omega) c4)
            have e : l * 64 + q % 64 = q := by omega
            rw [e] at h2
            rw [h2] at hyq; cases hyq
          · by_cases c5 : b < q % 64
            · exact lty (buc_lt hl pm.1 py.1 (by omega))
            · have e : q = l * 64 + b := by omega
              subst e
              rw [hB] at hyq
              exact hleast y hyq
    cases L with
    | nil => cases hmL
    | cons x r =>
      rcases List.mem_cons.1 hmL with rfl | hmr
      · rfl
      · have := (List.pairwise_cons.1 h.srt).1 m hmr
        rw [hno x (by simp)] at this; cases this
end Go.Proofs.YtolohheflbmfaaaGreatDoor

/-! Wk -/
namespace Go.Proofs.YtolohheflbmfaaaGreatDoor
open Go.RowKit

def badP (W b : Nat) (x : It) (q : Nat) : Prop := q % 64 = bucN W b (q / 64) ∧ lev3 W b (kn x) < q / 64

/-- A wheel on the way: up t0 a level what lies at the base's own place may lie too high; some items are in hand. -/
structure PO (s : WS) (lv : Nat) (rest L : List It) : Prop where
  perm : (allB s ++ rest).Perm L
  pl : ∀ q, q < 192 → ∀ x ∈ (s.bk q).L, okP s.wd s.base x q ∨ (1 ≤ q / 64 ∧ q / 64 ≤ lv ∧ badP s.wd s.base x q)
  bits : ∀ l, l < 3 → ∀ b, b < 64 → (s.mw l).testBit b = decide (0 < (s.bk (l * 64 + b)).L.length)

theorem move_base {W B t0 q : Nat} {x : It} (hq : q < 192) (h : okP W B x q) (h1 : B ≤ t0) (h2 : t0 ≤ kn x) : okP W t0 x q ∨ (1 ≤ q / 64 ∧ q / 64 ≤ 2 ∧ badP W t0 x q) := by
  obtain ⟨ha, hb⟩ := h
  obtain ⟨j, hj⟩ : ∃ j, q / 64 = j := ⟨_, rfl⟩
  have hj3 : j < 3 := by omega
  unfold okP badP
  rw [hj] at ha hb ⊢
  have hs := (lev3_spec hj3 ha).1
  rw [same_iff] at hs
  have m1 := Nat.div_le_div_right (c := 2 ^ (W + 6 * (j + 1))) h1
  have m2 := Nat.div_le_div_right (c := 2 ^ (W + 6 * (j + 1))) h2
  have hst : sameB W t0 (kn x) j = true := by rw [same_iff]; omega
  have hle := (lev3_lt_iff hj3).2 hst
  by_cases e : lev3 W t0 (kn x) = j
  · exact .inl ⟨e, hb⟩
  · have hlt : lev3 W t0 (kn x) < j := by omega
    obtain ⟨i, rfl⟩ : ∃ i, j = i + 1 := ⟨j - 1, by omega⟩
    have hs2 := (lev3_lt_iff (W := W) (b := t0) (k := kn x) (l := i) (by omega)).1 (by omega)
    rw [same_iff] at hs2
    refine .inr ⟨by omega, by omega, ?_, hlt⟩
    rw [← hb]
    unfold bucN
    rw [hs2]
theorem okP_not {W b q l : Nat} {x : It} (hl1 : 1 ≤ l) (hl : l < 3) (hq : q / 64 = l) (h : okP W b x q) (hb : q % 64 = bucN W b l) : False := by
  obtain ⟨ha, hc⟩ := h
  rw [hq] at ha hc
  obtain ⟨i, rfl⟩ : ∃ i, l = i + 1 := ⟨l - 1, by omega⟩
  obtain ⟨h1, h2⟩ := lev3_spec hl ha
  have h3 := h2 i (by omega)
  rw [same_iff] at h1
  have h4 : ¬ sameB W b (kn x) i = true := by rw [h3]; simp
  rw [same_iff] at h4
  have s1 := buc_split W b (i + 1)
  have s2 := buc_split W (kn x) (i + 1)
  apply h4
  omega

def emptyS (s : WS) (l b : Nat) : WS :=
  { s with bk := fun q => if q = l * 64 + b then Buc.z else s.bk q, mw := fun j => if j = l then andNB (s.mw l) b else s.mw j }

theorem bits_empty {s : WS} {l b : Nat} (hl : l < 3) (hb : b < 64) (h64 : s.mw l < 18446744073709551616) (h : ∀ l, l < 3 → ∀ b, b < 64 → (s.mw l).testBit b = decide (0 < (s.bk (l * 64 + b)).L.length)) :
    ∀ j, j < 3 → ∀ c, c < 64 → ((emptyS s l b).mw j).testBit c = decide (0 < ((emptyS s l b).bk (j * 64 + c)).L.length) := by
  intro j hj c hc
  have e0 : (emptyS s l b).mw j = if j = l then andNB (s.mw l) b else s.mw j := rfl
  have e1 : ((emptyS s l b).bk (j * 64 + c)).L.length = if j * 64 + c = l * 64 + b then 0 else (s.bk (j * 64 + c)).L.length := by simp only [emptyS]; split <;> rfl
  rw [e0, e1]
  by_cases e : j = l
  · subst e
    rw [if_pos rfl, andNB_bit _ _ _ hb h64, h j hj c hc]
    by_cases e2 : c = b
    · subst e2; simp
    · have h3 : ¬ (j * 64 + c = j * 64 + b) := by omega
      rw [if_neg h3]
      simp [Ne.symm e2]
  · have h3 : ¬ (j * 64 + c = l * 64 + b) := by omega
    rw [if_neg e, if_neg h3, h j hj c hc]
theorem bits_put {s : WS} {l b : Nat} {x : It} {ao : Option Addr} {cap : Nat} (hl : l < 3) (hb : b < 64) (h : ∀ l, l < 3 → ∀ b, b < 64 → (s.mw l).testBit b = decide (0 < (s.bk (l * 64 + b)).L.length)) :
    ∀ j, j < 3 → ∀ c, c < 64 → ((putS s l b x ao cap).mw j).testBit c = decide (0 < ((putS s l b x ao cap).bk (j * 64 + c)).L.length) := by
  intro j hj c hc
  have e0 : (putS s l b x ao cap).mw j = if j = l then orB (s.mw l) b else s.mw j := rfl
  have e1 : ((putS s l b x ao cap).bk (j * 64 + c)).L.length = if j * 64 + c = l * 64 + b then (s.bk (l * 64 + b)).L.length + 1 else (s.bk (j * 64 + c)).L.length := by
    simp only [putS]
    split
    · simp
    · rfl
  rw [e0, e1]
  by_cases e : j = l
  · subst e
    rw [if_pos rfl, orB_bit, h j hj c hc]
    by_cases e2 : c = b
    · subst e2; simp
    · have h3 : ¬ (j * 64 + c = j * 64 + b) := by omega
      rw [if_neg h3]
      simp [Ne.symm e2]
  · have h3 : ¬ (j * 64 + c = l * 64 + b) := by omega
    rw [if_neg e, if_neg h3, h j hj c hc]

theorem PO.bad {s : WS} {lv : Nat} {rest L : List It} (h : PO s lv rest L) (h1 : 1 ≤ lv) (h3 : lv < 3) {x : It} (hx : x ∈ (s.bk (lv * 64 + bucN s.wd s.base lv)).L) : lev3 s.wd s.base (kn x) < lv := by
  have hb := bucN_lt s.wd s.base lv
  have e1 : (lv * 64 + bucN s.wd s.base lv) / 64 = lv := by omega
  have e2 : (lv * 64 + bucN s.wd s.base lv) % 64 = bucN s.wd s.base lv := by omega
  rcases h.pl _ (by omega) x hx with h | ⟨_, _, h⟩
  · exact (okP_not h1 h3 e1 h (by rw [e2])).elim
  · have := h.2
    rw [e1] at this
    exact this
theorem PO.empty {s : WS} {lv : Nat} {L : List It} (h : PO s lv [] L) (h1 : 1 ≤ lv) (h3 : lv < 3) (h64 : s.mw lv < 18446744073709551616) :
    PO (emptyS s lv (bucN s.wd s.base lv)) (lv - 1) (s.bk (lv * 64 + bucN s.wd s.base lv)).L L := by
  have hb := bucN_lt s.wd s.base lv
  refine { perm := ?_, pl := fun q hq x hx => ?_, bits := bits_empty h3 hb h64 h.bits }
  · refine (flat_upd (fun q => (s.bk q).L) (fun q => ((emptyS s lv (bucN s.wd s.base lv)).bk q).L) (q0 := lv * 64 + bucN s.wd s.base lv) (by omega) (fun q hq => ?_) (B := []) ?_).trans h.perm
    · simp only [emptyS]; rw [if_neg hq]
    · simp [emptyS, Buc.z]
  · simp only [emptyS] at hx ⊢
    by_cases e : q = lv * 64 + bucN s.wd s.base lv
    · rw [if_pos e] at hx; cases hx
    · rw [if_neg e] at hx
      rcases h.pl q hq x hx with h | ⟨a, b, c⟩
      · exact .inl h
      · refine .inr ⟨a, ?_, c⟩
        rcases Nat.lt_or_ge (q / 64) lv with h' | h'
        · omega
        · exfalso
          have e3 : q / 64 = lv := by omega
          have := c.1
          rw [e3] at this
          omega
theorem PO.put {s : WS} {lv : Nat} {x : It} {rest L : List It} {ao : Option Addr} {cap : Nat} (h : PO s lv (x :: rest) L) {l : Nat} (hl : lev3 s.wd s.base (kn x) = l) (h3 : l < 3) :
    PO (putS s l (bucN s.wd (kn x) l) x ao cap) lv rest L := by
  have hb := bucN_lt s.wd (kn x) l
  have e1 : (l * 64 + bucN s.wd (kn x) l) / 64 = l := by omega
  have e2 : (l * 64 + bucN s.wd (kn x) l) % 64 = bucN s.wd (kn x) l := by omega
  refine { perm := ?_, pl := fun q hq y hy => ?_, bits := bits_put h3 hb h.bits }
  · refine (flat_upd (fun q => (s.bk q).L) (fun q => ((putS s l (bucN s.wd (kn x) l) x ao cap).bk q).L) (q0 := l * 64 + bucN s.wd (kn x) l) (by omega) (fun q hq => ?_) (B := x :: rest) ?_).trans h.perm
    · simp only [putS]; rw [if_neg hq]
    · simp [putS]
  · simp only [putS] at hy ⊢
    by_cases e : q = l * 64 + bucN s.wd (kn x) l
    · rw [if_pos e] at hy
      rw [List.mem_append] at hy
      rcases hy with hy | hy
      · subst e; exact h.pl _ hq y hy
      · simp at hy
        subst hy
        left
        subst e
        unfold okP
        rw [e1, e2]
        exact ⟨hl, rfl⟩
    · rw [if_neg e] at hy
      exact h.pl q hq y hy
theorem PO.len {s : WS} {lv : Nat} {rest L : List It} (h : PO s lv rest L) {q : Nat} (hq : q < 192) : (s.bk q).L.length + rest.length ≤ L.length := by
  have h1 := len_le_flat (fun q => (s.bk q).L) hq
  have h2 := h.perm.length_eq
  rw [List.length_append] at h2
  unfold allB at h2
  omega
theorem WOk.base {s : WS} {L : List It} (h : WOk s L) {t0 : Nat} (h1 : s.base ≤ t0) (h2 : ∀ x ∈ L, t0 ≤ kn x) : PO { s with base := t0 } 2 [] L :=
  { perm := by rw [List.append_nil]; exact h.perm
    pl := fun q hq x hx => move_base hq (h.pl q hq x hx) h1 (h2 x (h.perm.mem_iff.1 (mem_allB.2 ⟨q, hq, hx⟩)))
    bits := h.bits }
theorem PO.ok {s s0 : WS} {L : List It} (h : PO s 0 [] L) (h0 : WOk s0 L) (hM : s.M = s0.M) (h2 : ∀ x ∈ L, s.base ≤ kn x) : WOk s L :=
  { srt := h0.srt, nd := h0.nd, len := h0.len
    perm := by have := h.perm; rw [List.append_nil] at this; exact this
    key := fun x hx => ⟨(h0.key x hx).1, h2 x hx⟩
    pl := fun q hq x hx => by
      rcases h.pl q hq x hx with h | ⟨a, b, _⟩
      · exact h
      · omega
    bits := h.bits
    keys := by rw [hM]; exact h0.keys
    mlen := by rw [hM]; exact h0.mlen }

/-! ### Footprints -/
def Fr (F F' : List Nat) (w w' : World) : Prop := (∀ c ∈ F', c ∈ F ∨ w.heap.size ≤ c) ∧ Upd F w w'
theorem Fr.refl (F : List Nat) (w : World) : Fr F F w w := ⟨fun c hc => .inl hc, Upd.refl _ _⟩
theorem Fr.trans {F F' F'' : List Nat} {w w' w'' : World} (h : Fr F F' w w') (k : Fr F' F'' w' w'') : Fr F F'' w w'' := by
  have hs := h.2.size
  refine ⟨fun c hc => ?_, h.2.then k.2 (fun _ _ e => e) (fun i hi e => ?_)⟩
  · rcases k.1 c hc with e | e
    · exact h.1 c e
    · right; omega
  · rcases h.1 i e with e | e
    · exact e
    · omega
theorem Fr.of {F : List Nat} {w w' : World} (h : Upd [] w w') : Fr F F w w' := ⟨fun c hc => .inl hc, h.nil⟩
theorem Fr.up {F F' : List Nat} {w w' w'' : World} (h : Fr F F' w w') (hu : Upd [] w' w'') : Fr F F' w w'' := h.trans (Fr.of hu)

theorem PutTo.fr {wb : Nat} {s : WS} {l b : Nat} {x : It} {w w' : World} (h : PutTo wb s l b x w w') (hl : l < 3) (hb : b < 64) : ∃ ao cap, WhAt w' wb (putS s l b x ao cap) ∧ Fr (s.fp wb) ((putS s l b x ao cap).fp wb) w w' := by
  obtain ⟨ao, cap, h1, h2, h3⟩ := h
  refine ⟨ao, cap, h1, fun c hc => ?_, h3.mono (fun i _ hm => ?_)⟩
  · rcases WS.mem_fp.1 hc with e | e | ⟨q, hq, e⟩
    · exact .inl (WS.mem_fp.2 (.inl e))
    · exact .inl (WS.mem_fp.2 (.inr (.inl e)))
    · simp only [putS] at e
      split at e
      · rcases h2 c e with e | e
        · exact .inl (WS.mem_fp.2 (.inr (.inr ⟨l * 64 + b, by omega, e⟩)))
        · exact .inr e
      · exact .inl (WS.mem_fp.2 (.inr (.inr ⟨q, hq, e⟩)))
  · rcases List.mem_cons.1 hm with e | e
    · exact WS.mem_fp.2 (.inl e)
    · exact WS.mem_fp.2 (.inr (.inr ⟨l * 64 + b, by omega, e⟩))
theorem empty_fp {wb : Nat} {s : WS} {l b c : Nat} (h : c ∈ (emptyS s l b).fp wb) : c ∈ s.fp wb := by
  rcases WS.mem_fp.1 h with e | e | ⟨q, hq, e⟩
  · exact WS.mem_fp.2 (.inl e)
  · exact WS.mem_fp.2 (.inr (.inl e))
  · simp only [emptyS] at e
    split at e
    · cases e
    · exact WS.mem_fp.2 (.inr (.inr ⟨q, hq, e⟩))

theorem empty_done {w w1 : World} {wb l b : Nat} {s : WS} (h : WhAt w wb s) (hl : l < 3) (hb : b < 64) (hU : Upd [] w w1) :
    WhAt ((w1.setCell ⟨wb, 2 + l * 64 + b, none⟩ (.slice none 0 0)).setCell ⟨wb, 194 + l, none⟩ (.int .u64 (andNB (s.mw l) b))) wb (emptyS s l b) ∧ Upd [wb] w ((w1.setCell ⟨wb, 2 + l * 64 + b, none⟩ (.slice none 0 0)).setCell ⟨wb, 194 + l, none⟩ (.int .u64 (andNB (s.mw l) b))) := by
  rw [Nat.add_assoc 2]
  have hq : l * 64 + b < 192 := by omega
  have hu : Upd [wb] w1 ((w1.setCell ⟨wb, 2 + (l * 64 + b), none⟩ (.slice none 0 0)).setCell ⟨wb, 194 + l, none⟩ (.int .u64 (andNB (s.mw l) b))) := ((Upd.refl _ _).setCell (by simp) _).setCell (by simp) _
  have h1 := h.up hU
  refine ⟨{ top := ?_, rows := fun q hq' => ?_, map := h1.map.upd hu (by simp; exact fun e => h.d1 e.symm), ndm := h.ndm, d1 := h.d1, d2 := fun q hq' c hc => ?_, d3 := fun q hq' r hr hqr c hc => ?_, small := fun q hq' => ?_, b64 := h.b64, wd40 := h.wd40, mw64 := fun j hj => ?_, msmall := h.msmall }, hU.nil.trans hu⟩
  · refine ((h1.top.set _ _).set _ _).congr (fun o ho => ?_)
    simp only [emptyS]
    by_cases e1 : o = 194 + l
    · subst e1
      rw [if_pos rfl]
      have := wheelF_mw (emptyS s l b) hl
      simp only [emptyS] at this
      rw [this]
      simp
    · rw [if_neg e1]
      by_cases e2 : o = 2 + (l * 64 + b)
      · subst e2
        rw [if_pos rfl]
        have := wheelF_bk (emptyS s l b) hq
        simp only [emptyS] at this
        rw [this]
        simp [Buc.z]
      · rw [if_neg e2]
        unfold wheelF
        simp only []
        split
        · rfl
        split
        · rfl
        split
        · rw [if_neg (by omega)]
        split
        · rw [if_neg (by omega)]
        · rfl
  · simp only [emptyS]
    split
    · exact RowO.nil _ _ _
    · exact (h1.rows q hq').upd hu (fun c hc => by simp; exact (h.d2 q hq' c hc).1)
  · simp only [emptyS] at hc
    split at hc
    · cases hc
    · exact h.d2 q hq' c hc
  · simp only [emptyS] at hc ⊢
    split at hc
    · cases hc
    · split
      · exact fun e => by cases e
      · exact h.d3 q hq' r hr hqr c hc
  · simp only [emptyS]
    split
    · simp [Buc.z]
    · exact h.small q hq'
  · simp only [emptyS]
    split
    · exact andNB_lt (h.mw64 l hl)
    · exact h.mw64 j hj


set_option maxRecDepth 100000 in
set_option maxHeartbeats 4000000 in
theorem wempty_any (wb l b : Nat) (s : WS) (w : World) (h : WhAt w wb s) (hl3 : l < 3) (hbl : b < 64) :
    Calls Tryz.prog 133 #[.pointer (some ⟨wb, 0, none⟩), .int .i64 l, .int .i64 b] w (fun e w' => e = .returned (.slice (s.bk (l * 64 + b)).ao (s.bk (l * 64 + b)).L.length (s.bk (l * 64 + b)).cap) ∧ WhAt w' wb (emptyS s l b) ∧ Upd [wb] w w') := by
  have HH := Lib.hid h
  have hT2 := h.top
  have c0 := hT2.cell (o := 2 + (l * 64 + b)) (by omega)
  rw [wheelF_bk s (by omega), ← Nat.add_assoc] at c0
  have c1 := hT2.cell (o := 194 + l) (by omega)
  rw [wheelF_mw s hl3] at c1
  have z0 := hT2.free (2 + l * 64 + b)
  have z1 := hT2.free (194 + l)
  have lw := hT2.lt
  have bb : (b : Int) < 64 := by omega
  have bl : (l : Int) < 3 := by omega
  obtain ⟨v, hv⟩ : ∃ v, Value.slice (s.bk (l * 64 + b)).ao (s.bk (l * 64 + b)).L.length (s.bk (l * 64 + b)).cap = v := ⟨_, rfl⟩
  rw [hv] at c0 ⊢
  have HC1 := Lib.hid c1
  clear h hT2 hv
  go_enter Tryz.func133, Tryz.ntmps133
  go_wp2
  obtain ⟨w5, hw5⟩ : ∃ w5, w5 = w.setCell ⟨wb, 2 + l * 64 + b, none⟩ (.slice none 0 0) := ⟨_, rfl⟩
  rw [← hw5]
  have hne : (⟨wb, 194 + l, none⟩ : Addr) ≠ ⟨wb, 2 + l * 64 + b, none⟩ := by first | (simp; done) | (simp; omega)
  have m5 : w5.cell? ⟨wb, 194 + l, none⟩ = some (.int .u64 (s.mw l)) := by rw [hw5, World.cell?_setCell_other _ _ _ _ (fun e => hne e.symm)]; exact HC1.out
  have mz5 : w5.frozen? ⟨wb, 194 + l, none⟩ = false := by rw [hw5]; simpa using z1
  have lw5 : wb < w5.heap.size := by rw [hw5]; simpa using lw
  have HW5 := Lib.hid hw5
  clear hw5 c0 c1 z0 z1 hne
  go_region_with (go_at_call 143; refine (without_any (s.mw l) b (HH.out.mw64 l hl3) hbl _).mono ?_; rintro e w6 ⟨rfl, rfl⟩)
  all_goals
    go_wp2
    go_ret
    have hd := empty_done HH.out hl3 hbl (Upd.refl [] w)
    rw [← HW5.out] at hd
    exact ⟨rfl, hd.1.up (Upd.refl [] _).drew, hd.2.drew⟩
end Go.Proofs.YtolohheflbmfaaaGreatDoor

/-! Wl -/
namespace Go.Proofs.YtolohheflbmfaaaGreatDoor
open Go.RowKit

def Meta (s s0 : WS) : Prop := s.base = s0.base ∧ s.wd = s0.wd ∧ s.M = s0.M ∧ s.mb = s0.mb
theorem Meta.refl (s : WS) : Meta s s := ⟨rfl, rfl, rfl, rfl⟩
theorem Meta.trans {a b c : WS} (h : Meta a b) (k : Meta b c) : Meta a c := ⟨h.1.trans k.1, h.2.1.trans k.2.1, h.2.2.1.trans k.2.2.1, h.2.2.2.trans k.2.2.2⟩


/-- A wheel on the way, in memory. -/
def MvW (wb : Nat) (s0 : WS) (lv : Nat) (rest L : List It) (F : List Nat) (w0 : World) (s : WS) (wr : World) : Prop := WhAt wr wb s ∧ PO s lv rest L ∧ Meta s s0 ∧ Fr F (s.fp wb) w0 wr
def MvAt (wb : Nat) (s0 : WS) (L : List It) (F : List Nat) (w0 : World) (v : Value) (wr : World) : Prop := ∃ lv s, v = .int .i64 ((lv : Nat) : Int) ∧ lv ≤ 2 ∧ MvW wb s0 lv [] L F w0 s wr
def MvIn (wb : Nat) (s0 : WS) (lv : Nat) (B L : List It) (ao : Option Addr) (n cap : Nat) (F : List Nat) (w0 : World) (v : Value) (wr : World) : Prop :=
  ∃ (i : Nat) (s : WS), v = .int .i64 i ∧ i ≤ n ∧ MvW wb s0 (lv - 1) (B.drop i) L F w0 s wr ∧ RowO wr 54 2 ao n cap (B.flatMap itVs) ∧ ∀ c ∈ blkO ao, c ∉ s.fp wb


/-- What a move leaves. -/
def MoveTo (wb : Nat) (s : WS) (L : List It) (t0 : Nat) (w w' : World) : Prop :=
  ∃ s', WhAt w' wb s' ∧ WOk s' L ∧ s'.base = t0 ∧ s'.wd = s.wd ∧ Fr (s.fp wb) (s'.fp wb) w w'

theorem withBase {w : World} {wb : Nat} {s : WS} (h : WhAt w wb s) {t0 : Nat} (ht : t0 < 18446744073709551616) : WhAt (w.setCell ⟨wb, 0, none⟩ (.int .u64 t0)) wb { s with base := t0 } := by
  have hu : Upd [wb] w (w.setCell ⟨wb, 0, none⟩ (.int .u64 t0)) := (Upd.refl _ _).setCell (by simp) _
  refine { top := ?_, rows := fun q hq' => (h.rows q hq').upd hu (fun c hc => by simp; exact (h.d2 q hq' c hc).1), map := h.map.upd hu (by simp; exact fun e => h.d1 e.symm), ndm := h.ndm, d1 := h.d1, d2 := h.d2, d3 := h.d3, small := h.small, b64 := ht, wd40 := h.wd40, mw64 := h.mw64, msmall := h.msmall }
  refine (h.top.set 0 _).congr (fun o ho => ?_)
  by_cases e : o = 0
  · subst e; rfl
  · rw [if_neg e]
    unfold wheelF
    simp [e]

theorem kn_cast {x : It} (h : KeyOk x) : x.1 = (kn x : Int) := by unfold kn; have := h.1; omega



set_option maxRecDepth 100000 in
set_option maxHeartbeats 16000000 in
theorem wmove_yes (wb : Nat) (s : WS) (L : List It) (t0 : Nat) (ht : t0 < 18446744073709551616) (w : World) (h : WhAt w wb s) (hT : TabAt 0 Lib.deBruijn64tab w) (hok : WOk s L) (h1 : s.base ≤ t0) (h2 : ∀ x ∈ L, t0 ≤ kn x) :
    Calls Tryz.prog 108 #[.pointer (some ⟨wb, 0, none⟩), .int .u64 t0] w (fun e w' => e = .returned (.bool true) ∧ MoveTo wb s L t0 w w') := by
  have HH := Lib.hid h
  have HOK := Lib.hid hok
  have HT := Lib.hid hT
  have H1 := Lib.hid h1
  have H2 := Lib.hid h2
  obtain ⟨y, ok, hy⟩ : ∃ y ok, firstV L = itV y ok := by cases L <;> exact ⟨_, _, rfl⟩
  have hcase : (ok = false) ∨ (ok = true ∧ decide (y.1 < (t0 : Int)) = false) := by
    cases L with
    | nil => unfold firstV itV at hy; simp at hy; exact .inl hy.2
    | cons x r =>
      right
      unfold firstV itV at hy
      simp at hy
      refine ⟨hy.2, ?_⟩
      have hx := h2 x (by simp)
      have hk := (hok.key x (by simp)).1
      unfold kn at hx
      have := hk.1
      rw [← hy.1.1]
      simp
      omega
  have HY := Lib.hid hy
  have lw := h.top.lt
  have t1 : decide (t0 < s.base) = false := by simp; omega
  obtain ⟨bs, hbs⟩ : ∃ bs, s.base = bs := ⟨_, rfl⟩
  rw [hbs] at t1
  have HBS := Lib.hid hbs
  clear h hok hT h1 h2 hy hbs
  rcases hcase with rfl | ⟨rfl, t2⟩
  all_goals
    go_enter Tryz.func108, Tryz.ntmps108
    go_wp2_with fail
    refine (wmin_any wb s w HH.out HT.out (wok_ne HOK.out HH.out)).mono ?_
    rintro e w1 ⟨v, rfl, hv, hU1⟩
    rw [wok_min HOK.out HH.out hv, HY.out]
    unfold itV
    have HU1 : Hid (Upd [] w w1) := hU1
    have hT1 := (HH.out.up hU1).top
    have c0 := hT1.cell (o := 0) (by omega)
    rw [wheelF_base, HBS.out] at c0
    have z0 := hT1.free 0
    have lw1 := hT1.lt
    clear hv hU1 hT1
    go_wp2_with fail
    go_loopw [7] (fun v wr => MvAt wb { s with base := t0 } L (s.fp wb) w v wr) (fun v _ => (intOf v).toNat)
    case atStart => exact ⟨2, { s with base := t0 }, rfl, by omega, (withBase (HH.out.up HU1.out) ht).up ((Upd.refl [] _).alloc _), HOK.out.base H1.out H2.out, Meta.refl _, fun c hc => .inl hc, (((HU1.out.nil (S := s.fp wb)).setCell (p := ⟨wb, 0, none⟩) (.inl (WS.mem_fp.2 (.inl rfl))) _).alloc _)⟩
    case round =>
      obtain ⟨lv, s1, rfl, hlv, hA, hP, hM, hF⟩ := hrel
      have HA := Lib.hid hA
      have HP := Lib.hid hP
      have HM := Lib.hid hM
      have HF := Lib.hid hF
      clear hA hP hM hF c0 z0
      have h3 : lv = 0 ∨ lv = 1 ∨ lv = 2 := by omega
      clear hlv
      rcases h3 with rfl | rfl | rfl
      · go_wp2
        go_ret
        have hb : s1.base = t0 := HM.out.1
        exact ⟨rfl, s1, HA.out, HP.out.ok HOK.out HM.out.2.2.1 (by rw [hb]; exact H2.out), hb, HM.out.2.1, HF.out⟩
      · skip
        have c1 := HA.out.top.cell (o := 1) (by omega)
        rw [wheelF_wd] at c1
        have lwr := HA.out.top.lt
        have hbu := fun w => bucket_any t0 1 (by omega) s1.wd w
        rw [heldN_id HA.out.wd40] at hbu
        have HBU := Lib.hid hbu
        have hb1 : s1.base = t0 := HM.out.1
        have hbb := bucN_lt s1.wd t0 1
        have hbad : ∀ x ∈ (s1.bk (1 * 64 + bucN s1.wd t0 1)).L, lev3 s1.wd t0 (kn x) < 1 := by
          intro x hx
          have := HP.out.bad (by omega) (by omega) (x := x) (by rw [hb1]; exact hx)
          rw [hb1] at this
          exact this
        have hPE := HP.out.empty (by omega) (by omega) (HA.out.mw64 1 (by omega))
        rw [hb1] at hPE
        obtain ⟨b, hbe⟩ : ∃ b, bucN s1.wd t0 1 = b := ⟨_, rfl⟩
        rw [hbe] at HBU hbb hbad hPE
        have HBAD := Lib.hid hbad
        have HPE := Lib.hid hPE
        have HB1 := Lib.hid hb1
        clear hbu hbe hbad hPE hb1
        go_wp2_with fail
        refine (HBU.out _).mono ?_
        rintro e wz ⟨rfl, rfl⟩
        go_wp2_with fail
        refine (wempty_any wb 1 b s1 _ HA.out (by omega) hbb).mono ?_
        rintro e w5 ⟨rfl, hE, hU5⟩
        have hR5 := (HA.out.rows (1 * 64 + b) (by omega)).upd hU5 (fun c hc => by simp; exact (HA.out.d2 _ (by omega) c hc).1)
        have hsm := HA.out.small (1 * 64 + b) (by omega)
        have hdis : ∀ c ∈ blkO (s1.bk (1 * 64 + b)).ao, c ∉ (emptyS s1 1 b).fp wb := by
          intro c hc e
          have hd := HA.out.d2 (1 * 64 + b) (by omega) c hc
          rcases WS.mem_fp.1 e with e | e | ⟨q, hq, e⟩
          · exact hd.1 e
          · exact hd.2 e
          · simp only [emptyS] at e
            split at e
            · cases e
            · rename_i hne
              exact HA.out.d3 (1 * 64 + b) (by omega) q hq (by omega) c hc e
        obtain ⟨B, hB⟩ : ∃ B, (s1.bk (1 * 64 + b)).L = B := ⟨_, rfl⟩
        obtain ⟨ao, hao⟩ : ∃ ao, (s1.bk (1 * 64 + b)).ao = ao := ⟨_, rfl⟩
        obtain ⟨cap, hcap⟩ : ∃ cap, (s1.bk (1 * 64 + b)).cap = cap := ⟨_, rfl⟩
        rw [hB] at HBAD HPE hR5 hsm ⊢
        rw [hao] at hR5 hdis ⊢
        rw [hcap] at hR5 ⊢
        obtain ⟨n, hn⟩ : ∃ n, B.length = n := ⟨_, rfl⟩
        rw [hn] at hR5 hsm ⊢
        have HN := Lib.hid hn
        have HMW : Hid (MvW wb { s with base := t0 } 0 B L (s.fp wb) w (emptyS s1 1 b) w5) := ⟨hE, HPE.out, HM.out, HF.out.trans ⟨fun c hc => .inl (empty_fp hc), hU5.mono (fun i _ hm => by simp at hm; subst hm; exact WS.mem_fp.2 (.inl rfl))⟩⟩
        have HR5 := Lib.hid hR5
        have HDIS := Lib.hid hdis
        clear hE hU5 hR5 hdis hB hao hcap hn c1
        go_wp2_with fail
        obtain ⟨wo, rfl⟩ : ∃ wo : World, wo = wr := ⟨_, rfl⟩
        go_loopw [49] (fun v wr => MvIn wb { s with base := t0 } 1 B L ao n cap (s.fp wb) w v wr) (fun v _ => n - (intOf v).toNat)
        case atStart => exact ⟨0, _, rfl, by omega, HMW.out, HR5.out, HDIS.out⟩
        case round =>
          clear HMW HR5 HDIS
          obtain ⟨i, s2, rfl, hi, ⟨hA2, hP2, hM2, hF2⟩, hR, hD⟩ := hrel
          have HA2 := Lib.hid hA2
          have HP2 := Lib.hid hP2
          have HM2 := Lib.hid hM2
          have HF2 := Lib.hid hF2
          have HR := Lib.hid hR
          have HD := Lib.hid hD
          clear hA2 hP2 hM2 hF2 hR hD
          by_cases hlt : i < n
          · have u1 : decide (i < n) = true := by simp [hlt]
            have bi : (i : Int) < (n : Int) := by omega
            obtain ⟨g, hg, lg, x0, x1⟩ := HR.out.items HN.out hlt
            have hil : i < B.length := by rw [HN.out]; exact hlt
            have hdrop : B.drop i = atI B i :: B.drop (i + 1) := by rw [atI_get B i hil]; exact List.drop_eq_getElem_cons hil
            have hmem : atI B i ∈ B := by rw [atI_get B i hil]; exact List.getElem_mem _
            obtain ⟨y, hyy⟩ : ∃ y, atI B i = y := ⟨_, rfl⟩
            rw [hyy] at hdrop hmem x0 x1
            have hP3 := HP2.out
            rw [hdrop] at hP3
            have hyL : y ∈ L := hP3.perm.mem_iff.1 (by simp)
            have hky := (HOK.out.key y hyL).1
            have hb2 : s2.base = t0 := HM2.out.1
            have hw2 : s2.wd = s1.wd := HM2.out.2.1.trans HM.out.2.1.symm
            have hge : s2.base ≤ kn y := by rw [hb2]; exact H2.out y hyL
            have hlev : lev3 s2.wd s2.base (kn y) < 1 := by rw [hb2, hw2]; exact HBAD.out y hmem
            have hlen := fun q hq => hP3.len (q := q) hq
            have hL := HOK.out.len
            rw [kn_cast hky] at x0
            obtain ⟨l2, hl2⟩ : ∃ l2, lev3 s2.wd s2.base (kn y) = l2 := ⟨_, rfl⟩
            have hk64 : kn y < 18446744073709551616 := by unfold kn; have := hky.1; have := hky.2; omega
            have hbl2 := bucN_lt s2.wd (kn y) l2
            rw [hl2] at hlev
            have hpu := fun w h => wput_any wb l2 y.2 (kn y) hk64 s2 w h hge hl2 (by omega) (by have := hlen (l2 * 64 + bucN s2.wd (kn y) l2) (by omega); simp at this; omega)
            have HPU := Lib.hid hpu
            have HP3 := Lib.hid hP3
            have HL2 := Lib.hid hl2
            have HKY := Lib.hid hky
            have hl23 : l2 < 3 := by omega
            subst hg
            clear hdrop hmem hyy hP3 hyL hb2 hw2 hge hl2 hlen hL hky hpu hil
            go_wp2_with fail
            refine (HPU.out _ (HA2.out.up ((Upd.refl [] _).alloc _))).mono ?_
            rintro e w7 ⟨rfl, hp⟩
            obtain ⟨ao7, cap7, hA7, hF7⟩ := hp.fr hl23 hbl2
            have hyc : ((kn y : Nat) : Int) = y.1 := (kn_cast HKY.out).symm
            have HA7 := Lib.hid hA7
            have HF7 : Hid (Fr (s2.fp wb) ((putS s2 l2 (bucN s2.wd (kn y) l2) (kn y, y.2) ao7 cap7).fp wb) wr w7) := (Fr.of ((Upd.refl [] _).alloc _)).trans hF7
            have HYC := Lib.hid hyc
            clear hp hA7 hF7 hyc x0 x1
            go_wp2
            have hR7 := HR.out.upd HF7.out.2 HD.out
            refine ⟨⟨i + 1, _, by congr 1, by omega, ⟨HA7.out, ?_, HM2.out, HF2.out.trans HF7.out⟩, hR7, fun c hc e => ?_⟩, by first | (simp [intOf]; done) | (simp [intOf]; omega)⟩
            · have := HP3.out.put HL2.out hl23 (ao := ao7) (cap := cap7)
              rw [HYC.out]
              exact this
            · rcases HF7.out.1 c e with e | e
              · exact HD.out c hc e
              · have := HR.out.lt c hc; omega
          · have u1 : decide (i < n) = false := by simp [hlt]
            have hPf : PO s2 0 [] L := by
              have := HP2.out
              rw [List.drop_eq_nil_of_le (by rw [HN.out]; omega)] at this
              exact this
            have HPF := Lib.hid hPf
            clear hPf
            go_wp2
            exact ⟨⟨0, s2, by first | rfl | congr 1, by omega, HA2.out, HPF.out, HM2.out, HF2.out⟩, by first | (simp [intOf]; done) | (simp [intOf]; omega)⟩
      · skip
        have c1 := HA.out.top.cell (o := 1) (by omega)
        rw [wheelF_wd] at c1
        have lwr := HA.out.top.lt
        have hbu := fun w => bucket_any t0 2 (by omega) s1.wd w
        rw [heldN_id HA.out.wd40] at hbu
        have HBU := Lib.hid hbu
        have hb1 : s1.base = t0 := HM.out.1
        have hbb := bucN_lt s1.wd t0 2
        have hbad : ∀ x ∈ (s1.bk (2 * 64 + bucN s1.wd t0 2)).L, lev3 s1.wd t0 (kn x) < 2 := by
          intro x hx
          have := HP.out.bad (by omega) (by omega) (x := x) (by rw [hb1]; exact hx)
          rw [hb1] at this
          exact this
        have hPE := HP.out.empty (by omega) (by omega) (HA.out.mw64 2 (by omega))
        rw [hb1] at hPE
        obtain ⟨b, hbe⟩ : ∃ b, bucN s1.wd t0 2 = b := ⟨_, rfl⟩
        rw [hbe] at HBU hbb hbad hPE
        have HBAD := Lib.hid hbad
        have HPE := Lib.hid hPE
        have HB1 := Lib.hid hb1
        clear hbu hbe hbad hPE hb1
        go_wp2_with fail
        refine (HBU.out _).mono ?_
        rintro e wz ⟨rfl, rfl⟩
        go_wp2_with fail
        refine (wempty_any wb 2 b s1 _ HA.out (by omega) hbb).mono ?_
        rintro e w5 ⟨rfl, hE, hU5⟩
        have hR5 := (HA.out.rows (2 * 64 + b) (by omega)).upd hU5 (fun c hc => by simp; exact (HA.out.d2 _ (by omega) c hc).1)
        have hsm := HA.out.small (2 * 64 + b) (by omega)
        have hdis : ∀ c ∈ blkO (s1.bk (2 * 64 + b)).ao, c ∉ (emptyS s1 2 b).fp wb := by
          intro c hc e
          have hd := HA.out.d2 (2 * 64 + b) (by omega) c hc
          rcases WS.mem_fp.1 e with e | e | ⟨q, hq, e⟩
          · exact hd.1 e
          · exact hd.2 e
          · simp only [emptyS] at e
            split at e
            · cases e
            · rename_i hne
              exact HA.out.d3 (2 * 64 + b) (by omega) q hq (by omega) c hc e
        obtain ⟨B, hB⟩ : ∃ B, (s1.bk (2 * 64 + b)).L = B := ⟨_, rfl⟩
        obtain ⟨ao, hao⟩ : ∃ ao, (s1.bk (2 * 64 + b)).ao = ao := ⟨_, rfl⟩
        obtain ⟨cap, hcap⟩ : ∃ cap, (s1.bk (2 * 64 + b)).cap = cap := ⟨_, rfl⟩
        rw [hB] at HBAD HPE hR5 hsm ⊢
        rw [hao] at hR5 hdis ⊢
        rw [hcap] at hR5 ⊢
        obtain ⟨n, hn⟩ : ∃ n, B.length = n := ⟨_, rfl⟩
        rw [hn] at hR5 hsm ⊢
        have HN := Lib.hid hn
        have HMW : Hid (MvW wb { s with base := t0 } 1 B L (s.fp wb) w (emptyS s1 2 b) w5) := ⟨hE, HPE.out, HM.out, HF.out.trans ⟨fun c hc => .inl (empty_fp hc), hU5.mono (fun i _ hm => by simp at hm; subst hm; exact WS.mem_fp.2 (.inl rfl))⟩⟩
        have HR5 := Lib.hid hR5
        have HDIS := Lib.hid hdis
        clear hE hU5 hR5 hdis hB hao hcap hn c1
        go_wp2_with fail
        obtain ⟨wo, rfl⟩ : ∃ wo : World, wo = wr := ⟨_, rfl⟩
        go_loopw [49] (fun v wr => MvIn wb { s with base := t0 } 2 B L ao n cap (s.fp wb) w v wr) (fun v _ => n - (intOf v).toNat)
        case atStart => exact ⟨0, _, rfl, by omega, HMW.out, HR5.out, HDIS.out⟩
        case round =>
          clear HMW HR5 HDIS
          obtain ⟨i, s2, rfl, hi, ⟨hA2, hP2, hM2, hF2⟩, hR, hD⟩ := hrel
          have HA2 := Lib.hid hA2
          have HP2 := Lib.hid hP2
          have HM2 := Lib.hid hM2
          have HF2 := Lib.hid hF2
          have HR := Lib.hid hR
          have HD := Lib.hid hD
          clear hA2 hP2 hM2 hF2 hR hD
          by_cases hlt : i < n
          · have u1 : decide (i < n) = true := by simp [hlt]
            have bi : (i : Int) < (n : Int) := by omega
            obtain ⟨g, hg, lg, x0, x1⟩ := HR.out.items HN.out hlt
            have hil : i < B.length := by rw [HN.out]; exact hlt
            have hdrop : B.drop i = atI B i :: B.drop (i + 1) := by rw [atI_get B i hil]; exact List.drop_eq_getElem_cons hil
            have hmem : atI B i ∈ B := by rw [atI_get B i hil]; exact List.getElem_mem _
            obtain ⟨y, hyy⟩ : ∃ y, atI B i = y := ⟨_, rfl⟩
            rw [hyy] at hdrop hmem x0 x1
            have hP3 := HP2.out
            rw [hdrop] at hP3
            have hyL : y ∈ L := hP3.perm.mem_iff.1 (by simp)
            have hky := (HOK.out.key y hyL).1
            have hb2 : s2.base = t0 := HM2.out.1
            have hw2 : s2.wd = s1.wd := HM2.out.2.1.trans HM.out.2.1.symm
            have hge : s2.base ≤ kn y := by rw [hb2]; exact H2.out y hyL
            have hlev : lev3 s2.wd s2.base (kn y) < 2 := by rw [hb2, hw2]; exact HBAD.out y hmem
            have hlen := fun q hq => hP3.len (q := q) hq
            have hL := HOK.out.len
            rw [kn_cast hky] at x0
            obtain ⟨l2, hl2⟩ : ∃ l2, lev3 s2.wd s2.base (kn y) = l2 := ⟨_, rfl⟩
            have hk64 : kn y < 18446744073709551616 := by unfold kn; have := hky.1; have := hky.2; omega
            have hbl2 := bucN_lt s2.wd (kn y) l2
            rw [hl2] at hlev
            have hpu := fun w h => wput_any wb l2 y.2 (kn y) hk64 s2 w h hge hl2 (by omega) (by have := hlen (l2 * 64 + bucN s2.wd (kn y) l2) (by omega); simp at this; omega)
            have HPU := Lib.hid hpu
            have HP3 := Lib.hid hP3
            have HL2 := Lib.hid hl2
            have HKY := Lib.hid hky
            have hl23 : l2 < 3 := by omega
            subst hg
            clear hdrop hmem hyy hP3 hyL hb2 hw2 hge hl2 hlen hL hky hpu hil
            go_wp2_with fail
            refine (HPU.out _ (HA2.out.up ((Upd.refl [] _).alloc _))).mono ?_
            rintro e w7 ⟨rfl, hp⟩
            obtain ⟨ao7, cap7, hA7, hF7⟩ := hp.fr hl23 hbl2
            have hyc : ((kn y : Nat) : Int) = y.1 := (kn_cast HKY.out).symm
            have HA7 := Lib.hid hA7
            have HF7 : Hid (Fr (s2.fp wb) ((putS s2 l2 (bucN s2.wd (kn y) l2) (kn y, y.2) ao7 cap7).fp wb) wr w7) := (Fr.of ((Upd.refl [] _).alloc _)).trans hF7
            have HYC := Lib.hid hyc
            clear hp hA7 hF7 hyc x0 x1
            go_wp2
            have hR7 := HR.out.upd HF7.out.2 HD.out
            refine ⟨⟨i + 1, _, by congr 1, by omega, ⟨HA7.out, ?_, HM2.out, HF2.out.trans HF7.out⟩, hR7, fun c hc e => ?_⟩, by first | (simp [intOf]; done) | (simp [intOf]; omega)⟩
            · have := HP3.out.put HL2.out hl23 (ao := ao7) (cap := cap7)
              rw [HYC.out]
              exact this
            · rcases HF7.out.1 c e with e | e
              · exact HD.out c hc e
              · have := HR.out.lt c hc; omega
          · have u1 : decide (i < n) = false := by simp [hlt]
            have hPf : PO s2 1 [] L := by
              have := HP2.out
              rw [List.drop_eq_nil_of_le (by rw [HN.out]; omega)] at this
              exact this
            have HPF := Lib.hid hPf
            clear hPf
            go_wp2
            exact ⟨⟨1, s2, by first | rfl | congr 1, by omega, HA2.out, HPF.out, HM2.out, HF2.out⟩, by first | (simp [intOf]; done) | (simp [intOf]; omega)⟩

theorem wmove_no (wb : Nat) (s : WS) (L : List It) (t0 : Nat) (w : World) (h : WhAt w wb s) (hT : TabAt 0 Lib.deBruijn64tab w) (hok : WOk s L) (h1 : t0 < s.base ∨ ∃ x ∈ L, kn x < t0) :
    Calls Tryz.prog 108 #[.pointer (some ⟨wb, 0, none⟩), .int .u64 t0] w (RetUpd [] w (.bool false)) := by
  have HH := Lib.hid h
  have HOK := Lib.hid hok
  have HT := Lib.hid hT
  obtain ⟨y, ok, hy⟩ : ∃ y ok, firstV L = itV y ok := by cases L <;> exact ⟨_, _, rfl⟩
  have hcase : decide (t0 < s.base) = true ∨ (decide (t0 < s.base) = false ∧ ok = true ∧ decide (y.1 < (t0 : Int)) = true) := by
    by_cases hb : t0 < s.base
    · exact .inl (by simp [hb])
    · right
      obtain ⟨x, hx, hlt⟩ := h1.resolve_left hb
      cases L with
      | nil => cases hx
      | cons z r =>
        unfold firstV itV at hy
        simp at hy
        refine ⟨by simp; omega, hy.2, ?_⟩
        have hkx := (hok.key x hx).1
        have hkz := (hok.key z (by simp)).1
        have hle : z.1 ≤ x.1 := by
          rcases List.mem_cons.1 hx with rfl | hx
          · omega
          · have := (List.pairwise_cons.1 hok.srt).1 x hx
            rw [ahead_iff] at this
            omega
        have hx0 := hkx.1
        unfold kn at hlt
        have e1 : z.1 = y.1 := by rw [← hy.1.1]
        rw [← e1]
        simp
        omega
  have HY := Lib.hid hy
  have lw := h.top.lt
  obtain ⟨bs, hbs⟩ : ∃ bs, s.base = bs := ⟨_, rfl⟩
  rw [hbs] at hcase
  have HBS := Lib.hid hbs
  clear h hok hT h1 hy hbs
  rcases hcase with t1 | ⟨t1, rfl, t2⟩
  all_goals
    go_enter Tryz.func108, Tryz.ntmps108
    go_wp2_with fail
    refine (wmin_any wb s w HH.out HT.out (wok_ne HOK.out HH.out)).mono ?_
    rintro e w1 ⟨v, rfl, hv, hU1⟩
    rw [wok_min HOK.out HH.out hv, HY.out]
    unfold itV
    have HU1 : Hid (Upd [] w w1) := hU1
    have hT1 := (HH.out.up hU1).top
    have c0 := hT1.cell (o := 0) (by omega)
    rw [wheelF_base, HBS.out] at c0
    have z0 := hT1.free 0
    have lw1 := hT1.lt
    clear hv hU1 hT1
    go_wp2
    go_ret
    exact ⟨rfl, HU1.out.alloc _⟩
end Go.Proofs.YtolohheflbmfaaaGreatDoor

/-! Wm -/
namespace Go.Proofs.YtolohheflbmfaaaGreatDoor
open Go.RowKit

def fitsB (base wd k : Nat) : Bool := decide (base ≤ k) && decide (lev3 wd base k < 3)
theorem findI_ins {L : List It} {x : It} (h : NdI L) (hx : hasI L x.2 = false) (id : Int) : findI (insI x L) id = if x.2 = id then some x else findI L id := by
  rw [findI_perm (insI_nd h hx) (insI_perm x L)]
  unfold findI
  rw [List.find?_cons]
  by_cases e : x.2 = id
  · simp [e]
  · have : (x.2 == id) = false := by simp [e]
    rw [this, if_neg e]
theorem wok_new (wd : Int) (mb : Nat) : WOk (newWS wd mb) [] := by
  have hall : allB (newWS wd mb) = [] := by
    rw [List.eq_nil_iff_forall_not_mem]
    intro x hx
    obtain ⟨q, hq, h⟩ := mem_allB.1 hx
    cases h
  exact { srt := List.Pairwise.nil, nd := by simp [NdI], len := by simp, perm := by rw [hall], key := fun x hx => (by cases hx), pl := fun q hq x hx => (by cases hx), bits := fun l hl b hb => by simp [newWS, Buc.z], keys := fun id => rfl, mlen := rfl }
theorem wok_has {s : WS} {L : List It} (h : WOk s L) (id : Int) : (lookM s.M id).isSome = hasI L id := by
  rw [h.keys]
  cases hx : hasI L id with
  | false => rw [findI_none.2 hx]; rfl
  | true =>
    cases hf : findI L id with
    | none => rw [findI_none] at hf; rw [hf] at hx; cases hx
    | some x => rfl
theorem wok_push {s : WS} {L : List It} {k : Nat} {x : Int} {l : Nat} {ao : Option Addr} {cap : Nat} (h : WOk s L) (hk : k < 18446744073709551616) (hb : s.base ≤ k) (hl : lev3 s.wd s.base k = l) (h3 : l < 3) (hx : hasI L x = false) (hlen : L.length < 1000) :
    WOk (putS { s with M := putM s.M x (.int .u64 k) } l (bucN s.wd k l) ((k : Int), x) ao cap) (insI ((k : Int), x) L) := by
  have hbl := bucN_lt s.wd k l
  have hkn : kn ((k : Int), x) = k := by unfold kn; simp
  have e1 : (l * 64 + bucN s.wd k l) / 64 = l := by omega
  have e2 : (l * 64 + bucN s.wd k l) % 64 = bucN s.wd k l := by omega
  have hlk : lookM s.M x = none := by
    rw [h.keys, findI_none.2 hx]; rfl
  refine { srt := insI_srt h.srt ((hasI_no _ _).1 hx), nd := insI_nd h.nd hx, len := by rw [(insI_perm _ L).length_eq, List.length_cons]; omega, perm := ?_, key := fun y hy => ?_, pl := fun q hq y hy => ?_, bits := bits_put (s := { s with M := putM s.M x (.int .u64 k) }) h3 hbl h.bits, keys := fun id => ?_, mlen := ?_ }
  · have h1 := flat_upd (fun q => (s.bk q).L) (fun q => ((putS { s with M := putM s.M x (.int .u64 k) } l (bucN s.wd k l) ((k : Int), x) ao cap).bk q).L) (n := 192) (q0 := l * 64 + bucN s.wd k l) (by omega) (fun q hq => by simp only [putS]; rw [if_neg hq]) (A := []) (B := [((k : Int), x)]) (by simp [putS])
    rw [List.append_nil] at h1
    exact h1.trans ((List.perm_append_comm).trans ((List.Perm.cons _ h.perm).trans (insI_perm _ L).symm))
  · rcases List.mem_cons.1 ((insI_perm _ L).mem_iff.1 hy) with rfl | hy
    · exact ⟨⟨by simp, by simp; omega⟩, by rw [hkn]; exact hb⟩
    · exact h.key y hy
  · simp only [putS] at hy ⊢
    split at hy
    · rename_i e
      rw [List.mem_append] at hy
      rcases hy with hy | hy
      · subst e; exact h.pl _ hq y hy
      · simp at hy
        subst hy
        subst e
        unfold okP
        rw [e1, e2, hkn]
        exact ⟨hl, rfl⟩
    · exact h.pl q hq y hy
  · simp only [putS]
    rw [lookM_put, findI_ins h.nd hx, h.keys]
    by_cases e : id = x
    · subst e; simp
    · rw [if_neg e, if_neg (fun e' => e e'.symm)]
  · simp only [putS]
    rw [putM_len hlk, h.mlen, (insI_perm _ L).length_eq]
    rfl


/-- A wheel in blocks that are new since W. -/
def WG (W : World) (wb base wd : Nat) (L : List It) (fp : List Nat) (w : World) : Prop :=
  ∃ s, WhAt w wb s ∧ WOk s L ∧ s.base = base ∧ s.wd = wd ∧ fp = s.fp wb ∧ (∀ c ∈ fp, W.heap.size ≤ c) ∧ Upd [] W w ∧ TabAt 0 Lib.deBruijn64tab W
def WGTo (W : World) (wb base wd : Nat) (L : List It) (fp : List Nat) (w w' : World) : Prop := ∃ fp', WG W wb base wd L fp' w' ∧ Fr fp fp' w w'
theorem WG.updW {W w : World} {wb base wd : Nat} {L : List It} {fp : List Nat} (h : WG W wb base wd L fp w) : Upd [] W w := by obtain ⟨s, _, _, _, _, _, _, h, _⟩ := h; exact h
theorem WG.tab {W w : World} {wb base wd : Nat} {L : List It} {fp : List Nat} (h : WG W wb base wd L fp w) : TabAt 0 Lib.deBruijn64tab W := by obtain ⟨s, _, _, _, _, _, _, _, h⟩ := h; exact h
theorem WG.newB {W w : World} {wb base wd : Nat} {L : List It} {fp : List Nat} (h : WG W wb base wd L fp w) : ∀ c ∈ fp, W.heap.size ≤ c := by obtain ⟨s, _, _, _, _, _, h, _⟩ := h; exact h
theorem WG.lt {W w : World} {wb base wd : Nat} {L : List It} {fp : List Nat} (h : WG W wb base wd L fp w) : ∀ c ∈ fp, c < w.heap.size := by
  obtain ⟨s, h1, _, _, _, rfl, _⟩ := h; exact h1.lt
theorem WG.mem {W w : World} {wb base wd : Nat} {L : List It} {fp : List Nat} (h : WG W wb base wd L fp w) : wb ∈ fp := by
  obtain ⟨s, h1, _, _, _, rfl, _⟩ := h; exact WS.mem_fp.2 (.inl rfl)
theorem WG.nd {W w : World} {wb base wd : Nat} {L : List It} {fp : List Nat} (h : WG W wb base wd L fp w) : NdI L := by obtain ⟨s, _, h, _⟩ := h; exact h.nd
theorem WG.srt {W w : World} {wb base wd : Nat} {L : List It} {fp : List Nat} (h : WG W wb base wd L fp w) : Srt L := by obtain ⟨s, _, h, _⟩ := h; exact h.srt
theorem WG.updS {W w w' : World} {wb base wd : Nat} {L : List It} {fp S : List Nat} (h : WG W wb base wd L fp w) (hu : Upd S w w') (hs : ∀ c ∈ fp, c ∉ S) (hw : ∀ c ∈ S, W.heap.size ≤ c) : WG W wb base wd L fp w' := by
  obtain ⟨s, h1, h2, h3, h4, rfl, h5, h6, h7⟩ := h
  exact ⟨s, h1.upd hu hs, h2, h3, h4, rfl, h5, h6.then hu (by simp) (fun i hi hm => by have := hw i hm; omega), h7⟩
theorem WG.upd {W w w' : World} {wb base wd : Nat} {L : List It} {fp : List Nat} (h : WG W wb base wd L fp w) (hu : Upd [] w w') : WG W wb base wd L fp w' := h.updS hu (by simp) (by simp)
theorem WG.new {W w : World} (hU : Upd [] W w) (hT : TabAt 0 Lib.deBruijn64tab W) (wd : Int) : Calls Tryz.prog 77 #[.int .i64 wd] w (fun e w' => ∃ wb fp, e = .returned (.pointer (some ⟨wb, 0, none⟩)) ∧ WG W wb 0 (heldN wd) [] fp w' ∧ Upd [] w w' ∧ ∀ c ∈ fp, w.heap.size ≤ c) := by
  refine (wnew_any wd w).mono ?_
  rintro e w' ⟨rfl, h1, hU1⟩
  have hfp : ∀ c ∈ (newWS wd w.heap.size).fp (w.heap.size + 1), w.heap.size ≤ c := fun c hc => by
    rcases WS.mem_fp.1 hc with e | e | ⟨q, hq, e⟩
    · omega
    · simp only [newWS] at e; omega
    · cases e
  exact ⟨_, _, rfl, ⟨_, h1, wok_new wd _, rfl, rfl, rfl, fun c hc => Nat.le_trans hU.size (hfp c hc), hU.trans hU1, hT⟩, hU1, hfp⟩


/-- What a step leaves of the state. -/
theorem WG.step {W w w' : World} {wb base wd : Nat} {L : List It} {fp : List Nat} (h : WG W wb base wd L fp w) {s' : WS} {base' : Nat} {L' : List It} (h1 : WhAt w' wb s') (h2 : WOk s' L') (h3 : s'.base = base') (h4 : s'.wd = wd) (h5 : Fr fp (s'.fp wb) w w') : WGTo W wb base' wd L' fp w w' := by
  have hW := h.updW
  refine ⟨_, ⟨s', h1, h2, h3, h4, rfl, fun c hc => ?_, hW.then h5.2 (by simp) (fun i hi hm => by have := h.newB i hm; omega), h.tab⟩, h5⟩
  rcases h5.1 c hc with e | e
  · exact h.newB c e
  · exact Nat.le_trans hW.size e

theorem WG.push {W w : World} {wb base wd : Nat} {L : List It} {fp : List Nat} (h : WG W wb base wd L fp w) (k : Nat) (hk : k < 18446744073709551616) (x : Int) (hsm : L.length < 1000) :
    Calls Tryz.prog 83 #[.pointer (some ⟨wb, 0, none⟩), .agg #[.int .u64 k, .int .i64 x]] w (fun e w' => e = .returned (.bool (fitsB base wd k && !hasI L x)) ∧ WGTo W wb base wd (if (fitsB base wd k && !hasI L x) = true then insI ((k : Int), x) L else L) fp w w') := by
  have h0 := h
  obtain ⟨s, h1, h2, rfl, rfl, rfl, h3, h4, h5⟩ := h
  by_cases hc : (fitsB s.base s.wd k && !hasI L x) = true
  · rw [if_pos hc]
    have hc' := hc
    rw [Bool.and_eq_true] at hc'
    have hf := hc'.1
    unfold fitsB at hf
    simp at hf
    have hx : hasI L x = false := by simpa using hc'.2
    obtain ⟨l, hl⟩ : ∃ l, lev3 s.wd s.base k = l := ⟨_, rfl⟩
    rw [hl] at hf
    have hno : lookM s.M x = none := by rw [h2.keys, findI_none.2 hx]; rfl
    have hbl := bucN_lt s.wd k l
    have hq : l * 64 + bucN s.wd k l < 192 := by omega
    have hlen : (s.bk (l * 64 + bucN s.wd k l)).L.length < 1000 := by
      have a := len_le_flat (fun q => (s.bk q).L) hq
      have b := h2.perm.length_eq
      unfold allB at b
      omega
    refine (wpush_yes wb l k x hk s w h1 hf.1 hl hf.2 hno hlen (by rw [h2.mlen]; exact hsm)).mono ?_
    rintro e w' ⟨rfl, ao, cap, k1, k2, k3⟩
    refine ⟨by rw [hc], h0.step k1 (wok_push h2 hk hf.1 hl hf.2 hx hsm) rfl rfl ⟨fun c hc => ?_, k3.mono (fun i _ hm => ?_)⟩⟩
    · rcases WS.mem_fp.1 hc with e | e | ⟨q, hq', e⟩
      · exact .inl (WS.mem_fp.2 (.inl e))
      · exact .inl (WS.mem_fp.2 (.inr (.inl e)))
      · simp only [putS] at e
        split at e
        · rcases k2 c e with e | e
          · exact .inl (WS.mem_fp.2 (.inr (.inr ⟨_, hq, e⟩)))
          · exact .inr e
        · exact .inl (WS.mem_fp.2 (.inr (.inr ⟨q, hq', e⟩)))
    · rcases List.mem_cons.1 hm with e | e
      · exact WS.mem_fp.2 (.inl e)
      · rcases List.mem_cons.1 e with e | e
        · exact WS.mem_fp.2 (.inr (.inl e))
        · exact WS.mem_fp.2 (.inr (.inr ⟨_, hq, e⟩))
  · rw [if_neg hc]
    have hcf : (fitsB s.base s.wd k && !hasI L x) = false := by simpa using hc
    have hor : fits s k = false ∨ (lookM s.M x).isSome = true := by
      rw [wok_has h2]
      unfold fitsB at hcf
      unfold fits
      cases hd : (decide (s.base ≤ k) && decide (lev3 s.wd s.base k < 3)) with
      | false => exact .inl rfl
      | true => rw [hd] at hcf; right; simpa using hcf
    refine (wpush_no wb k x hk s w h1 hor).mono ?_
    rintro e w' ⟨rfl, hU⟩
    exact ⟨by rw [hcf], h0.step (h1.up hU) h2 rfl rfl (Fr.of hU)⟩
theorem WG.min {W w : World} {wb base wd : Nat} {L : List It} {fp : List Nat} (h : WG W wb base wd L fp w) :
    Calls Tryz.prog 103 #[.pointer (some ⟨wb, 0, none⟩)] w (RetUpd [] w (firstV L)) := by
  obtain ⟨s, h1, h2, rfl, rfl, rfl, h3, h4, h5⟩ := h
  refine (wmin_any wb s w h1 (tab_upd h5 h4) (wok_ne h2 h1)).mono ?_
  rintro e w' ⟨v, rfl, hv, hU⟩
  exact ⟨by rw [wok_min h2 h1 hv], hU⟩
theorem WG.has {W w : World} {wb base wd : Nat} {L : List It} {fp : List Nat} (h : WG W wb base wd L fp w) (id : Int) :
    Calls Tryz.prog 97 #[.pointer (some ⟨wb, 0, none⟩), .int .i64 id] w (fun e w' => e = .returned (.bool (hasI L id)) ∧ w = w') := by
  obtain ⟨s, h1, h2, rfl, rfl, rfl, h3, h4, h5⟩ := h
  rw [← wok_has h2]
  exact whas_any wb s id w h1
theorem WG.base {W w : World} {wb base wd : Nat} {L : List It} {fp : List Nat} (h : WG W wb base wd L fp w) :
    Calls Tryz.prog 96 #[.pointer (some ⟨wb, 0, none⟩)] w (fun e w' => e = .returned (.int .u64 base) ∧ w = w') := by
  obtain ⟨s, h1, h2, rfl, rfl, rfl, h3, h4, h5⟩ := h
  exact wbase_any wb s w h1
def movB (base : Nat) (L : List It) (t0 : Nat) : Bool := decide (base ≤ t0) && L.all (fun x => decide (t0 ≤ kn x))
theorem WG.move {W w : World} {wb base wd : Nat} {L : List It} {fp : List Nat} (h : WG W wb base wd L fp w) (t0 : Nat) (ht : t0 < 18446744073709551616) :
    Calls Tryz.prog 108 #[.pointer (some ⟨wb, 0, none⟩), .int .u64 t0] w (fun e w' => e = .returned (.bool (movB base L t0)) ∧ WGTo W wb (if movB base L t0 = true then t0 else base) wd L fp w w') := by
  have h0 := h
  obtain ⟨s, h1, h2, rfl, rfl, rfl, h3, h4, h5⟩ := h
  by_cases hc : movB s.base L t0 = true
  · rw [if_pos hc, hc]
    unfold movB at hc
    simp at hc
    refine (wmove_yes wb s L t0 ht w h1 (tab_upd h5 h4) h2 hc.1 (fun x hx => hc.2 x.1 x.2 hx)).mono ?_
    rintro e w' ⟨rfl, s', k1, k2, k3, k4, k5⟩
    exact ⟨rfl, h0.step k1 k2 k3 k4 k5⟩
  · rw [if_neg hc]
    have hcf : movB s.base L t0 = false := by simpa using hc
    rw [hcf]
    have hor : t0 < s.base ∨ ∃ x ∈ L, kn x < t0 := by
      unfold movB at hcf
      by_cases hb : t0 < s.base
      · exact .inl hb
      · right
        have hd : decide (s.base ≤ t0) = true := by simp; omega
        rw [hd, Bool.true_and, List.all_eq_false] at hcf
        obtain ⟨x, hx, hn⟩ := hcf
        exact ⟨x, hx, by simpa using hn⟩
    refine (wmove_no wb s L t0 w h1 (tab_upd h5 h4) h2 hor).mono ?_
    rintro e w' ⟨rfl, hU⟩
    exact ⟨rfl, h0.step (h1.up hU) h2 rfl rfl (Fr.of hU)⟩
end Go.Proofs.YtolohheflbmfaaaGreatDoor

/-! Wo -/
namespace Go.Proofs.YtolohheflbmfaaaGreatDoor
open Go.RowKit

section
variable {P : Program}
theorem run_clear1 (w : World) (t e ty : TypeId) (z z0 z1 : Value) (ht : P.underlying t = some (.slice e)) (hv : ∀ w, (zeroValue e).run P w = .ok z w) (hz : z.cells = #[z0, z1]) (h0 : z0.oneCell' = true) (h1 : z1.oneCell' = true) (b o c : Nat) (u0 u1 : Value)
    (c0 : w.cell? ⟨b, o, none⟩ = some u0) (c1 : w.cell? ⟨b, o + 1, none⟩ = some u1) (f0 : w.frozen? ⟨b, o, none⟩ = false) (f1 : w.frozen? ⟨b, o + 1, none⟩ = false) :
    (Builtin.clear_ #[t] ty #[.slice (some ⟨b, o, none⟩) 1 c]).run P w = .ok (.tuple #[]) ((w.setCell ⟨b, o, none⟩ z0).setCell ⟨b, o + 1, none⟩ z1) := by
  have hzc : (Builtin.zeroCells z.cells 1).toList = [z0, z1] := by
    rw [hz]
    simp [Builtin.zeroCells]
    rfl
  have hst := run_storeCells_cells (P := P) b o [z0, z1] 0 w
    (by intro j hj; have : j = 0 ∨ j = 1 := by simp at hj; omega
        rcases this with rfl | rfl
        · simp [c0]
        · simp [c1])
    (by intro j hj; have : j = 0 ∨ j = 1 := by simp at hj; omega
        rcases this with rfl | rfl
        · simpa using f0
        · simpa using f1)
    (by intro v hv'; simp at hv'; rcases hv' with rfl | rfl <;> assumption)
  simp only [Nat.add_zero, World.setCells] at hst
  simp [Builtin.clear_, run_underlying ht, hv, hzc, hst]
theorem wpList_clear1 (w : World) {ops : Array Oper} {rest : List Oper} {o : Oper} {a : Act} {Q : Exit → Act → World → Prop} (hgd : o.guard = none) (x : Operand) (t : TypeId)
    (ho : o.op = .call { callee := .builtin .clear, args := #[x], argTypes := #[t] }) (e : TypeId) (z z0 z1 : Value) (ht : P.underlying t = some (.slice e)) (hv : ∀ w, (zeroValue e).run P w = .ok z w) (hz : z.cells = #[z0, z1]) (h0 : z0.oneCell' = true) (h1 : z1.oneCell' = true)
    (b off c : Nat) (hx : a.eval x = .slice (some ⟨b, off, none⟩) 1 c) (u0 u1 : Value) (c0 : w.cell? ⟨b, off, none⟩ = some u0) (c1 : w.cell? ⟨b, off + 1, none⟩ = some u1) (f0 : w.frozen? ⟨b, off, none⟩ = false) (f1 : w.frozen? ⟨b, off + 1, none⟩ = false)
    (h : wpList P ops Q rest (a.put o.dst (.tuple #[])) ((w.setCell ⟨b, off, none⟩ z0).setCell ⟨b, off + 1, none⟩ z1)) : wpList P ops Q (o :: rest) a w := by
  refine wpList_plain hgd fun K hK => ?_
  have hr := run_clear1 (P := P) w t e o.type z z0 z1 ht hv hz h0 h1 b off c u0 u1 c0 c1 f0 f1
  unfold Oper.wp execOp
  simp only [ho, resolve, invoke, builtin, Sem.run_bind, Sem.run_pure, Result.andThen_ok, List.map_toArray, List.map_cons, List.map_nil, hx, hr]
  exact hK _ _ h
end

theorem zeroItem (w : World) : (zeroValue 54).run Tryz.prog w = .ok (.agg #[.int .u64 0, .int .i64 0]) w := by kernel_rfl
def delV (xb : Nat) : Value := .func (.func 132) #[] #[.pointer (some ⟨xb, 0, none⟩)]


/-- What the array holds while it closes up behind place i. -/
def ShiftOf (L : List It) (n i m : Nat) (A : List It) : Prop := A.length = n ∧ ∀ p, p < n → atI A p = if p < i then atI L p else if p < m then atI L (p + 1) else atI L p
theorem ShiftOf.start {L : List It} {n i : Nat} (hn : L.length = n) : ShiftOf L n i i L := ⟨hn, fun p hp => by split <;> (try split) <;> first | rfl | omega⟩
theorem ShiftOf.step {L : List It} {n i m : Nat} {A : List It} (h : ShiftOf L n i m A) (him : i ≤ m) (hm : m + 1 < n) : ShiftOf L n i (m + 1) (A.set m (atI L (m + 1))) := by
  refine ⟨by simp [h.1], fun p hp => ?_⟩
  by_cases e : p = m
  · subst e
    unfold atI at *
    rw [getD_set_same _ _ _ _ (by rw [h.1]; exact hp), if_neg (by omega), if_pos (by omega)]
  · have h2 := h.2 p hp
    unfold atI at *
    rw [getD_set_other _ _ _ _ _ (fun e' => e e'.symm), h2]
    split
    · rfl
    · by_cases c : p < m
      · rw [if_pos c, if_pos (by omega)]
      · rw [if_neg c, if_neg (by omega)]
theorem ShiftOf.done {L : List It} {n i m : Nat} {A : List It} (h : ShiftOf L n i m A) (hi : i ≤ m) (hm : m + 1 = n) (hn : L.length = n) : A.take m = L.take i ++ L.drop (i + 1) := by
  apply List.ext_getElem
  · simp [h.1]; omega
  · intro p h1 h2
    have hp : p < m := by rw [List.length_take, h.1] at h1; omega
    have h3 := h.2 p (by omega)
    rw [atI_get A p (by rw [h.1]; omega)] at h3
    rw [List.getElem_take, h3]
    by_cases c : p < i
    · rw [if_pos c, List.getElem_append_left (by rw [List.length_take]; omega), List.getElem_take, atI_get L p (by omega)]
    · rw [if_neg c, if_pos hp, List.getElem_append_right (by rw [List.length_take]; omega), List.getElem_drop, atI_get L (p + 1) (by omega)]
      congr 1
      rw [List.length_take]
      omega


set_option maxHeartbeats 1000000 in
theorem wdropf_any (x y : It) (xb : Nat) (w : World) (hx : Blk w xb 54 (itVs x)) :
    Calls Tryz.prog 132 #[.agg #[.int .u64 y.1, .int .i64 y.2], .pointer (some ⟨xb, 0, none⟩)] w (RetUpd [] w (.bool (decide (y = x)))) := by
  have k0 := hx.cell (j := 0) rfl
  have k1 := hx.cell (j := 1) rfl
  have lx := hx.lt
  have he : decide (y = x) = ((y.1 == x.1) && (y.2 == x.2)) := by
    rw [Bool.eq_iff_iff, decide_eq_true_iff, Bool.and_eq_true, beq_iff_eq, beq_iff_eq, Prod.ext_iff]
  obtain ⟨b, hb⟩ : ∃ b, decide (y = x) = b := ⟨_, rfl⟩
  rw [hb] at he ⊢
  have HE := Lib.hid he
  clear hx he hb
  go_enter Tryz.func132, Tryz.ntmps132
  go_wp2
  all_goals
    go_ret
    exact ⟨ret_bool (by rw [HE.out]; simp [*]), (Upd.refl [] w).alloc _⟩


/-- A row of items of which one goes. -/
structure DelAt (w : World) (g n cap xb i : Nat) (L : List It) (x : It) : Prop where
  row : Row w 54 2 g n cap (L.flatMap itVs)
  len : L.length = n
  hi : i < n
  at_ : atI L i = x
  one : ∀ j, j < n → j ≠ i → atI L j ≠ x
  box : Blk w xb 54 (itVs x)
  ne : xb ≠ g
theorem DelAt.upd {w w' : World} {g n cap xb i : Nat} {L : List It} {x : It} (h : DelAt w g n cap xb i L x) (hu : Upd [] w w') : DelAt w' g n cap xb i L x := { h with row := h.row.upd hu (by simp), box := h.box.upd hu (by simp) }

def IdxL (w : World) (i : Nat) (jv : Value) (wr : World) : Prop := ∃ j : Nat, jv = .int .i64 j ∧ j ≤ i ∧ Upd [] w wr

set_option maxHeartbeats 4000000 in
theorem index_any (g n cap xb i : Nat) (L : List It) (x : It) (w : World) (hsm : n ≤ 1000) (h : DelAt w g n cap xb i L x) :
    Calls Tryz.prog 142 #[.slice (some ⟨g, 0, none⟩) n cap, delV xb] w (RetUpd [] w (.int .i64 i)) := by
  have HD := Lib.hid h
  have hi := h.hi
  clear h
  unfold delV
  go_enter Tryz.func142, Tryz.ntmps142
  go_wp2
  go_loopw [8] (fun jv wr => IdxL w i jv wr) (fun jv _ => n - (intOf jv).toNat)
  case atStart => exact ⟨0, rfl, by omega, Upd.refl _ _⟩
  case round =>
    obtain ⟨j, rfl, hj, hU⟩ := hrel
    have HU := Lib.hid hU
    have t1 : decide (j < n) = true := by simp; omega
    have b1 : (j : Int) < (n : Int) := by omega
    have h2 := HD.out.upd hU
    have hl := h2.row.lt
    obtain ⟨y, hy⟩ : ∃ y, atI L j = y := ⟨_, rfl⟩
    obtain ⟨x0, x1⟩ := item_cells h2.row (i := j) (by rw [h2.len]; omega)
    rw [hy] at x0 x1
    have HY := Lib.hid hy
    clear hU h2 hy
    go_wp2_with fail
    refine (wdropf_any x y xb _ ((HD.out.upd HU.out).box)).mono ?_
    rintro e w3 ⟨rfl, hU3⟩
    by_cases e : j = i
    · have hd : decide (y = x) = true := by have := HD.out.at_; rw [← e, HY.out] at this; simp [this]
      rw [hd]
      subst e
      go_wp2
      go_ret
      exact ⟨rfl, HU.out.trans hU3⟩
    · have hd : decide (y = x) = false := by have := HD.out.one j (by omega) e; rw [HY.out] at this; simp [this]
      rw [hd]
      have HE : Hid (¬ j = i) := e
      clear e hd
      go_wp2
      exact ⟨⟨j + 1, by congr 1, by have := HE.out; omega, HU.out.trans hU3⟩, by first | (simp [intOf]; done) | (simp [intOf]; omega)⟩

def DelL (w : World) (g n cap i : Nat) (L : List It) (mv jv : Value) (wr : World) : Prop :=
  ∃ (m : Nat) (A : List It), mv = .int .i64 m ∧ jv = .int .i64 ((m : Int) + 1) ∧ i ≤ m ∧ m + 1 ≤ n ∧ ShiftOf L n i m A ∧ Row wr 54 2 g n cap (A.flatMap itVs) ∧ Upd [g] w wr

/-- What DeleteFunc leaves. -/
def DelPost (g n cap : Nat) (L : List It) (x : It) (w : World) (e : Ending) (w' : World) : Prop :=
  e = .returned (.slice (some ⟨g, 0, none⟩) (n - 1) cap) ∧ Row w' 54 2 g (n - 1) cap ((dropI L x.2).flatMap itVs) ∧ Upd [g] w w'


set_option maxRecDepth 100000 in
set_option maxHeartbeats 8000000 in
theorem delete_any (g n cap xb i : Nat) (L : List It) (x : It) (w : World) (hsm : n ≤ 1000) (hnd : NdI L) (h : DelAt w g n cap xb i L x) :
    Calls Tryz.prog 131 #[.slice (some ⟨g, 0, none⟩) n cap, delV xb] w (DelPost g n cap L x w) := by
  have HD := Lib.hid h
  have hi := h.hi
  have hcap := h.row.o.cap_le.1
  have HI := Lib.hid (fun w h => index_any g n cap xb i L x w hsm h)
  have t0 : ((i : Int) == -1) = false := by simp
  have HND := Lib.hid hnd
  clear h hnd
  unfold delV at HI ⊢
  go_enter Tryz.func131, Tryz.ntmps131
  go_wp2_with fail
  refine (HI.out w HD.out).mono ?_
  rintro e w1 ⟨rfl, hU1⟩
  have HU1 := Lib.hid hU1
  clear hU1
  go_wp2_with fail
  go_loopw [5, 6] (fun mv jv wr => DelL w g n cap i L mv jv wr) (fun _ jv _ => n - (intOf jv).toNat)
  case atStart => exact ⟨i, L, rfl, rfl, by omega, by omega, ShiftOf.start HD.out.len, HD.out.row.upd HU1.out (by simp), HU1.out.nil⟩
  case round =>
    obtain ⟨m, A, rfl, rfl, him, hmn, hS, hR, hU⟩ := hrel
    have HS := Lib.hid hS
    have HR := Lib.hid hR
    have HU := Lib.hid hU
    have hl := hR.lt
    clear hS hR hU
    by_cases hlt : m + 1 < n
    · have t1 : decide (m + 1 < n) = true := by simp; omega
      have t1' : decide ((m : Int) + 1 < (n : Int)) = true := by simp; omega
      have b1 : (m : Int) + 1 < (n : Int) := by omega
      have b2 : (m : Int) < (n : Int) := by omega
      obtain ⟨y, hy⟩ : ∃ y, atI L (m + 1) = y := ⟨_, rfl⟩
      have hyA : atI A (m + 1) = y := by rw [HS.out.2 (m + 1) hlt, if_neg (by omega), if_neg (by omega), hy]
      obtain ⟨x0, x1⟩ := item_cells HR.out (i := m + 1) (by rw [HS.out.1]; omega)
      rw [hyA] at x0 x1
      obtain ⟨u0, y0⟩ := HR.out.spot (j := m * 2) (by omega)
      obtain ⟨u1, y1⟩ := HR.out.spot (j := m * 2 + 1) (by omega)
      have f0 := HR.out.free (m * 2)
      have f1 := HR.out.free (m * 2 + 1)
      have hno : Hid (decide (y = x) = false) := by have := HD.out.one (m + 1) hlt (by omega); rw [hy] at this; unfold Hid; simp [this]
      have hbx := HD.out.box.upd HU.out (by simp; exact HD.out.ne)
      have HBX := Lib.hid hbx
      have HY := Lib.hid hy
      clear hy hyA hbx
      go_wp2_with fail
      refine (wdropf_any x y xb _ (HBX.out.alloc _)).mono ?_
      rintro e w3 ⟨rfl, hU3⟩
      rw [hno.out]
      have hU13 : Upd [] wr w3 := ((Upd.refl [] wr).alloc _).trans hU3
      have hR3 := HR.out.upd hU13 (by simp)
      obtain ⟨v0, z0⟩ := hR3.spot (j := m * 2) (by omega)
      obtain ⟨v1, z1⟩ := hR3.spot (j := m * 2 + 1) (by omega)
      have g0 := hR3.free (m * 2)
      have g1 := hR3.free (m * 2 + 1)
      have hl3 := hR3.lt
      have hB3 := (Blk.new wr 54 [.int .u64 y.1, .int .i64 y.2]).upd hU3 (by simp)
      have q0 := hB3.cell (j := 0) rfl
      have q1 := hB3.cell (j := 1) rfl
      have HR3 := Lib.hid hR3
      have HU13 := Lib.hid hU13
      clear hU3 hU13 hR3 hB3 x0 x1 y0 y1 f0 f1
      go_wp2
      refine ⟨⟨m + 1, A.set m y, by congr 1, by congr 1, by omega, by omega, ?_, ?_, ((HU.out.trans HU13.out.nil).setCell (by simp) _).setCell (by simp) _⟩, by first | (simp [intOf]; done) | (simp [intOf]; omega)⟩
      · rw [← HY.out]; exact HS.out.step him hlt
      · rw [← item_set A m (by rw [HS.out.1]; omega) y]
        exact (HR3.out.set _ _).set _ _
    · have t1 : decide (m + 1 < n) = false := by simp; omega
      have t1' : decide ((m : Int) + 1 < (n : Int)) = false := by simp; omega
      have hmn1 : Hid (m + 1 = n) := by unfold Hid; omega
      have hnm : n - m = 1 := by omega
      have b1 : m ≤ n := by omega
      have b2 : (m : Int) ≤ (n : Int) := by omega
      have b3 : m ≤ cap := by omega
      have b4 : ¬ cap = m := by omega
      obtain ⟨u0, y0⟩ := HR.out.spot (j := m * 2) (by omega)
      obtain ⟨u1, y1⟩ := HR.out.spot (j := m * 2 + 1) (by omega)
      have f0 := HR.out.free (m * 2)
      have f1 := HR.out.free (m * 2 + 1)
      clear hlt
      go_wp2_with (refine wpList_clear1 _ (by rfl) _ _ (by rfl) 54 _ (.int .u64 0) (.int .i64 0) underlyingItems zeroItem rfl rfl rfl g (m * 2) _ (by rfl) u0 u1 y0 y1 f0 f1 ?_)
      go_ret
      have hn1 : n - 1 = m := by have := hmn1.out; omega
      refine ⟨by rw [hn1]; rfl, ?_, (HU.out.setCell (by simp) _).setCell (by simp) _⟩
      have hr := ((HR.out.set (m * 2) (.int .u64 0)).set (m * 2 + 1) (.int .i64 0)).trunc m (by omega)
      rw [hn1]
      have hx := item_set A m (by rw [HS.out.1]; have := hmn1.out; omega) (0, 0)
      have e2 : (((A.flatMap itVs).set (m * 2) (.int .u64 0)).set (m * 2 + 1) (.int .i64 0)).take (m * 2) = (dropI L x.2).flatMap itVs := by
        have hx' : ((A.flatMap itVs).set (m * 2) (.int .u64 0)).set (m * 2 + 1) (.int .i64 0) = (A.set m (0, 0)).flatMap itVs := hx
        rw [hx', flat_take itVs 2 itVs_len]
        have e3 : (A.set m (0, 0)).take m = A.take m := by
          apply List.ext_getElem
          · simp
          · intro p h1 h2
            rw [List.getElem_take, List.getElem_take, List.getElem_set_ne]
            rw [List.length_take] at h1; omega
        rw [e3, HS.out.done him hmn1.out HD.out.len, cut_list HND.out (by rw [HD.out.len]; exact hi) HD.out.at_]
      rw [e2] at hr
      exact hr
end Go.Proofs.YtolohheflbmfaaaGreatDoor

/-! Wp -/
namespace Go.Proofs.YtolohheflbmfaaaGreatDoor
open Go.RowKit

def setB (s : WS) (q : Nat) (bu : Buc) : WS := { s with bk := fun r => if r = q then bu else s.bk r }
theorem bucket_done {w w1 : World} {wb l b : Nat} {s : WS} {bu : Buc} (h : WhAt w wb s) (hl : l < 3) (hb : b < 64) (ha : bu.ao = (s.bk (l * 64 + b)).ao) (hsm : bu.L.length ≤ 1000) (hU : Upd (blkO bu.ao) w w1)
    (hR : RowO w1 54 2 bu.ao bu.L.length bu.cap (bu.L.flatMap itVs)) :
    WhAt (w1.setCell ⟨wb, 2 + l * 64 + b, none⟩ (.slice bu.ao bu.L.length bu.cap)) wb (setB s (l * 64 + b) bu) := by
  rw [Nat.add_assoc 2]
  have hq : l * 64 + b < 192 := by omega
  have hu : Upd [wb] w1 (w1.setCell ⟨wb, 2 + (l * 64 + b), none⟩ (.slice bu.ao bu.L.length bu.cap)) := (Upd.refl _ _).setCell (by simp) _
  have hnw : wb ∉ blkO bu.ao := fun e => (h.d2 _ hq _ (ha ▸ e)).1 rfl
  have hnm : s.mb ∉ blkO bu.ao := fun e => (h.d2 _ hq _ (ha ▸ e)).2 rfl
  refine { top := ?_, rows := fun q hq' => ?_, map := (h.map.upd hU hnm).upd hu (by simp; exact fun e => h.d1 e.symm), ndm := h.ndm, d1 := h.d1, d2 := fun q hq' c hc => ?_, d3 := fun q hq' r hr hqr c hc => ?_, small := fun q hq' => ?_, b64 := h.b64, wd40 := h.wd40, mw64 := h.mw64, msmall := h.msmall }
  · refine ((h.top.upd hU hnw).set _ _).congr (fun o ho => ?_)
    simp only [setB]
    by_cases e2 : o = 2 + (l * 64 + b)
    · subst e2
      rw [if_pos rfl]
      have := wheelF_bk (setB s (l * 64 + b) bu) hq
      simp only [setB] at this
      rw [this]
      simp
    · rw [if_neg e2]
      unfold wheelF
      simp only []
      split
      · rfl
      split
      · rfl
      split
      · rw [if_neg (by omega)]
      · rfl
  · simp only [setB]
    split
    · exact hR.upd hu (fun c hc => by simp; exact fun e => hnw (e ▸ hc))
    · rename_i hne
      exact ((h.rows q hq').upd hU (fun c hc e => h.d3 q hq' _ hq hne c hc (ha ▸ e))).upd hu (fun c hc => by simp; exact (h.d2 q hq' c hc).1)
  · simp only [setB] at hc
    split at hc
    · rw [ha] at hc; exact h.d2 _ hq c hc
    · exact h.d2 q hq' c hc
  · simp only [setB] at hc ⊢
    split at hc
    · rename_i e1
      rw [if_neg (by omega)]
      rw [ha] at hc
      exact h.d3 _ hq r hr (by omega) c hc
    · rename_i e1
      split
      · rw [ha]; exact h.d3 q hq' _ hq e1 c hc
      · exact h.d3 q hq' r hr hqr c hc
  · simp only [setB]
    split
    · exact hsm
    · exact h.small q hq'

theorem delM_len {M : AL} {k : Int} {v : Value} (h : lookM M k = some v) : (delM M k).length + 1 = M.length := by
  induction M with
  | nil => simp [lookM] at h
  | cons p r ih =>
    obtain ⟨a, x⟩ := p
    simp only [lookM] at h
    simp only [delM]
    by_cases e : k = a
    · rw [if_pos e]; rfl
    · rw [if_neg e] at h ⊢
      rw [List.length_cons, ih h, List.length_cons]

def dropS (s : WS) (l b : Nat) (id : Int) : WS := setB { s with M := delM s.M id } (l * 64 + b) ⟨(s.bk (l * 64 + b)).ao, (s.bk (l * 64 + b)).cap, dropI (s.bk (l * 64 + b)).L id⟩
def DropTo (wb : Nat) (s : WS) (l b : Nat) (id : Int) (w w' : World) : Prop :=
  WhAt w' wb (if dropI (s.bk (l * 64 + b)).L id = [] then emptyS (dropS s l b id) l b else dropS s l b id) ∧ Upd (s.fp wb) w w'


set_option maxRecDepth 100000 in
set_option maxHeartbeats 4000000 in
theorem wdrop_no (wb : Nat) (s : WS) (id : Int) (w : World) (h : WhAt w wb s) (hno : lookM s.M id = none) :
    Calls Tryz.prog 107 #[.pointer (some ⟨wb, 0, none⟩), .int .i64 id] w (RetUpd [] w (itV zIt false)) := by
  have h1 := h.up ((Upd.refl [] w).alloc (.cells #[.int .u64 0, .int .i64 0] 54))
  have c0 := h.top.cell (o := 197) (by omega)
  rw [wheelF_mb] at c0
  have lw := h.top.lt
  have hl := h1.map.look (P := Tryz.prog) underlyingU64Map underlyingInt5 zeroU64 id true
  rw [hno] at hl
  simp only [if_true, Option.getD_none, Option.isSome_none] at hl
  clear h h1 hno
  go_enter Tryz.func107, Tryz.ntmps107
  go_wp2
  exact bodyPost_ret (v := itV zIt false) (by simp [results, Tryz.results107, go_sem, itV, zIt]) rfl ⟨rfl, ((Upd.refl [] w).alloc _)⟩


set_option maxRecDepth 100000 in
set_option maxHeartbeats 8000000 in
theorem wdrop_yes (wb l b k : Nat) (s : WS) (id : Int) (w : World) (hk : k < 18446744073709551616) (h : WhAt w wb s) (hyes : lookM s.M id = some (.int .u64 k)) (hb : s.base ≤ k) (hl : lev3 s.wd s.base k = l) (hl3 : l < 3) (hbe : bucN s.wd k l = b) (i : Nat) (hi : i < (s.bk (l * 64 + b)).L.length) (hat : atI (s.bk (l * 64 + b)).L i = ((k : Int), id)) (hnd : NdI (s.bk (l * 64 + b)).L) :
    Calls Tryz.prog 107 #[.pointer (some ⟨wb, 0, none⟩), .int .i64 id] w (fun e w' => e = .returned (itV ((k : Int), id) true) ∧ DropTo wb s l b id w w') := by
  have HH := Lib.hid h
  have h1 := h.up ((Upd.refl [] w).alloc (.cells #[.int .u64 0, .int .i64 0] 54))
  have HB0 := Lib.hid (Blk.new w 54 [.int .u64 0, .int .i64 0])
  have hlk := h1.map.look (P := Tryz.prog) underlyingU64Map underlyingInt5 zeroU64 id true
  rw [hyes] at hlk
  simp only [if_true, Option.getD_some, Option.isSome_some] at hlk
  obtain ⟨w2, hdel, hto⟩ := h1.map.del (P := Tryz.prog) underlyingU64Map underlyingInt5 id 0
  have HW2 : Hid (WhAt w2 wb { s with M := delM s.M id }) := h1.withM hto (h.ndm.del id) (by have := delM_len hyes; have := h.msmall; omega)
  have hU2 : Upd [s.mb] w w2 := ((Upd.refl [] w).alloc _).nil.trans hto.upd
  have HU2 := Lib.hid hU2
  have c0 := h.top.cell (o := 197) (by omega)
  rw [wheelF_mb] at c0
  have lw := h.top.lt
  have lw2 := HW2.out.top.lt
  have ls2 := hto.size
  have hR0 := HB0.out.upd hto.upd (by simp; have := h.map.lt; omega)
  have HR0 := Lib.hid hR0
  have HHI := Lib.hid hi
  have HAT := Lib.hid hat
  have HND := Lib.hid hnd
  have HPL := Lib.hid (fun w (h : WhAt w wb { s with M := delM s.M id }) => place_yes wb k l hk { s with M := delM s.M id } w h hb hl hl3)
  have HBE := Lib.hid hbe
  have hbl : b < 64 := by rw [← hbe]; exact bucN_lt _ _ _
  have s2 : w.heap.size < w2.heap.size := by simp at ls2; omega
  clear h h1 hyes hto hU2 ls2 hR0 hi hat hnd hb hl hbe
  go_enter Tryz.func107, Tryz.ntmps107
  go_wp2_with fail
  refine (HPL.out _ (HW2.out.up ((Upd.refl [] w2).alloc _))).mono ?_
  rintro e w4 ⟨rfl, hU4⟩
  have hbw : bucN { s with M := delM s.M id }.wd k l = b := HBE.out
  rw [hbw]
  have HW4 := Lib.hid ((HW2.out.up ((Upd.refl [] w2).alloc (.cells #[.int .u64 k, .int .i64 id] 54))).up hU4)
  have HX4 := Lib.hid ((Blk.new w2 54 [.int .u64 k, .int .i64 id]).upd hU4 (by simp))
  have HR4 := Lib.hid ((HR0.out.alloc (.cells #[.int .u64 k, .int .i64 id] 54)).upd hU4 (by simp))
  have HU4 : Hid (Upd [s.mb] w w4) := HU2.out.trans ((Upd.refl [s.mb] w2).alloc _ |>.trans hU4.nil)
  have s4 := hU4.size
  have s4' : w2.heap.size < w4.heap.size := by simp at s4; omega
  clear hU4 s4 hlk hdel c0 lw2 hbw
  obtain ⟨B, hB⟩ : ∃ B, (s.bk (l * 64 + b)).L = B := ⟨_, rfl⟩
  obtain ⟨ao, hao⟩ : ∃ ao, (s.bk (l * 64 + b)).ao = ao := ⟨_, rfl⟩
  obtain ⟨cap, hcap⟩ : ∃ cap, (s.bk (l * 64 + b)).cap = cap := ⟨_, rfl⟩
  have hR4 := HW4.out.rows (l * 64 + b) (by omega)
  have c1 := HW4.out.top.cell (o := 2 + (l * 64 + b)) (by omega)
  rw [wheelF_bk _ (by omega), ← Nat.add_assoc] at c1
  have hd2 := HH.out.d2 (l * 64 + b) (by omega)
  have hsm := HH.out.small (l * 64 + b) (by omega)
  have hlt0 := (HH.out.rows (l * 64 + b) (by omega)).lt
  have hz1 := HW4.out.top.free (2 + l * 64 + b)
  have lw4 := HW4.out.top.lt
  have HS1 : Hid (dropS s l b id = setB { s with M := delM s.M id } (l * 64 + b) ⟨ao, cap, dropI B id⟩) := by unfold Hid dropS; rw [hB, hao, hcap]
  have HBD := Lib.hid (fun w1 (hU : Upd (blkO ao) w4 w1) (hR : RowO w1 54 2 ao (dropI B id).length cap ((dropI B id).flatMap itVs)) => bucket_done (bu := ⟨ao, cap, dropI B id⟩) HW4.out hl3 hbl hao.symm (by rw [← hB]; exact Nat.le_trans (List.length_filter_le _ _) hsm) hU hR)
  have HBL := Lib.hid hB
  simp only [hB, hao, hcap] at HHI HAT HND hR4 c1 hd2 hsm hlt0 ⊢
  obtain ⟨g, hg, hrow⟩ := hR4.row (by have := HHI.out; omega)
  subst hg
  obtain ⟨n, hn⟩ : ∃ n, B.length = n := ⟨_, rfl⟩
  rw [hn] at c1 hsm hrow
  have hgd := hd2 g (by simp [blkO])
  have hgw := hlt0 g (by simp [blkO])
  have HDA : Hid (DelAt w4 g n cap w2.heap.size i B ((k : Int), id)) := { row := hrow, len := hn, hi := by rw [← hn]; exact HHI.out, at_ := HAT.out, one := fun j hj hji e => hji (atI_inj HND.out (by omega) HHI.out (by rw [e, HAT.out])), box := HX4.out, ne := by omega }
  have hcut : (dropI B id).length = n - 1 := by
    have := cut_list HND.out HHI.out HAT.out
    rw [← this, List.length_append, List.length_take, List.length_drop]
    have := HHI.out
    omega
  obtain ⟨n1, hn1⟩ : ∃ n1, n - 1 = n1 := ⟨_, rfl⟩
  rw [hn1] at hcut
  have HN1 := Lib.hid hn1
  have HCUT := Lib.hid hcut
  have HN := Lib.hid hn
  have hwg : wb ≠ g := fun e => hgd.1 e.symm
  have hrg : w.heap.size ≠ g := by omega
  have hxg : w2.heap.size ≠ g := by omega
  have HC1 := Lib.hid c1
  have HZ1 := Lib.hid hz1
  have HGD := Lib.hid hgd
  have HGF : Hid (g ∈ s.fp wb) := WS.mem_fp.2 (.inr (.inr ⟨l * 64 + b, by omega, by rw [hao]; simp [blkO]⟩))
  have bb : (b : Int) < 64 := by omega
  have bl : (l : Int) < 3 := by omega
  clear hB hao hcap hR4 hd2 hlt0 hrow hn hcut hn1 hgd hz1
  go_wp2
  go_region_with (go_at_call 131; refine (delete_any g n cap w2.heap.size i B ((k : Int), id) _ hsm HND.out (HDA.out.upd (Upd.refl [] w4).drew)).mono ?_; rintro e w5 ⟨rfl, hR5, hU5⟩; rw [HN1.out] at hR5 ⊢; have e5 := hU5.cell lw4 (by simpa using hwg) (2 + l * 64 + b); have e5' := e5.trans HC1.out; have z5 := (hU5.frozen lw4 (by simpa using hwg) (2 + l * 64 + b)).trans HZ1.out; have lw5 := Nat.lt_of_lt_of_le lw4 hU5.size; have HR5 := Lib.hid hR5; have HU5 := Lib.hid hU5; clear hR5 hU5 e5)
  all_goals
    obtain ⟨w6, hw6⟩ : ∃ w6, w6 = w5.setCell ⟨wb, 2 + l * 64 + b, none⟩ (.slice (some ⟨g, 0, none⟩) n1 cap) := ⟨_, rfl⟩
    rw [← hw6]
    have HW6 : Hid (WhAt w6 wb (dropS s l b id)) := by
      unfold Hid
      have := HBD.out w5 ((Upd.refl _ w4).drew.trans HU5.out) (by rw [HCUT.out]; exact HR5.out.o)
      rw [HS1.out, hw6]
      simp only [HCUT.out] at this
      exact this
    have hu56 : Upd [wb] w5 w6 := by rw [hw6]; exact (Upd.refl _ _).setCell (by simp) _
    have hu46 : Upd [g, wb] w4 w6 := ((Upd.refl [g, wb] w4).drew.trans (HU5.out.mono (fun i _ hm => by simp at hm; simp [hm]))).trans (hu56.mono (fun i _ hm => by simp at hm; simp [hm]))
    have c6 : w6.cell? ⟨wb, 2 + l * 64 + b, none⟩ = some (.slice (some ⟨g, 0, none⟩) n1 cap) := by rw [hw6]; exact World.cell?_setCell_same _ _ _ e5'
    have lw6 : wb < w6.heap.size := Nat.lt_of_lt_of_le lw5 hu56.size
    have hR6 := HR4.out.upd hu46 (by simp; exact ⟨hrg, by omega⟩)
    have hX6 := HX4.out.upd hu46 (by simp; exact ⟨hxg, by omega⟩)
    have HR6 := Lib.hid hR6
    have HX6 := Lib.hid hX6
    have HU6 : Hid (Upd (s.fp wb) w w6) := (HU4.out.mono (fun i _ hm => by simp at hm; exact WS.mem_fp.2 (.inr (.inl hm)))).trans (hu46.mono (fun i _ hm => by
      simp at hm
      rcases hm with e | e
      · exact e ▸ HGF.out
      · exact WS.mem_fp.2 (.inl e)))
    have k0 := hR6.cell (j := 0) rfl
    have k1 := hR6.cell (j := 1) rfl
    have z0 := hR6.free 0
    have z1 := hR6.free 1
    have lr6 := hR6.lt
    have q0 := hX6.cell (j := 0) rfl
    have q1 := hX6.cell (j := 1) rfl
    have lx6 := hX6.lt
    clear hw6 hu56 hu46 hR6 hX6 e5' z5 c1
    by_cases hz : n1 = 0
    · have t1 : ((n1 : Int) == 0) = true := by simp [hz]
      have hnil : Hid (dropI B id = []) := List.eq_nil_of_length_eq_zero (by rw [HCUT.out]; exact hz)
      clear hz
      go_wp2_with fail
      refine (wempty_any wb l b _ w6 HW6.out hl3 hbl).mono ?_
      rintro e w7 ⟨rfl, hW7, hU7⟩
      have HW7 := Lib.hid hW7
      have hR7 := HR6.out.upd hU7 (by simp; omega)
      have hX7 := HX6.out.upd hU7 (by simp; omega)
      have m0 := hR7.cell (j := 0) rfl
      have m1 := hR7.cell (j := 1) rfl
      have f0 := hR7.free 0
      have f1 := hR7.free 1
      have lr7 := hR7.lt
      have p0 := hX7.cell (j := 0) rfl
      have p1 := hX7.cell (j := 1) rfl
      have lx7 := hX7.lt
      have HU7 : Hid (Upd (s.fp wb) w w7) := HU6.out.trans (hU7.mono (fun i _ hm => by simp at hm; exact WS.mem_fp.2 (.inl hm)))
      clear hW7 hU7 hR7 hX7 k0 k1 z0 z1 q0 q1 c6
      go_wp2
      obtain ⟨s0, s1⟩ := two_set (w := w7) rfl rfl m0 m1 (.int .u64 k) (.int .i64 id)
      refine bodyPost_ret (v := itV ((k : Int), id) true) (by simp [results, Tryz.results107, go_sem, s0, s1, itV]) rfl ⟨rfl, ?_, (HU7.out.setCell (.inr (Nat.le_refl _)) _).setCell (.inr (Nat.le_refl _)) _⟩
      rw [if_pos (by rw [HBL.out]; exact hnil.out)]
      exact HW7.out.upd (((Upd.refl [w.heap.size] w7).setCell (by simp) _).setCell (by simp) _) (fun c hc e => by
        simp at e
        rcases WS.mem_fp.1 (empty_fp hc) with h | h | ⟨q, hq, h⟩
        · omega
        · have := HH.out.map.lt; simp only [dropS, setB] at h; omega
        · simp only [dropS, setB] at h
          split at h
          · have := (HH.out.rows (l * 64 + b) (by omega)).lt c h; omega
          · have := (HH.out.rows q hq).lt c h; omega)
    · have t1 : ((n1 : Int) == 0) = false := by simp [hz]
      have hnil : Hid (dropI B id ≠ []) := fun e => hz (by rw [← HCUT.out, e]; rfl)
      clear hz
      go_wp2
      obtain ⟨s0, s1⟩ := two_set (w := w6) rfl rfl k0 k1 (.int .u64 k) (.int .i64 id)
      refine bodyPost_ret (v := itV ((k : Int), id) true) (by simp [results, Tryz.results107, go_sem, s0, s1, itV]) rfl ⟨rfl, ?_, (HU6.out.setCell (.inr (Nat.le_refl _)) _).setCell (.inr (Nat.le_refl _)) _⟩
      rw [if_neg (by rw [HBL.out]; exact hnil.out)]
      exact HW6.out.upd (((Upd.refl [w.heap.size] w6).setCell (by simp) _).setCell (by simp) _) (fun c hc e => by
        simp at e
        rcases WS.mem_fp.1 hc with h | h | ⟨q, hq, h⟩
        · omega
        · have := HH.out.map.lt; simp only [dropS, setB] at h; omega
        · simp only [dropS, setB] at h
          split at h
          · have := (HH.out.rows (l * 64 + b) (by omega)).lt c h; omega
          · have := (HH.out.rows q hq).lt c h; omega)
end Go.Proofs.YtolohheflbmfaaaGreatDoor

/-! Wq -/
namespace Go.Proofs.YtolohheflbmfaaaGreatDoor
open Go.RowKit

theorem sub_flat {α : Type} (f : Nat → List α) {n q : Nat} (hq : q < n) : (f q).Sublist ((List.range n).flatMap f) := by
  induction n with
  | zero => omega
  | succ n ih =>
    rw [List.range_succ, List.flatMap_append]
    simp only [List.flatMap_cons, List.flatMap_nil, List.append_nil]
    by_cases e : q = n
    · subst e; exact List.sublist_append_right _ _
    · exact (ih (by omega)).trans (List.sublist_append_left _ _)
theorem NdI.sub {A B : List It} (h : NdI B) (hs : A.Sublist B) : NdI A := by unfold NdI at *; exact h.sublist (hs.map _)
theorem dropI_flat (f : Nat → List It) (n : Nat) (id : Int) : dropI ((List.range n).flatMap f) id = (List.range n).flatMap (fun q => dropI (f q) id) := by
  unfold dropI; rw [List.filter_flatMap]
theorem mem_one {f : Nat → List It} {n q r : Nat} (h : NdI ((List.range n).flatMap f)) (hq : q < n) (hr : r < n) {x y : It} (hx : x ∈ f q) (hy : y ∈ f r) (e : x.2 = y.2) : q = r := by
  induction n with
  | zero => omega
  | succ n ih =>
    rw [List.range_succ, List.flatMap_append] at h
    simp only [List.flatMap_cons, List.flatMap_nil, List.append_nil] at h
    have h0 := h
    unfold NdI at h
    rw [List.map_append, List.nodup_append] at h
    obtain ⟨h1, _, h3⟩ := h
    have hin : ∀ {p : Nat} {z : It}, p < n → z ∈ f p → z.2 ∈ ((List.range n).flatMap f).map (·.2) := fun hp hz => List.mem_map_of_mem (List.mem_flatMap.2 ⟨_, List.mem_range.2 hp, hz⟩)
    by_cases c1 : q = n
    · by_cases c2 : r = n
      · omega
      · exact absurd e (fun e => h3 _ (hin (by omega) hy) x.2 (List.mem_map_of_mem (c1 ▸ hx)) e.symm)
    · by_cases c2 : r = n
      · exact absurd e (fun e => h3 _ (hin (by omega) hx) y.2 (List.mem_map_of_mem (c2 ▸ hy)) e)
      · exact ih h1 (by omega) (by omega)
theorem find_dropI {L : List It} (id j : Int) : findI (dropI L id) j = if j = id then none else findI L j := by
  unfold findI dropI
  induction L with
  | nil => simp
  | cons x r ih =>
    rw [List.filter_cons]
    by_cases c : x.2 = id
    · have h1 : (!(x.2 == id)) = false := by simp [c]
      rw [h1]
      simp only [Bool.false_eq_true, if_false]
      rw [ih, List.find?_cons]
      by_cases d : j = id
      · rw [if_pos d, if_pos d]
      · have h2 : (x.2 == j) = false := by simp [c]; exact fun e => d e.symm
        rw [if_neg d, if_neg d, h2]
    · have h1 : (!(x.2 == id)) = true := by simp [c]
      rw [h1]
      simp only [if_true]
      rw [List.find?_cons, List.find?_cons, ih]
      by_cases d : j = id
      · have h2 : (x.2 == j) = false := by rw [d]; simp [c]
        rw [if_pos d, h2, if_pos d]
      · rw [if_neg d, if_neg d]


/-- Where an item of a wheel lies. -/
theorem wok_place {s : WS} {L : List It} (h : WOk s L) {id : Int} {x : It} (hf : findI L id = some x) :
    x.2 = id ∧ x.1 = (kn x : Int) ∧ kn x < 18446744073709551616 ∧ s.base ≤ kn x ∧ lev3 s.wd s.base (kn x) < 3 ∧
    ∃ i, i < (s.bk (lev3 s.wd s.base (kn x) * 64 + bucN s.wd (kn x) (lev3 s.wd s.base (kn x)))).L.length ∧ atI (s.bk (lev3 s.wd s.base (kn x) * 64 + bucN s.wd (kn x) (lev3 s.wd s.base (kn x)))).L i = x ∧ NdI (s.bk (lev3 s.wd s.base (kn x) * 64 + bucN s.wd (kn x) (lev3 s.wd s.base (kn x)))).L := by
  obtain ⟨hx, hid⟩ := findI_mem hf
  have hk := h.key x hx
  obtain ⟨q, hq, hxq⟩ := mem_allB.1 (h.perm.mem_iff.2 hx)
  have hp := h.pl q hq x hxq
  unfold okP at hp
  have hl : lev3 s.wd s.base (kn x) < 3 := by omega
  have hqe : lev3 s.wd s.base (kn x) * 64 + bucN s.wd (kn x) (lev3 s.wd s.base (kn x)) = q := by
    rw [hp.1, hp.2]; omega
  obtain ⟨i, hi, e⟩ := List.getElem_of_mem hxq
  refine ⟨hid, kn_cast hk.1, by unfold kn; have := hk.1.1; have := hk.1.2; omega, hk.2, hl, i, by rw [hqe]; exact hi, by rw [hqe, atI_get _ i hi]; exact e, ?_⟩
  rw [hqe]
  have hnd : NdI (allB s) := h.nd.perm h.perm.symm
  exact hnd.sub (sub_flat (fun q => (s.bk q).L) hq)

theorem wok_drop {s : WS} {L : List It} (h : WOk s L) (hndm : NdM s.M) (h64 : ∀ l, l < 3 → s.mw l < 18446744073709551616) {id : Int} {x : It} (hf : findI L id = some x) {l b : Nat} (hl : lev3 s.wd s.base (kn x) = l) (hb : bucN s.wd (kn x) l = b) :
    WOk (if dropI (s.bk (l * 64 + b)).L id = [] then emptyS (dropS s l b id) l b else dropS s l b id) (dropI L id) := by
  obtain ⟨hid, hk1, hk2, hk3, hl3, i, hi, hat, hndB⟩ := wok_place h hf
  rw [hl] at hl3
  rw [hl, hb] at hi hat hndB
  have hb64 : b < 64 := by rw [← hb]; exact bucN_lt _ _ _
  have hq : l * 64 + b < 192 := by omega
  have hnd : NdI (allB s) := h.nd.perm h.perm.symm
  have hxB : x ∈ (s.bk (l * 64 + b)).L := by rw [← hat, atI_get _ i hi]; exact List.getElem_mem _
  have hother : ∀ q, q < 192 → q ≠ l * 64 + b → dropI (s.bk q).L id = (s.bk q).L := by
    intro q hq' hne
    apply dropI_none
    rw [hasI_no]
    intro y hy e
    exact hne (mem_one (f := fun q => (s.bk q).L) hnd hq' hq hy hxB (e.trans hid.symm))
  have hlen : (dropI L id).length + 1 = L.length := by
    obtain ⟨j, hj, e⟩ := List.getElem_of_mem (findI_mem hf).1
    have hc := cut_list h.nd hj (x := x) (by rw [atI_get L j hj]; exact e)
    rw [hid] at hc
    rw [← hc, List.length_append, List.length_take, List.length_drop]
    omega
  have hlook : lookM s.M id = some (.int .u64 x.1) := by rw [h.keys, hf]; rfl
  have hml := delM_len hlook
  obtain ⟨s', hs'⟩ : ∃ s', (if dropI (s.bk (l * 64 + b)).L id = [] then emptyS (dropS s l b id) l b else dropS s l b id) = s' := ⟨_, rfl⟩
  have hbk : ∀ q, (s'.bk q).L = if q = l * 64 + b then dropI (s.bk (l * 64 + b)).L id else (s.bk q).L := by
    intro q
    rw [← hs']
    split
    · rename_i hnil
      simp only [emptyS, dropS, setB]
      split
      · rw [hnil]; rfl
      · rfl
    · simp only [dropS, setB]
      split <;> rfl
  have hmeta : s'.base = s.base ∧ s'.wd = s.wd ∧ s'.M = delM s.M id := by
    rw [← hs']
    split <;> exact ⟨rfl, rfl, rfl⟩
  have hmw : ∀ j, s'.mw j = if dropI (s.bk (l * 64 + b)).L id = [] then (if j = l then andNB (s.mw l) b else s.mw j) else s.mw j := by
    intro j
    rw [← hs']
    split <;> rfl
  rw [hs']
  refine { srt := dropI_srt h.srt id, nd := dropI_nd h.nd id, len := by have := h.len; omega, perm := ?_, key := fun y hy => ?_, pl := fun q hq' y hy => ?_, bits := fun j hj c hc => ?_, keys := fun j => ?_, mlen := ?_ }
  · have e : allB s' = dropI (allB s) id := by
      unfold allB
      rw [dropI_flat]
      refine flat_congr (fun q hq' => ?_)
      rw [List.mem_range] at hq'
      rw [hbk q]
      split
      · rename_i e; rw [e]
      · rename_i e; rw [hother q hq' e]
    rw [e]
    exact dropI_perm h.perm id
  · rw [hmeta.1]
    unfold dropI at hy
    exact h.key y (List.mem_filter.1 hy).1
  · rw [hmeta.1, hmeta.2.1]
    rw [hbk q] at hy
    split at hy
    · rename_i e
      unfold dropI at hy
      exact h.pl q hq' y (by rw [e]; exact (List.mem_filter.1 hy).1)
    · exact h.pl q hq' y hy
  · have e1 : (s'.bk (j * 64 + c)).L.length = if j * 64 + c = l * 64 + b then (dropI (s.bk (l * 64 + b)).L id).length else (s.bk (j * 64 + c)).L.length := by
      rw [hbk]; split <;> rfl
    rw [e1, hmw j]
    by_cases hn : dropI (s.bk (l * 64 + b)).L id = []
    · rw [if_pos hn, hn]
      by_cases e : j = l
      · subst e
        rw [if_pos rfl, andNB_bit _ _ _ hb64 (h64 j hj), h.bits j hj c hc]
        by_cases e2 : c = b
        · subst e2; simp
        · have h3 : ¬ (j * 64 + c = j * 64 + b) := by omega
          rw [if_neg h3]
          simp [Ne.symm e2]
      · have h3 : ¬ (j * 64 + c = l * 64 + b) := by omega
        rw [if_neg e, if_neg h3, h.bits j hj c hc]
    · rw [if_neg hn, h.bits j hj c hc]
      by_cases e : j * 64 + c = l * 64 + b
      · rw [if_pos e, e]
        have p1 : 0 < (dropI (s.bk (l * 64 + b)).L id).length := List.length_pos_iff.2 hn
        have p2 : 0 < (s.bk (l * 64 + b)).L.length := by omega
        simp [p1, p2]
      · rw [if_neg e]
  · rw [hmeta.2.2, lookM_del hndm, find_dropI, h.keys]
    split <;> rfl
  · rw [hmeta.2.2]
    have := h.mlen
    omega

theorem WG.drop {W w : World} {wb base wd : Nat} {L : List It} {fp : List Nat} (h : WG W wb base wd L fp w) (id : Int) :
    Calls Tryz.prog 107 #[.pointer (some ⟨wb, 0, none⟩), .int .i64 id] w (fun e w' => e = .returned (dropV L id) ∧ WGTo W wb base wd (dropI L id) fp w w') := by
  have h0 := h
  obtain ⟨s, h1, h2, rfl, rfl, rfl, h3, h4, h5⟩ := h
  cases hf : findI L id with
  | none =>
    have hno : lookM s.M id = none := by rw [h2.keys, hf]; rfl
    refine (wdrop_no wb s id w h1 hno).mono ?_
    rintro e w' ⟨rfl, hU⟩
    have hd : dropI L id = L := dropI_none (findI_none.1 hf)
    rw [hd]
    exact ⟨by unfold dropV; rw [hf], h0.step (h1.up hU) h2 rfl rfl (Fr.of hU)⟩
  | some x =>
    obtain ⟨hid, hk1, hk2, hk3, hl3, i, hi, hat, hndB⟩ := wok_place h2 hf
    obtain ⟨l, hl⟩ : ∃ l, lev3 s.wd s.base (kn x) = l := ⟨_, rfl⟩
    obtain ⟨b, hb⟩ : ∃ b, bucN s.wd (kn x) l = b := ⟨_, rfl⟩
    rw [hl] at hl3
    rw [hl, hb] at hi hat hndB
    have hlook : lookM s.M id = some (.int .u64 (kn x)) := by rw [h2.keys, hf, ← hk1]; rfl
    have hxe : x = ((kn x : Int), id) := by rw [← hk1, ← hid]
    refine (wdrop_yes wb l b (kn x) s id w hk2 h1 hlook hk3 hl hl3 hb i hi (by rw [hat]; exact hxe) hndB).mono ?_
    rintro e w' ⟨rfl, hW, hU⟩
    refine ⟨by unfold dropV; rw [hf, ← hxe], ?_⟩
    have hok := wok_drop h2 h1.ndm h1.mw64 hf hl hb
    refine h0.step hW hok ?_ ?_ ⟨fun c hc => ?_, hU⟩
    · split <;> rfl
    · split <;> rfl
    · left
      have hdf : ∀ c, c ∈ (dropS s l b id).fp wb → c ∈ s.fp wb := by
        intro c hc
        have hb64 : b < 64 := by rw [← hb]; exact bucN_lt _ _ _
        rcases WS.mem_fp.1 hc with e | e | ⟨q, hq, e⟩
        · exact WS.mem_fp.2 (.inl e)
        · exact WS.mem_fp.2 (.inr (.inl e))
        · simp only [dropS, setB] at e
          split at e
          · exact WS.mem_fp.2 (.inr (.inr ⟨l * 64 + b, by omega, e⟩))
          · exact WS.mem_fp.2 (.inr (.inr ⟨q, hq, e⟩))
      split at hc
      · exact hdf c (empty_fp hc)
      · exact hdf c hc
end Go.Proofs.YtolohheflbmfaaaGreatDoor

/-! Wr -/
namespace Go.Proofs.YtolohheflbmfaaaGreatDoor
open Go.RowKit

def popB (base : Nat) (L : List It) : Nat := match L with | [] => base | x :: _ => kn x
theorem WG.head {W w : World} {wb base wd : Nat} {x : It} {L : List It} {fp : List Nat} (h : WG W wb base wd (x :: L) fp w) : x.1 = (kn x : Int) ∧ kn x < 18446744073709551616 ∧ base ≤ kn x := by
  obtain ⟨s, h1, h2, rfl, rfl, rfl, h3, h4, h5⟩ := h
  have hk := h2.key x (by simp)
  exact ⟨kn_cast hk.1, by unfold kn; have := hk.1.1; have := hk.1.2; omega, hk.2⟩
theorem WG.rows {W w : World} {wb base wd : Nat} {L : List It} {fp : List Nat} (h : WG W wb base wd L fp w) : ∀ x ∈ L, x.1 = (kn x : Int) := by
  obtain ⟨s, h1, h2, rfl, rfl, rfl, h3, h4, h5⟩ := h
  intro x hx
  exact kn_cast (h2.key x hx).1
theorem WG.movT {W w : World} {wb base wd : Nat} {x : It} {L : List It} {fp : List Nat} (h : WG W wb base wd (x :: L) fp w) : movB base L (kn x) = true := by
  have h1 := h.head
  have h2 := h.srt
  have h3 := h.rows
  unfold movB
  rw [Bool.and_eq_true]
  refine ⟨by simpa using h1.2.2, ?_⟩
  rw [List.all_eq_true]
  intro y hy
  have h4 := (List.pairwise_cons.1 h2).1 y hy
  have e1 := h3 y (by simp [hy])
  have e2 := h1.1
  simp
  simp [ahead] at h4
  omega


end Go.Proofs.YtolohheflbmfaaaGreatDoor
