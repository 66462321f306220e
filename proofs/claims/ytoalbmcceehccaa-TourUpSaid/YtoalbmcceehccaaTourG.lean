/-
  The plain law of the tour: the nodes tell who wins below them, and a play keeps that so; so the tour's Node is the reference's. No condition.
-/
import Derived.Test.YtoalbmcceehccaaTourS
namespace Go.Proofs.Ytoalbmcceehccaa

theorem ahead_iff (a b : It) : ahead a b = true ↔ (a.1 < b.1 ∨ (a.1 = b.1 ∧ a.2 < b.2)) := by simp [ahead]
theorem ahead_no (a b : It) : ahead a b = false ↔ ¬ (a.1 < b.1 ∨ (a.1 = b.1 ∧ a.2 < b.2)) := by rw [← ahead_iff]; simp

/-- b is who wins of the first n leaves below node k. -/
def IsWin (L : List Leaf) (size k n : Nat) (b : Int) : Prop :=
  (b = -1 ∧ ∀ i, i < n → up (size + i) k = k → (L.getD i zLeaf).2 = false) ∨
  (∃ j : Nat, b = j ∧ j < n ∧ up (size + j) k = k ∧ (L.getD j zLeaf).2 = true ∧
    ∀ i, i < n → up (size + i) k = k → (L.getD i zLeaf).2 = true → ahead (L.getD i zLeaf).1 (L.getD j zLeaf).1 = false ∧ (ahead (L.getD j zLeaf).1 (L.getD i zLeaf).1 = true ∨ j ≤ i))

theorem IsWin.one {L : List Leaf} {size k n : Nat} {b c : Int} (h : IsWin L size k n b) (g : IsWin L size k n c) : b = c := by
  rcases h with ⟨rfl, h⟩ | ⟨j, rfl, hj, hu, hh, h⟩ <;> rcases g with ⟨rfl, g⟩ | ⟨j', rfl, gj, gu, gh, g⟩
  · rfl
  · have := h j' gj gu; rw [gh] at this; cases this
  · have := g j hj hu; rw [hh] at this; cases this
  · have a := h j' gj gu gh
    have c := g j hj hu hh
    rw [c.1] at a
    rw [a.1] at c
    simp at a c
    omega

def RelL (L : List Leaf) (has : List Bool) (xs : List It) : Prop :=
  has.length = L.length ∧ (∀ i, i < L.length → has.getD i false = (L.getD i zLeaf).2) ∧ ∀ i, i < L.length → (L.getD i zLeaf).2 = true → xs.getD i zIt = (L.getD i zLeaf).1

theorem scan_wins {L : List Leaf} {has : List Bool} {xs : List It} (hr : RelL L has xs) (size k : Nat) : ∀ (m i : Nat) (best : Int), i + m = L.length → IsWin L size k i best → IsWin L size k L.length (scanF has xs size k m i best) := by
  intro m
  induction m with
  | zero => intro i best hi h; simp only [scanF]; rw [← hi]; exact h
  | succ m ih =>
    intro i best hi h
    simp only [scanF]
    refine ih (i + 1) _ (by omega) ?_
    have hil : i < L.length := by omega
    have hhas := hr.2.1 i hil
    by_cases hup : up (size + i) k = k
    · cases hL : (L.getD i zLeaf).2 with
      | false =>
        rw [takes_no2 (by rw [hhas, hL])]
        simp only [Bool.false_eq_true, if_false]
        rcases h with ⟨rfl, h⟩ | ⟨j, rfl, hj, hu, hh, h⟩
        · refine .inl ⟨rfl, fun i' hi' hu' => ?_⟩
          rcases Nat.lt_succ_iff_lt_or_eq.1 hi' with hlt | rfl
          · exact h i' hlt hu'
          · exact hL
        · refine .inr ⟨j, rfl, by omega, hu, hh, fun i' hi' hu' hh' => ?_⟩
          rcases Nat.lt_succ_iff_lt_or_eq.1 hi' with hlt | rfl
          · exact h i' hlt hu' hh'
          · rw [hL] at hh'; cases hh'
      | true =>
        have hxi : xAt xs i = (L.getD i zLeaf).1 := by unfold xAt; rw [Int.toNat_natCast]; exact hr.2.2 i hil hL
        rcases h with ⟨rfl, h⟩ | ⟨j, rfl, hj, hu, hh, h⟩
        · rw [takes_yes hup (by rw [hhas, hL]) (by omega), if_pos rfl]
          refine .inr ⟨i, rfl, by omega, hup, hL, fun i' hi' hu' hh' => ?_⟩
          rcases Nat.lt_succ_iff_lt_or_eq.1 hi' with hlt | rfl
          · have := h i' hlt hu'; rw [hh'] at this; cases this
          · exact ⟨by rw [ahead_no]; omega, .inr (Nat.le_refl _)⟩
        · have hxj : xAt xs j = (L.getD j zLeaf).1 := by unfold xAt; rw [Int.toNat_natCast]; exact hr.2.2 j (by omega) hh
          rw [takes_as hup (by rw [hhas, hL]) (by omega), hxi, hxj]
          cases ha : ahead (L.getD i zLeaf).1 (L.getD j zLeaf).1 with
          | false =>
            simp only [Bool.false_eq_true, if_false]
            refine .inr ⟨j, rfl, by omega, hu, hh, fun i' hi' hu' hh' => ?_⟩
            rcases Nat.lt_succ_iff_lt_or_eq.1 hi' with hlt | rfl
            · exact h i' hlt hu' hh'
            · exact ⟨ha, .inr (by omega)⟩
          | true =>
            rw [if_pos rfl]
            refine .inr ⟨i, rfl, by omega, hup, hL, fun i' hi' hu' hh' => ?_⟩
            rcases Nat.lt_succ_iff_lt_or_eq.1 hi' with hlt | rfl
            · have := (h i' hlt hu' hh').1
              rw [ahead_no] at this
              rw [ahead_iff] at ha
              exact ⟨by rw [ahead_no]; omega, .inl (by rw [ahead_iff]; omega)⟩
            · exact ⟨by rw [ahead_no]; omega, .inr (Nat.le_refl _)⟩
    · rw [takes_no1 hup]
      simp only [Bool.false_eq_true, if_false]
      rcases h with ⟨rfl, h⟩ | ⟨j, rfl, hj, hu, hh, h⟩
      · refine .inl ⟨rfl, fun i' hi' hu' => ?_⟩
        rcases Nat.lt_succ_iff_lt_or_eq.1 hi' with hlt | rfl
        · exact h i' hlt hu'
        · exact absurd hu' hup
      · refine .inr ⟨j, rfl, by omega, hu, hh, fun i' hi' hu' hh' => ?_⟩
        rcases Nat.lt_succ_iff_lt_or_eq.1 hi' with hlt | rfl
        · exact h i' hlt hu' hh'
        · exact absurd hu' hup

/-! ### What lies below a node -/
set_option maxRecDepth 100000 in
theorem split16 : ∀ a, a < 16 → ∀ k, k < 16 → 1 ≤ k → (up (16 + a) k = k ↔ (up (16 + a) (2 * k) = 2 * k ∨ up (16 + a) (2 * k + 1) = 2 * k + 1)) := by decide
set_option maxRecDepth 100000 in
theorem split8 : ∀ a, a < 8 → ∀ k, k < 8 → 1 ≤ k → (up (8 + a) k = k ↔ (up (8 + a) (2 * k) = 2 * k ∨ up (8 + a) (2 * k + 1) = 2 * k + 1)) := by decide
set_option maxRecDepth 100000 in
theorem split4 : ∀ a, a < 4 → ∀ k, k < 4 → 1 ≤ k → (up (4 + a) k = k ↔ (up (4 + a) (2 * k) = 2 * k ∨ up (4 + a) (2 * k + 1) = 2 * k + 1)) := by decide
theorem split2 : ∀ a, a < 2 → ∀ k, k < 2 → 1 ≤ k → (up (2 + a) k = k ↔ (up (2 + a) (2 * k) = 2 * k ∨ up (2 + a) (2 * k + 1) = 2 * k + 1)) := by decide
def ordOk (n : Nat) : Bool := (List.range n).all fun k => (List.range n).all fun a => (List.range n).all fun b =>
  !(decide (1 ≤ k) && decide (up (n + a) (2 * k) = 2 * k) && decide (up (n + b) (2 * k + 1) = 2 * k + 1)) || decide (a < b)
theorem order_of {n : Nat} (h : ordOk n = true) : ∀ k, k < n → ∀ a, a < n → ∀ b, b < n → 1 ≤ k → up (n + a) (2 * k) = 2 * k → up (n + b) (2 * k + 1) = 2 * k + 1 → a < b := by
  intro k hk a ha b hb hk1 h1 h2
  have := List.all_eq_true.1 (List.all_eq_true.1 (List.all_eq_true.1 h k (List.mem_range.2 hk)) a (List.mem_range.2 ha)) b (List.mem_range.2 hb)
  simpa [hk1, h1, h2] using this
theorem order16 : ordOk 16 = true := by decide +kernel
theorem order8 : ordOk 8 = true := by decide +kernel
theorem order4 : ordOk 4 = true := by decide +kernel
theorem order2 : ordOk 2 = true := by decide +kernel

theorem below_split {size : Nat} (hp : Pow size) {a k : Nat} (ha : a < size) (hk : k < size) (hk1 : 1 ≤ k) : up (size + a) k = k ↔ (up (size + a) (2 * k) = 2 * k ∨ up (size + a) (2 * k + 1) = 2 * k + 1) := by
  rcases hp with rfl | rfl | rfl | rfl | rfl
  · omega
  · exact split2 a ha k hk hk1
  · exact split4 a ha k hk hk1
  · exact split8 a ha k hk hk1
  · exact split16 a ha k hk hk1
theorem below_order {size : Nat} (hp : Pow size) {a b k : Nat} (ha : a < size) (hb : b < size) (hk : k < size) (hk1 : 1 ≤ k) (h1 : up (size + a) (2 * k) = 2 * k) (h2 : up (size + b) (2 * k + 1) = 2 * k + 1) : a < b := by
  rcases hp with rfl | rfl | rfl | rfl | rfl
  · omega
  · exact order_of order2 k hk a ha b hb hk1 h1 h2
  · exact order_of order4 k hk a ha b hb hk1 h1 h2
  · exact order_of order8 k hk a ha b hb hk1 h1 h2
  · exact order_of order16 k hk a ha b hb hk1 h1 h2

theorem win_leaf {L : List Leaf} {size i : Nat} (hL : L.length ≤ size) (hi : i < size) : IsWin L size (size + i) L.length (if (L.getD i zLeaf).2 = true then (i : Int) else -1) := by
  have hup : ∀ j, j < size → (up (size + j) (size + i) = size + i ↔ j = i) := by
    intro j hj
    by_cases h : j ≤ i
    · rw [up_le _ _ (by omega)]; omega
    · rw [up_half _ _ (by omega) (by omega), up_le _ _ (by omega)]; omega
  by_cases hiL : i < L.length
  · cases h : (L.getD i zLeaf).2 with
    | false =>
      rw [if_neg (by simp)]
      refine .inl ⟨rfl, fun j hj hu => ?_⟩
      rw [(hup j (by omega)).1 hu]; exact h
    | true =>
      rw [if_pos rfl]
      refine .inr ⟨i, rfl, hiL, (hup i hi).2 rfl, h, fun j hj hu _ => ?_⟩
      rw [(hup j (by omega)).1 hu]
      exact ⟨by rw [ahead_no]; omega, .inr (Nat.le_refl _)⟩
  · have h : (L.getD i zLeaf).2 = false := by rw [List.getD_eq_getElem?_getD, List.getElem?_eq_none (by omega)]; rfl
    rw [if_neg (by rw [h]; simp)]
    refine .inl ⟨rfl, fun j hj hu => ?_⟩
    rw [(hup j (by omega)).1 hu]; exact h

theorem win_node {L : List Leaf} {size k : Nat} (hp : Pow size) (hL : L.length ≤ size) (hk : k < size) (hk1 : 1 ≤ k) {a b : Int} (ha : IsWin L size (2 * k) L.length a) (hb : IsWin L size (2 * k + 1) L.length b) : IsWin L size k L.length (betterF L a b) := by
  have hs : ∀ i, i < L.length → (up (size + i) k = k ↔ (up (size + i) (2 * k) = 2 * k ∨ up (size + i) (2 * k + 1) = 2 * k + 1)) := fun i hi => below_split hp (by omega) hk hk1
  rcases ha with ⟨rfl, ha⟩ | ⟨j, rfl, hj, hu, hh, ha⟩ <;> rcases hb with ⟨rfl, hb⟩ | ⟨j', rfl, gj, gu, gh, hb⟩
  · rw [betterF_neg _ _ _ (by omega)]
    refine .inl ⟨rfl, fun i hi h => ?_⟩
    rcases (hs i hi).1 h with h | h
    · exact ha i hi h
    · exact hb i hi h
  · rw [betterF_neg _ _ _ (by omega)]
    refine .inr ⟨j', rfl, gj, (hs j' gj).2 (.inr gu), gh, fun i hi h hh' => ?_⟩
    rcases (hs i hi).1 h with h | h
    · have := ha i hi h; rw [hh'] at this; cases this
    · exact hb i hi h hh'
  · rw [betterF_bneg _ _ _ (by omega) (by omega)]
    refine .inr ⟨j, rfl, hj, (hs j hj).2 (.inl hu), hh, fun i hi h hh' => ?_⟩
    rcases (hs i hi).1 h with h | h
    · exact ha i hi h hh'
    · have := hb i hi h; rw [hh'] at this; cases this
  · rw [betterF_both _ _ _ (by omega) (by omega)]
    unfold leafAt
    simp only [Int.toNat_natCast]
    by_cases hab : ahead (L.getD j' zLeaf).1 (L.getD j zLeaf).1 = true
    · rw [if_pos hab]
      rw [ahead_iff] at hab
      refine .inr ⟨j', rfl, gj, (hs j' gj).2 (.inr gu), gh, fun i hi h hh' => ?_⟩
      rcases (hs i hi).1 h with h | h
      · have := (ha i hi h hh').1
        rw [ahead_no] at this
        exact ⟨by rw [ahead_no]; omega, .inl (by rw [ahead_iff]; omega)⟩
      · exact hb i hi h hh'
    · rw [if_neg hab]
      rw [ahead_iff] at hab
      refine .inr ⟨j, rfl, hj, (hs j hj).2 (.inl hu), hh, fun i hi h hh' => ?_⟩
      rcases (hs i hi).1 h with h | h
      · exact ha i hi h hh'
      · have hb1 := (hb i hi h hh').1
        have hlt := below_order hp (by omega) (by omega) hk hk1 hu h
        rw [ahead_no] at hb1
        exact ⟨by rw [ahead_no]; omega, .inr (by omega)⟩

theorem good_wins {L : List Leaf} {size : Nat} {N : List Int} (hg : Good L size N) (hp : Pow size) (hL : L.length ≤ size) : ∀ (d k : Nat), 2 * size - k = d → 1 ≤ k → k < 2 * size → IsWin L size k L.length (N.getD k (-1)) := by
  intro d
  induction d using Nat.strongRecOn with
  | ind d ih =>
    intro k hd hk1 hk2
    by_cases h : k < size
    · rw [hg.node k hk1 h]
      exact win_node hp hL h hk1 (ih (2 * size - 2 * k) (by omega) (2 * k) rfl (by omega) (by omega)) (ih (2 * size - (2 * k + 1)) (by omega) (2 * k + 1) rfl (by omega) (by omega))
    · obtain ⟨i, rfl⟩ : ∃ i, k = size + i := ⟨k - size, by omega⟩
      rw [hg.leaf i (by omega)]
      exact win_leaf hL (by omega)

/-- The reference's Node is the tour's. -/
theorem scan_is {L : List Leaf} {size : Nat} {N : List Int} {has : List Bool} {xs : List It} (hg : Good L size N) (hp : Pow size) (hL : L.length ≤ size) (hr : RelL L has xs) {k : Nat} (hk1 : 1 ≤ k) (hk2 : k < 2 * size) :
    scanF has xs size k L.length 0 (-1) = N.getD k (-1) :=
  (scan_wins hr size k L.length 0 (-1) (by omega) (.inl ⟨rfl, fun i hi => absurd hi (by omega)⟩)).one (good_wins hg hp hL _ k rfl hk1 hk2)

/-! ### A play keeps the nodes good -/
theorem getD_set_same {α : Type} (l : List α) (i : Nat) (x d : α) (h : i < l.length) : (l.set i x).getD i d = x := by simp [List.getD_eq_getElem?_getD, h]
theorem getD_set_other {α : Type} (l : List α) (i j : Nat) (x d : α) (h : i ≠ j) : (l.set i x).getD j d = l.getD j d := by simp [List.getD_eq_getElem?_getD, h]

/-- All nodes are good but those on the way up from k. -/
structure GoodBut (L : List Leaf) (size k : Nat) (N : List Int) : Prop where
  len : N.length = 2 * size
  leaf : ∀ i, i < size → N.getD (size + i) (-1) = if (L.getD i zLeaf).2 = true then (i : Int) else -1
  node : ∀ j, 1 ≤ j → j < size → up k j ≠ j → N.getD j (-1) = betterF L (N.getD (2 * j) (-1)) (N.getD (2 * j + 1) (-1))

theorem up_lt (m : Nat) : ∀ k, 1 ≤ k → up m k ≤ k := by
  induction m using Nat.strongRecOn with
  | ind m ih =>
    intro k hk
    by_cases h : m ≤ k
    · rw [up_le _ _ h]; exact h
    · rw [up_half _ _ hk (by omega)]; exact ih (m / 2) (by omega) k hk

theorem climb_good (L : List Leaf) (size : Nat) : ∀ (k f : Nat) (N : List Int), k < size → k ≤ f → GoodBut L size k N → Good L size (climb L f k N) := by
  intro k
  induction k using Nat.strongRecOn with
  | ind k ih =>
    intro f N hk hf hg
    rcases Nat.eq_zero_or_pos k with rfl | hk0
    · rw [climb_zero]
      refine ⟨hg.len, hg.leaf, fun j h1 h2 => hg.node j h1 h2 ?_⟩
      rw [up_le _ _ (by omega)]; omega
    · rw [climb_step L f k N hk0 hf]
      have hl := hg.len
      refine ih (k / 2) (by omega) _ _ (by omega) (by omega) ⟨by rw [List.length_set, hl], fun i hi => ?_, fun j h1 h2 hu => ?_⟩
      · rw [getD_set_other _ _ _ _ _ (by omega)]; exact hg.leaf i hi
      · by_cases e : j = k
        · subst e
          rw [getD_set_same _ _ _ _ (by omega), getD_set_other _ _ _ _ _ (by omega), getD_set_other _ _ _ _ _ (by omega)]
        · rw [getD_set_other _ _ _ _ _ (fun h => e h.symm)]
          have hnu : up k j ≠ j := by
            by_cases hjk : j < k
            · rw [up_half k j h1 hjk]; exact hu
            · rw [up_le k j (by omega)]; omega
          have h2j : 2 * j ≠ k ∧ 2 * j + 1 ≠ k := by
            refine ⟨fun h => hu ?_, fun h => hu ?_⟩
            · rw [← h, show 2 * j / 2 = j by omega, up_le _ _ (Nat.le_refl _)]
            · rw [← h, show (2 * j + 1) / 2 = j by omega, up_le _ _ (Nat.le_refl _)]
          rw [getD_set_other _ _ _ _ _ (fun h => h2j.1 h.symm), getD_set_other _ _ _ _ _ (fun h => h2j.2 h.symm)]
          exact hg.node j h1 h2 hnu

theorem betterF_congr {L L' : List Leaf} {a b : Int} (h : ∀ c : Int, (c = a ∨ c = b) → 0 ≤ c → leafAt L c = leafAt L' c) : betterF L a b = betterF L' a b := by
  unfold betterF
  by_cases ha : a < 0
  · rw [if_pos ha, if_pos ha]
  · rw [if_neg ha, if_neg ha]
    by_cases hb : 0 ≤ b
    · rw [h a (.inl rfl) (by omega), h b (.inr rfl) hb]
    · rw [if_neg (fun h => hb h.1), if_neg (fun h => hb h.1)]

theorem play_good {L : List Leaf} {size i : Nat} {N : List Int} (f : Leaf) (hg : Good L size N) (hp : Pow size) (hL : L.length ≤ size) (hi : i < L.length) : Good (L.set i f) size (playN (L.set i f) size i f.2 N) := by
  have hl := hg.len
  unfold playN
  refine climb_good _ size _ _ _ (by omega) (by omega) ⟨by rw [List.length_set, hl], fun j hj => ?_, fun j h1 h2 hu => ?_⟩
  · by_cases e : j = i
    · subst e
      rw [getD_set_same _ _ _ _ (by omega), getD_set_same _ _ _ _ hi]
    · rw [getD_set_other _ _ _ _ _ (by omega), getD_set_other _ _ _ _ _ (fun h => e h.symm)]
      exact hg.leaf j hj
  · have h2j : 2 * j ≠ size + i ∧ 2 * j + 1 ≠ size + i := by
      refine ⟨fun h => hu ?_, fun h => hu ?_⟩
      · rw [← h, show 2 * j / 2 = j by omega, up_le _ _ (Nat.le_refl _)]
      · rw [← h, show (2 * j + 1) / 2 = j by omega, up_le _ _ (Nat.le_refl _)]
    rw [getD_set_other _ _ _ _ _ (by omega), getD_set_other _ _ _ _ _ (fun h => h2j.1 h.symm), getD_set_other _ _ _ _ _ (fun h => h2j.2 h.symm), hg.node j h1 h2]
    have hnb : up (size + i) j ≠ j := by
      rw [up_half _ _ h1 (by omega)]; exact hu
    refine betterF_congr fun c hc hc0 => ?_
    have hw : ∀ k, (k = 2 * j ∨ k = 2 * j + 1) → N.getD k (-1) = c → leafAt L c = leafAt (L.set i f) c := by
      intro k hk hkc
      have := good_wins hg hp hL _ k rfl (by omega) (by omega)
      rw [hkc] at this
      rcases this with ⟨rfl, _⟩ | ⟨q, rfl, hq, hqu, _⟩
      · omega
      · have hqi : q ≠ i := by
          rintro rfl
          exact hnb ((below_split hp (by omega) h2 h1).2 (by rcases hk with rfl | rfl; exact .inl hqu; exact .inr hqu))
        unfold leafAt
        rw [Int.toNat_natCast, getD_set_other _ _ _ _ _ (fun h => hqi h.symm)]
    rcases hc with rfl | rfl
    · exact hw _ (.inl rfl) rfl
    · exact hw _ (.inr rfl) rfl

theorem new_good (m : Nat) (_h1 : 1 ≤ m) (_h2 : m ≤ 16) : Good (List.replicate m zLeaf) (sizeOf2 m) (List.replicate (2 * sizeOf2 m) (-1)) := by
  have hr : ∀ k : Nat, (List.replicate (2 * sizeOf2 m) (-1 : Int)).getD k (-1) = -1 := by
    intro k
    rw [List.getD_eq_getElem?_getD, List.getElem?_replicate]
    split <;> rfl
  have hz : ∀ i : Nat, ((List.replicate m zLeaf).getD i zLeaf) = zLeaf := by
    intro k
    rw [List.getD_eq_getElem?_getD, List.getElem?_replicate]
    split <;> rfl
  refine ⟨by simp, fun i _ => ?_, fun k _ _ => ?_⟩
  · rw [hr, hz]; rfl
  · rw [hr, hr, hr]; rfl
theorem pow_sizeOf2 (m : Nat) : Pow (sizeOf2 m) := by unfold sizeOf2 Pow; (repeat' split) <;> omega
theorem new_rel (m : Nat) : RelL (List.replicate m zLeaf) (List.replicate m false) (List.replicate m zIt) := by
  have hz : ∀ i : Nat, ((List.replicate m zLeaf).getD i zLeaf) = zLeaf := by
    intro k
    rw [List.getD_eq_getElem?_getD, List.getElem?_replicate]
    split <;> rfl
  refine ⟨by simp, fun i _ => ?_, fun i _ h => ?_⟩
  · rw [hz, List.getD_eq_getElem?_getD, List.getElem?_replicate]; split <;> rfl
  · rw [hz] at h; cases h
theorem set_rel {L : List Leaf} {has : List Bool} {xs : List It} (h : RelL L has xs) (hx : xs.length = has.length) {i : Nat} (_hi : i < L.length) (x : It) : RelL (L.set i (x, true)) (has.set i true) (xs.set i x) := by
  obtain ⟨h0, h1, h2⟩ := h
  refine ⟨by simp [h0], fun j hj => ?_, fun j hj hh => ?_⟩
  · rw [List.length_set] at hj
    by_cases e : i = j
    · subst e; rw [getD_set_same _ _ _ _ (by omega), getD_set_same _ _ _ _ hj]
    · rw [getD_set_other _ _ _ _ _ e, getD_set_other _ _ _ _ _ e]; exact h1 j hj
  · rw [List.length_set] at hj
    by_cases e : i = j
    · subst e; rw [getD_set_same _ _ _ _ (by omega), getD_set_same _ _ _ _ hj]
    · rw [getD_set_other _ _ _ _ _ e] at hh ⊢; rw [getD_set_other _ _ _ _ _ e]; exact h2 j hj hh
theorem unset_rel {L : List Leaf} {has : List Bool} {xs : List It} (h : RelL L has xs) {i : Nat} (_hi : i < L.length) : RelL (L.set i zLeaf) (has.set i false) xs := by
  obtain ⟨h0, h1, h2⟩ := h
  refine ⟨by simp [h0], fun j hj => ?_, fun j hj hh => ?_⟩
  · rw [List.length_set] at hj
    by_cases e : i = j
    · subst e; rw [getD_set_same _ _ _ _ (by omega), getD_set_same _ _ _ _ hj]; rfl
    · rw [getD_set_other _ _ _ _ _ e, getD_set_other _ _ _ _ _ e]; exact h1 j hj
  · rw [List.length_set] at hj
    by_cases e : i = j
    · subst e; rw [getD_set_same _ _ _ _ hj] at hh; cases hh
    · rw [getD_set_other _ _ _ _ _ e] at hh ⊢; exact h2 j hj hh

end Go.Proofs.Ytoalbmcceehccaa
