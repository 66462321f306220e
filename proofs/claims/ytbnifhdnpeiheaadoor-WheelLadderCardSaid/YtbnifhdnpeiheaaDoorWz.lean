/-
  What WheelLadder says, as plain laws. No condition.
-/
import Derived.Test.YtbnifhdnpeiheaaDoorRWi
import Derived.Test.YtbnifhdnpeiheaaDoorWy
set_option linter.unusedVariables false
set_option linter.unusedSimpArgs false
namespace Go.Proofs.YtbnifhdnpeiheaaDoor
open Go.RowKit

structure LadOk (base wd : Nat) (L : List It) : Prop where
  srt : Srt L
  key : ∀ x ∈ L, x.1 = (kn x : Int) ∧ kn x < 18446744073709551616 ∧ base ≤ kn x
  lev : ∀ x ∈ L, lev3 wd base (kn x) < 3
theorem WG.lad {W w : World} {wb base wd : Nat} {L : List It} {fp : List Nat} (h : WG W wb base wd L fp w) : LadOk base wd L := by
  have hk := h.keys
  obtain ⟨s, h1, h2, rfl, rfl, rfl, h3⟩ := h
  refine ⟨h2.srt, hk, fun x hx => ?_⟩
  obtain ⟨q, hq, hm⟩ := mem_allB.1 (h2.perm.mem_iff.2 hx)
  have := (h2.pl q hq x hm).1
  omega
theorem ahead_key {x y : It} (h : ahead x y = true) : x.1 ≤ y.1 := by
  unfold ahead at h
  simp at h
  omega
theorem lad_levs {base wd : Nat} {L : List It} (h : LadOk base wd L) {x y : It} (hx : x ∈ L) (hy : y ∈ L) (hxy : kn x ≤ kn y) : lev3 wd base (kn x) ≤ lev3 wd base (kn y) ∧ (lev3 wd base (kn x) = lev3 wd base (kn y) → bucN wd (kn x) (lev3 wd base (kn x)) ≤ bucN wd (kn y) (lev3 wd base (kn y))) := by
  constructor
  · rcases Nat.lt_or_ge (lev3 wd base (kn y)) (lev3 wd base (kn x)) with h1 | h1
    · have := lev_lt (h.lev y hy) rfl rfl (h.key x hx).2.2 h1
      omega
    · exact h1
  · intro he
    rw [← he]
    rcases Nat.lt_or_ge (bucN wd (kn y) (lev3 wd base (kn x))) (bucN wd (kn x) (lev3 wd base (kn x))) with h1 | h1
    · have := buc_lt (h.lev x hx) he.symm rfl h1
      omega
    · exact h1
theorem lad_first {base wd : Nat} {x : It} {r : List It} (h : LadOk base wd (x :: r)) : ∀ y ∈ x :: r, kn x ≤ kn y := by
  intro y hy
  rcases List.mem_cons.1 hy with rfl | hy'
  · exact Nat.le_refl _
  · have h1 := ahead_key ((List.pairwise_cons.1 h.srt).1 y hy')
    have h2 := (h.key x (by simp)).1
    have h3 := (h.key y hy).1
    omega
theorem bitsB_pre (x : Nat) {m n : Nat} (h : m ≤ n) : ∃ r, bitsB x n = bitsB x m ++ r := by
  induction h with
  | refl => exact ⟨[], by simp⟩
  | @step n _ ih =>
    obtain ⟨r, hr⟩ := ih
    cases hb : x.testBit n with
    | true => exact ⟨r ++ [n], by rw [bitsB_succ hb, hr, List.append_assoc]⟩
    | false => exact ⟨r, by rw [bitsB_skip1 hb, hr]⟩
theorem bitsB_first {x b : Nat} (hb : b < 64) (h1 : x.testBit b = true) (h2 : ∀ c, c < b → x.testBit c = false) : ∃ r, bitsB x 64 = b :: r := by
  have h0 : bitsB x b = bitsB x 0 := bitsB_skip (by omega) (fun j _ hj => h2 j hj)
  have h3 : bitsB x (b + 1) = [b] := by rw [bitsB_succ h1, h0]; rfl
  obtain ⟨r, hr⟩ := bitsB_pre x (show b + 1 ≤ 64 by omega)
  exact ⟨r, by rw [hr, h3]; rfl⟩
theorem lad_map0 {base wd : Nat} {x : It} {r : List It} (h : LadOk base wd (x :: r)) {k X : Nat} (hk : k < lev3 wd base (kn x)) (hm : IsMap base wd (x :: r) k X) : X = 0 := by
  apply Nat.eq_of_testBit_eq
  intro c
  rw [Nat.zero_testBit]
  by_cases hc : c < 64
  · rw [hm.2 c hc, List.any_eq_false]
    intro y hy hok
    unfold okB at hok
    simp at hok
    have := (lad_levs h (List.mem_cons_self) hy (lad_first h y hy)).1
    omega
  · exact Nat.testBit_lt_two_pow (Nat.lt_of_lt_of_le hm.1 (by
      have := Nat.pow_le_pow_right (show 0 < 2 by omega) (show 64 ≤ c by omega)
      omega))
theorem lad_mapb {base wd : Nat} {x : It} {r : List It} (h : LadOk base wd (x :: r)) {X : Nat} (hm : IsMap base wd (x :: r) (lev3 wd base (kn x)) X) : ∃ t, bitsB X 64 = bucN wd (kn x) (lev3 wd base (kn x)) :: t := by
  have hb : bucN wd (kn x) (lev3 wd base (kn x)) < 64 := by unfold bucN; omega
  refine bitsB_first hb ?_ (fun c hc => ?_)
  · rw [hm.2 _ hb, List.any_eq_true]
    refine ⟨x, by simp, ?_⟩
    unfold okB
    have := (h.key x (by simp)).2.2
    simp [this]
  · rw [hm.2 c (by omega), List.any_eq_false]
    intro y hy hok
    unfold okB at hok
    simp at hok
    have := (lad_levs h (List.mem_cons_self) hy (lad_first h y hy)).2 (by omega)
    rw [hok.1.2] at this
    omega
end Go.Proofs.YtbnifhdnpeiheaaDoor
