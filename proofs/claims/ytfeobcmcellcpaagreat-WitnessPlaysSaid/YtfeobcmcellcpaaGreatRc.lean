/-
  The walk of the law WitnessTrace. No condition.
-/
import Derived.Test.YtfeobcmcellcpaaGreatRa
import Derived.Test.YtfeobcmcellcpaaGreatRb
import Derived.Test.YtfeobcmcellcpaaGreatOr
import Derived.Test.YtfeobcmcellcpaaGreatPg
import Derived.Test.YtfeobcmcellcpaaGreatMp
set_option linter.unusedVariables false
set_option linter.unusedSimpArgs false
namespace Go.Proofs.YtfeobcmcellcpaaGreat
open Go.RowKit

theorem runM_step_bad {p : Pl} : ∀ {Y : List Pt} {k : Nat} {a b : Pt} {last : Option Int} {m : Ms}, Y[k]? = some a → Y[k + 1]? = some b → b.step ≤ a.step → runM p Y last m = none := by
  intro Y
  induction Y with
  | nil => intro k a b last m h _ _; simp at h
  | cons y Y ih =>
    intro k a b last m h1 h2 h3
    unfold runM
    cases e : callP p.L y with
    | none => rfl
    | some q =>
      simp only
      split
      · cases k with
        | succ k => exact ih h1 h2 h3
        | zero =>
          simp only [List.getElem?_cons_zero, Option.some.injEq] at h1
          subst h1
          simp only [List.getElem?_cons_succ] at h2
          cases Y with
          | nil => simp at h2
          | cons z Y =>
            simp only [List.getElem?_cons_zero, Option.some.injEq] at h2
            subst h2
            unfold runM
            cases callP p.L z with
            | none => rfl
            | some q2 =>
              have hb : behind (some y.step) z.step = false := by simp [behind]; omega
              simp [hb]
      · rfl
theorem runM_n_bad {p : Pl} : ∀ {Y : List Pt} {k : Nat} {a : Pt} {last : Option Int} {m : Ms}, Y[k]? = some a → a.r.n < 0 → runM p Y last m = none := by
  intro Y
  induction Y with
  | nil => intro k a last m h _; simp at h
  | cons y Y ih =>
    intro k a last m h1 h3
    unfold runM
    cases e : callP p.L y with
    | none => rfl
    | some q =>
      simp only
      cases k with
      | zero =>
        simp only [List.getElem?_cons_zero, Option.some.injEq] at h1
        subst h1
        have hb : rtSame (doM p.c m q).1 y.r = false := by
          have := (doM_bd p.c m q).1
          have h : decide ((doM p.c m q).1.n = y.r.n) = false := by simp; omega
          simp [rtSame, h]
        simp [hb]
      | succ k =>
        split
        · exact ih h1 h3
        · rfl
theorem plays_of {p : Pl} {X : List Pt} (hr : rightC p.c = true) : playsM p X = runM p X none ms0 := by unfold playsM; rw [if_pos hr]
def setStep (x : Pt) (s : Int) : Pt := { x with step := s }
def setN (x : Pt) (n : Int) : Pt := { x with r := { x.r with n := n } }
theorem pts_take {w : World} {ao : Option Addr} {k cap cap' : Nat} {X : List Pt} (h : PtsAt' w (.slice ao k cap) X) (q : Nat) (hq : q ≤ X.length) : PtsAt' w (.slice ao q cap') (X.take q) := by
  obtain ⟨h1, ao', cap0, e, hat⟩ := pts_at h
  cases e
  refine ⟨⟨ao, cap', by rw [List.length_take, Nat.min_eq_left hq], by rw [List.length_take]; omega, by rw [flat_len ptVs 7 ptVs_len], ?_⟩, fun x hx => h.2 x (List.mem_of_mem_take hx)⟩
  rw [List.length_take, Nat.min_eq_left hq]
  rcases Nat.eq_zero_or_pos q with h0 | h0
  · exact .inl h0
  · right
    obtain ⟨h2, ⟨_, _, e2, _, _, h3⟩⟩ : True ∧ SlAt w 7 (.slice ao X.length cap) X.length (X.flatMap ptVs) := ⟨trivial, h.1⟩
    cases e2
    rcases h3 with h3 | ⟨b, off, rfl, hb, hc⟩
    · omega
    · refine ⟨b, off, rfl, hb, fun j u hj => hc j u ?_⟩
      have hjl := (List.getElem?_eq_some_iff.1 hj).1
      rw [flat_len ptVs 7 ptVs_len, List.length_take] at hjl
      have e1 : X = X.take q ++ X.drop q := (List.take_append_drop q X).symm
      rw [e1, List.flatMap_append, List.getElem?_append_left (by rw [flat_len ptVs 7 ptVs_len, List.length_take]; exact hjl)]
      exact hj
theorem pts_one' {w : World} {X : List Pt} (hp : ∀ x ∈ X, PtAt w x) : ∀ u ∈ X.flatMap ptVs, u.oneCell' = true := fun u hu => by
  obtain ⟨x, hx, hxu⟩ := List.mem_flatMap.1 hu
  obtain ⟨lo, lc, hlv, -⟩ := hp x hx
  simp only [ptVs, List.mem_cons, List.not_mem_nil, or_false] at hxu
  rcases hxu with rfl | rfl | rfl | rfl | rfl | rfl | rfl <;> first | rfl | (rw [hlv]; rfl)
theorem pts_src {w : World} {ao : Option Addr} {k cap : Nat} {X : List Pt} (h : RowO w 59 7 ao k cap (X.flatMap ptVs)) (hp : ∀ x ∈ X, PtAt w x) : Src w 7 ao k (X.flatMap ptVs) := by
  refine ⟨h.len, pts_one' hp, ?_⟩
  rcases h.cases with ⟨rfl, rfl, _, _⟩ | ⟨g, rfl, hr⟩
  · exact .inl ⟨rfl, rfl⟩
  · exact .inr ⟨_, rfl, fun j u hj => by rw [add_none, Nat.zero_add]; exact hr.cell hj⟩
theorem pts_put {w : World} {g k cap : Nat} {X : List Pt} (h : Row w 59 7 g k cap (X.flatMap ptVs)) {j : Nat} {x y : Pt} (hx : X[j]? = some x) (i : Nat) (hi : i < 7) (u : Value) (hy : (ptVs x).set i u = ptVs y) : Row (w.setCell ⟨g, j * 7 + i, none⟩ u) 59 7 g k cap ((X.set j y).flatMap ptVs) := by
  have h1 := h.set (j * 7 + i) u
  rw [flat_set ptVs 7 ptVs_len X j x y hx i u hi hy] at h1
  exact h1
theorem pts_cell {w : World} {g k cap : Nat} {X : List Pt} (h : Row w 59 7 g k cap (X.flatMap ptVs)) {j : Nat} {x : Pt} (hx : X[j]? = some x) (i : Nat) (hi : i < 7) {u : Value} (hu : (ptVs x)[i]? = some u) : w.cell? ⟨g, j * 7 + i, none⟩ = some u :=
  h.cell (by rw [flat_get ptVs 7 ptVs_len X j i hi x hx]; exact hu)
theorem set_at {X : List Pt} {w : World} (hp : ∀ x ∈ X, PtAt w x) {j : Nat} {y : Pt} (hy : PtAt w y) : ∀ x ∈ X.set j y, PtAt w x := fun x hx => by
  rcases List.mem_or_eq_of_mem_set hx with h | h
  · exact hp x h
  · rw [h]; exact hy
theorem wt_small {k1 : Nat} (h : k1 ≤ 60) : wrap64 (k1 : Int) = (k1 : Int) ∧ IntKind.i64.wrap (k1 : Int) = (k1 : Int) ∧ wrap64 ((k1 : Int) + 1 - 1) = (k1 : Int) := by
  simp only [IntKind.wrap_i64]
  unfold wrap64
  omega
theorem wt_sub {s d : Int} (h1 : 0 ≤ s) (h2 : s ≤ 200) (h3 : 0 ≤ d) (h4 : d ≤ 200) : wrap64 (s - d) = s - d ∧ wrap64 (-1 - d) = -1 - d := by
  unfold wrap64
  omega
theorem wt_ix {j k1 : Nat} (h : j < k1) (hk : k1 + 1 ≤ 50) : (j : Int) < (k1 : Int) + 1 ∧ (j : Int) + 1 < (k1 : Int) + 1 ∧ j < k1 + 1 ∧ j + 1 < k1 + 1 ∧ (j : Int) < (k1 : Int) ∧ (0 : Int) ≤ (j : Int) + 1 ∧ IntKind.i64.wrap ((j : Int) + 1) = (j : Int) + 1 ∧ wrap64 ((j : Int) + 1) = (j : Int) + 1 ∧ j + 1 ≤ 9223372036854775807 := by
  simp only [IntKind.wrap_i64]
  unfold wrap64
  omega
theorem wt_wrap {s d : Int} (h1 : 0 ≤ s) (h2 : s ≤ 200) (h3 : 0 ≤ d) (h4 : d ≤ 200) : IntKind.i64.wrap (s - d) = s - d ∧ IntKind.i64.wrap (-1 - d) = -1 - d := by
  simp only [IntKind.wrap_i64]
  omega
theorem wt_len {X : List Pt} {j k1 : Nat} (h : X.length = k1 + 1) (hj : j < k1) : j < X.length ∧ j + 1 < X.length ∧ j + 1 ≠ j := by omega
theorem wt_neg {d : Int} (h : 0 ≤ d) : -1 - d < 0 := by omega
theorem wt_fresh {s g i : Nat} {P : Prop} (hg : s ≤ g) (hi : i < s) (hm : i ∈ [g]) : P := by
  simp only [List.mem_cons, List.not_mem_nil, or_false] at hm
  omega
theorem wt_bn {k1 : Nat} (h : k1 + 1 ≤ 50) : 0 + (k1 + 1) ≤ maxLen ∧ (0 + (k1 + 1)) * 72 ≤ 140737488355328 := ⟨by unfold maxLen; omega, by omega⟩
theorem wt_mod (n : Int) (k : Int) (h : 0 < k) (h2 : k ≤ 100) : ∃ q : Nat, modI n k = q ∧ (q : Int) < k := ⟨(modI n k).toNat, by have := modI_bd n k h (by omega); omega⟩
theorem wt_modI (n : Int) (k : Int) (h : 0 < k) (h2 : k ≤ 100) : 0 ≤ modI n k ∧ modI n k ≤ k - 1 := by have := modI_bd n k h (by omega); omega
end Go.Proofs.YtfeobcmcellcpaaGreat
