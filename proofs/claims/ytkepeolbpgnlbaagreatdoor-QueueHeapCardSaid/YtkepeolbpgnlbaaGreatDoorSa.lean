/-
  A shard's items: what the wheel holds, then what lies beyond it; plain laws. No condition.
-/
import Derived.Test.YtkepeolbpgnlbaaGreatDoorPX
set_option linter.unusedVariables false
set_option linter.unusedSimpArgs false
namespace Go.Proofs.YtkepeolbpgnlbaaGreatDoor
open Go.RowKit

/-! ### Lists in two parts -/
theorem insI_left {x : It} {A B : List It} (h : ∀ y ∈ B, ahead y x = false) : insI x (A ++ B) = insI x A ++ B := by
  induction A with
  | nil =>
    cases B with
    | nil => rfl
    | cons y r =>
      have := h y (by simp)
      simp only [List.nil_append, insI]
      rw [if_neg (by rw [this]; simp)]; rfl
  | cons a A ih =>
    simp only [List.cons_append, insI]
    split
    · rw [ih]; rfl
    · rfl
theorem insI_right {x : It} {A B : List It} (h : ∀ y ∈ A, ahead y x = true) : insI x (A ++ B) = A ++ insI x B := by
  induction A with
  | nil => rfl
  | cons a A ih =>
    simp only [List.cons_append, insI]
    rw [if_pos (h a (by simp)), ih (fun y hy => h y (by simp [hy]))]
theorem insI_end {x : It} {A : List It} (h : ∀ y ∈ A, ahead y x = true) : insI x A = A ++ [x] := by
  have := insI_right (x := x) (A := A) (B := []) h
  rwa [List.append_nil] at this
theorem hasI_app (A B : List It) (id : Int) : hasI (A ++ B) id = (hasI A id || hasI B id) := by unfold hasI; rw [List.any_append]
theorem dropI_app (A B : List It) (id : Int) : dropI (A ++ B) id = dropI A id ++ dropI B id := by unfold dropI; rw [List.filter_append]
theorem findI_app (A B : List It) (id : Int) : findI (A ++ B) id = (findI A id).or (findI B id) := by unfold findI; rw [List.find?_append]


/-- What a shard holds: what fits the wheel, then what lies beyond. -/
structure SOk (base wd : Nat) (A B : List It) : Prop where
  srt : Srt (A ++ B)
  nd : NdI (A ++ B)
  key : ∀ x ∈ A ++ B, x.1 = (kn x : Int) ∧ kn x < 18446744073709551616 ∧ base ≤ kn x
  near : ∀ x ∈ A, lev3 wd base (kn x) < 3
  far : ∀ x ∈ B, lev3 wd base (kn x) = 3

theorem ahead_key {x y : It} (h : x.1 = (kn x : Int)) (h2 : y.1 = (kn y : Int)) (hlt : kn x < kn y) : ahead x y = true := by rw [ahead_iff]; omega
theorem far_lt {W b x y : Nat} (hx : lev3 W b x < 3) (hy : lev3 W b y = 3) (hby : b ≤ y) : x < y := lev_lt hx rfl hy hby hx

theorem SOk.nil (wd : Nat) : SOk 0 wd [] [] := ⟨List.Pairwise.nil, by simp [NdI], by simp, by simp, by simp⟩
theorem SOk.push_near {base wd : Nat} {A B : List It} (h : SOk base wd A B) {x : It} (h1 : x.1 = (kn x : Int)) (h2 : kn x < 18446744073709551616) (h3 : base ≤ kn x) (h4 : lev3 wd base (kn x) < 3) (hx : hasI (A ++ B) x.2 = false) :
    insI x (A ++ B) = insI x A ++ B ∧ SOk base wd (insI x A) B := by
  have e : insI x (A ++ B) = insI x A ++ B := insI_left (fun y hy => by
    have hk := h.key y (by simp [hy])
    exact ahead_asymm (ahead_key h1 hk.1 (far_lt h4 (h.far y hy) hk.2.2)))
  have hs := insI_srt h.srt ((hasI_no _ _).1 hx)
  have hn := insI_nd h.nd hx
  rw [e] at hs hn
  refine ⟨e, hs, hn, fun y hy => ?_, fun y hy => ?_, h.far⟩
  · rw [← e] at hy
    rcases List.mem_cons.1 ((insI_perm x _).mem_iff.1 hy) with rfl | hy
    · exact ⟨h1, h2, h3⟩
    · exact h.key y hy
  · rcases List.mem_cons.1 ((insI_perm x _).mem_iff.1 hy) with rfl | hy
    · exact h4
    · exact h.near y hy
theorem SOk.push_far {base wd : Nat} {A B : List It} (h : SOk base wd A B) {x : It} (h1 : x.1 = (kn x : Int)) (h2 : kn x < 18446744073709551616) (h3 : base ≤ kn x) (h4 : lev3 wd base (kn x) = 3) (hx : hasI (A ++ B) x.2 = false) :
    insI x (A ++ B) = A ++ insI x B ∧ SOk base wd A (insI x B) := by
  have e : insI x (A ++ B) = A ++ insI x B := insI_right (fun y hy => by
    have hk := h.key y (by simp [hy])
    exact ahead_key hk.1 h1 (far_lt (h.near y hy) h4 h3))
  have hs := insI_srt h.srt ((hasI_no _ _).1 hx)
  have hn := insI_nd h.nd hx
  rw [e] at hs hn
  refine ⟨e, hs, hn, fun y hy => ?_, h.near, fun y hy => ?_⟩
  · rw [← e] at hy
    rcases List.mem_cons.1 ((insI_perm x _).mem_iff.1 hy) with rfl | hy
    · exact ⟨h1, h2, h3⟩
    · exact h.key y hy
  · rcases List.mem_cons.1 ((insI_perm x _).mem_iff.1 hy) with rfl | hy
    · exact h4
    · exact h.far y hy
theorem mem_dropI {L : List It} {id : Int} {x : It} (h : x ∈ dropI L id) : x ∈ L := (List.mem_filter.1 h).1
theorem SOk.drop {base wd : Nat} {A B : List It} (h : SOk base wd A B) (id : Int) : SOk base wd (dropI A id) (dropI B id) :=
  { srt := by rw [← dropI_app]; exact dropI_srt h.srt id
    nd := by rw [← dropI_app]; exact dropI_nd h.nd id
    key := fun x hx => h.key x (by rw [← dropI_app] at hx; exact mem_dropI hx)
    near := fun x hx => h.near x (mem_dropI hx)
    far := fun x hx => h.far x (mem_dropI hx) }
theorem nd_app_left {A B : List It} {id : Int} (h : NdI (A ++ B)) (hx : hasI B id = true) : hasI A id = false := by
  rw [hasI_no]
  intro a ha e
  obtain ⟨b, hb, e2⟩ := (hasI_iff B id).1 hx
  unfold NdI at h
  rw [List.map_append, List.nodup_append] at h
  exact h.2.2 a.2 (List.mem_map_of_mem ha) b.2 (List.mem_map_of_mem hb) (by rw [e, e2])

/-- On the way behind a move of the base: what fits goes over, in order. -/
structure SMid (base wd : Nat) (A B : List It) : Prop where
  srt : Srt (A ++ B)
  nd : NdI (A ++ B)
  key : ∀ x ∈ A ++ B, x.1 = (kn x : Int) ∧ kn x < 18446744073709551616 ∧ base ≤ kn x
  near : ∀ x ∈ A, lev3 wd base (kn x) < 3
theorem near_move {W b t k : Nat} (h1 : b ≤ t) (h2 : t ≤ k) (h : lev3 W b k < 3) : lev3 W t k < 3 := by
  rw [fits_iff] at *
  have a := Nat.div_le_div_right (c := 2 ^ (W + 18)) h1
  have b := Nat.div_le_div_right (c := 2 ^ (W + 18)) h2
  omega
theorem SOk.move {base wd : Nat} {A B : List It} (h : SOk base wd A B) {t : Nat} (h1 : base ≤ t) (h2 : ∀ x ∈ A ++ B, t ≤ kn x) : SMid t wd A B :=
  ⟨h.srt, h.nd, fun x hx => ⟨(h.key x hx).1, (h.key x hx).2.1, h2 x hx⟩, fun x hx => near_move h1 (h2 x (by simp [hx])) (h.near x hx)⟩
theorem SMid.step {base wd : Nat} {A B : List It} {x : It} (h : SMid base wd A (x :: B)) (hf : lev3 wd base (kn x) < 3) : insI x A = A ++ [x] ∧ SMid base wd (A ++ [x]) B ∧ hasI A x.2 = false := by
  have e : A ++ x :: B = A ++ [x] ++ B := by simp
  refine ⟨insI_end (fun y hy => ?_), ⟨by rw [← e]; exact h.srt, by rw [← e]; exact h.nd, by rw [← e]; exact h.key, fun y hy => ?_⟩, nd_app_left h.nd (by unfold hasI; simp)⟩
  · have := h.srt
    unfold Srt at this
    rw [List.pairwise_append] at this
    exact this.2.2 y hy x (by simp)
  · rw [List.mem_append] at hy
    rcases hy with hy | hy
    · exact h.near y hy
    · simp at hy; subst hy; exact hf
theorem lev3_far_mono {W b x y : Nat} (hbx : b ≤ x) (hxy : x ≤ y) (h : ¬ lev3 W b x < 3) : lev3 W b y = 3 := by
  have h3 := lev3_le W b y
  by_cases hy : lev3 W b y < 3
  · exfalso
    apply h
    rw [fits_iff] at *
    have a := Nat.div_le_div_right (c := 2 ^ (W + 18)) hbx
    have c := Nat.div_le_div_right (c := 2 ^ (W + 18)) hxy
    omega
  · omega
theorem SMid.done {base wd : Nat} {A B : List It} (h : SMid base wd A B) (hB : ∀ x r, B = x :: r → ¬ lev3 wd base (kn x) < 3) : SOk base wd A B := by
  refine ⟨h.srt, h.nd, h.key, h.near, fun y hy => ?_⟩
  cases B with
  | nil => cases hy
  | cons x r =>
    have hx := hB x r rfl
    have kx := h.key x (by simp)
    have ky := h.key y (by simp at hy ⊢; right; exact hy)
    refine lev3_far_mono kx.2.2 ?_ hx
    rcases List.mem_cons.1 hy with rfl | hy
    · omega
    · have hs := h.srt
      unfold Srt at hs
      rw [List.pairwise_append, List.pairwise_cons] at hs
      have := hs.2.1.1 y hy
      rw [ahead_iff] at this
      omega
theorem srt_head_le {x : It} {r : List It} (hs : Srt (x :: r)) (hk : ∀ y ∈ x :: r, y.1 = (kn y : Int)) : ∀ y ∈ x :: r, kn x ≤ kn y := by
  intro y hy
  have k1 := hk x (by simp)
  have k2 := hk y hy
  rcases List.mem_cons.1 hy with rfl | hy
  · omega
  · have := (List.pairwise_cons.1 hs).1 y hy
    rw [ahead_iff] at this
    omega
end Go.Proofs.YtkepeolbpgnlbaaGreatDoor
