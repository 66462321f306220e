/-
  Texts of this claim, joined: Sa, Sb, Sc, Sd, Se, Sf, Sg, Sq. No condition.
-/
import Derived.Test.YtolohheflbmfaaaGreatDoorPX
import Derived.Test.YtolohheflbmfaaaGreatDoorPH
import Derived.IntWalk
import Derived.Test.YtolohheflbmfaaaGreatDoorWmv
import Derived.Test.YtolohheflbmfaaaGreatDoorHeapR
import Derived.Test.YtolohheflbmfaaaGreatDoorWu
import Derived.Deep.RegionLaw
set_option linter.unusedVariables false
set_option linter.unusedSimpArgs false
/-! Sa -/
namespace Go.Proofs.YtolohheflbmfaaaGreatDoor
open Go.RowKit

/-! ### Lists in two parts -/
theorem insI_left {x : It} {A B : List It} (h : ∀ y ∈ B, ahead y x = false) : insI x (A ++ B) = insI x A ++ B := by
  induction A with
  | nil =>
    cases B with
    | nil => rfl
    | cons y r =>
      have := h y (by simp)
      simp only [List.nil_append, insI]
      rw [if_neg (by rw [this]; simp)]; rfl
  | cons a A ih =>
    simp only [List.cons_append, insI]
    split
    · rw [ih]; rfl
    · rfl
theorem insI_right {x : It} {A B : List It} (h : ∀ y ∈ A, ahead y x = true) : insI x (A ++ B) = A ++ insI x B := by
  induction A with
  | nil => rfl
  | cons a A ih =>
    simp only [List.cons_append, insI]
    rw [if_pos (h a (by simp)), ih (fun y hy => h y (by simp [hy]))]
theorem insI_end {x : It} {A : List It} (h : ∀ y ∈ A, ahead y x = true) : insI x A = A ++ [x] := by
  have := insI_right (x := x) (A := A) (B := []) h
  rwa [List.append_nil] at this
theorem hasI_app (A B : List It) (id : Int) : hasI (A ++ B) id = (hasI A id || hasI B id) := by unfold hasI; rw [List.any_append]
theorem dropI_app (A B : List It) (id : Int) : dropI (A ++ B) id = dropI A id ++ dropI B id := by unfold dropI; rw [List.filter_append]
theorem findI_app (A B : List It) (id : Int) : findI (A ++ B) id = (findI A id).or (findI B id) := by unfold findI; rw [List.find?_append]


/-- What a shard holds: what fits the wheel, then what lies beyond. -/
structure SOk (base wd : Nat) (A B : List It) : Prop where
  srt : Srt (A ++ B)
  nd : NdI (A ++ B)
  key : ∀ x ∈ A ++ B, x.1 = (kn x : Int) ∧ kn x < 18446744073709551616 ∧ base ≤ kn x
  near : ∀ x ∈ A, lev3 wd base (kn x) < 3
  far : ∀ x ∈ B, lev3 wd base (kn x) = 3

theorem ahead_key {x y : It} (h : x.1 = (kn x : Int)) (h2 : y.1 = (kn y : Int)) (hlt : kn x < kn y) : ahead x y = true := by rw [ahead_iff]; omega
theorem far_lt {W b x y : Nat} (hx : lev3 W b x < 3) (hy : lev3 W b y = 3) (hby : b ≤ y) : x < y := lev_lt hx rfl hy hby hx

theorem SOk.nil (wd : Nat) : SOk 0 wd [] [] := ⟨List.Pairwise.nil, by simp [NdI], by simp, by simp, by simp⟩
theorem SOk.push_near {base wd : Nat} {A B : List It} (h : SOk base wd A B) {x : It} (h1 : x.1 = (kn x : Int)) (h2 : kn x < 18446744073709551616) (h3 : base ≤ kn x) (h4 : lev3 wd base (kn x) < 3) (hx : hasI (A ++ B) x.2 = false) :
    insI x (A ++ B) = insI x A ++ B ∧ SOk base wd (insI x A) B := by
  have e : insI x (A ++ B) = insI x A ++ B := insI_left (fun y hy => by
    have hk := h.key y (by simp [hy])
    exact ahead_asymm (ahead_key h1 hk.1 (far_lt h4 (h.far y hy) hk.2.2)))
  have hs := insI_srt h.srt ((hasI_no _ _).1 hx)
  have hn := insI_nd h.nd hx
  rw [e] at hs hn
  refine ⟨e, hs, hn, fun y hy => ?_, fun y hy => ?_, h.far⟩
  · rw [← e] at hy
    rcases List.mem_cons.1 ((insI_perm x _).mem_iff.1 hy) with rfl | hy
    · exact ⟨h1, h2, h3⟩
    · exact h.key y hy
  · rcases List.mem_cons.1 ((insI_perm x _).mem_iff.1 hy) with rfl | hy
    · exact h4
    · exact h.near y hy
theorem SOk.push_far {base wd : Nat} {A B : List It} (h : SOk base wd A B) {x : It} (h1 : x.1 = (kn x : Int)) (h2 : kn x < 18446744073709551616) (h3 : base ≤ kn x) (h4 : lev3 wd base (kn x) = 3) (hx : hasI (A ++ B) x.2 = false) :
    insI x (A ++ B) = A ++ insI x B ∧ SOk base wd A (insI x B) := by
  have e : insI x (A ++ B) = A ++ insI x B := insI_right (fun y hy => by
    have hk := h.key y (by simp [hy])
    exact ahead_key hk.1 h1 (far_lt (h.near y hy) h4 h3))
  have hs := insI_srt h.srt ((hasI_no _ _).1 hx)
  have hn := insI_nd h.nd hx
  rw [e] at hs hn
  refine ⟨e, hs, hn, fun y hy => ?_, h.near, fun y hy => ?_⟩
  · rw [← e] at hy
    rcases List.mem_cons.1 ((insI_perm x _).mem_iff.1 hy) with rfl | hy
    · exact ⟨h1, h2, h3⟩
    · exact h.key y hy
  · rcases List.mem_cons.1 ((insI_perm x _).mem_iff.1 hy) with rfl | hy
    · exact h4
    · exact h.far y hy
theorem mem_dropI {L : List It} {id : Int} {x : It} (h : x ∈ dropI L id) : x ∈ L := (List.mem_filter.1 h).1
theorem SOk.drop {base wd : Nat} {A B : List It} (h : SOk base wd A B) (id : Int) : SOk base wd (dropI A id) (dropI B id) :=
  { srt := by rw [← dropI_app]; exact dropI_srt h.srt id
    nd := by rw [← dropI_app]; exact dropI_nd h.nd id
    key := fun x hx => h.key x (by rw [← dropI_app] at hx; exact mem_dropI hx)
    near := fun x hx => h.near x (mem_dropI hx)
    far := fun x hx => h.far x (mem_dropI hx) }
theorem nd_app_left {A B : List It} {id : Int} (h : NdI (A ++ B)) (hx : hasI B id = true) : hasI A id = false := by
  rw [hasI_no]
  intro a ha e
  obtain ⟨b, hb, e2⟩ := (hasI_iff B id).1 hx
  unfold NdI at h
  rw [List.map_append, List.nodup_append] at h
  exact h.2.2 a.2 (List.mem_map_of_mem ha) b.2 (List.mem_map_of_mem hb) (by rw [e, e2])

/-- On the way behind a move of the base: what fits goes over, in order. -/
structure SMid (base wd : Nat) (A B : List It) : Prop where
  srt : Srt (A ++ B)
  nd : NdI (A ++ B)
  key : ∀ x ∈ A ++ B, x.1 = (kn x : Int) ∧ kn x < 18446744073709551616 ∧ base ≤ kn x
  near : ∀ x ∈ A, lev3 wd base (kn x) < 3
theorem near_move {W b t k : Nat} (h1 : b ≤ t) (h2 : t ≤ k) (h : lev3 W b k < 3) : lev3 W t k < 3 := by
  rw [fits_iff] at *
  have a := Nat.div_le_div_right (c := 2 ^ (W + 18)) h1
  have b := Nat.div_le_div_right (c := 2 ^ (W + 18)) h2
  omega
theorem SOk.move {base wd : Nat} {A B : List It} (h : SOk base wd A B) {t : Nat} (h1 : base ≤ t) (h2 : ∀ x ∈ A ++ B, t ≤ kn x) : SMid t wd A B :=
  ⟨h.srt, h.nd, fun x hx => ⟨(h.key x hx).1, (h.key x hx).2.1, h2 x hx⟩, fun x hx => near_move h1 (h2 x (by simp [hx])) (h.near x hx)⟩
theorem SMid.step {base wd : Nat} {A B : List It} {x : It} (h : SMid base wd A (x :: B)) (hf : lev3 wd base (kn x) < 3) : insI x A = A ++ [x] ∧ SMid base wd (A ++ [x]) B ∧ hasI A x.2 = false := by
  have e : A ++ x :: B = A ++ [x] ++ B := by simp
  refine ⟨insI_end (fun y hy => ?_), ⟨by rw [← e]; exact h.srt, by rw [← e]; exact h.nd, by rw [← e]; exact h.key, fun y hy => ?_⟩, nd_app_left h.nd (by unfold hasI; simp)⟩
  · have := h.srt
    unfold Srt at this
    rw [List.pairwise_append] at this
    exact this.2.2 y hy x (by simp)
  · rw [List.mem_append] at hy
    rcases hy with hy | hy
    · exact h.near y hy
    · simp at hy; subst hy; exact hf
theorem lev3_far_mono {W b x y : Nat} (hbx : b ≤ x) (hxy : x ≤ y) (h : ¬ lev3 W b x < 3) : lev3 W b y = 3 := by
  have h3 := lev3_le W b y
  by_cases hy : lev3 W b y < 3
  · exfalso
    apply h
    rw [fits_iff] at *
    have a := Nat.div_le_div_right (c := 2 ^ (W + 18)) hbx
    have c := Nat.div_le_div_right (c := 2 ^ (W + 18)) hxy
    omega
  · omega
theorem SMid.done {base wd : Nat} {A B : List It} (h : SMid base wd A B) (hB : ∀ x r, B = x :: r → ¬ lev3 wd base (kn x) < 3) : SOk base wd A B := by
  refine ⟨h.srt, h.nd, h.key, h.near, fun y hy => ?_⟩
  cases B with
  | nil => cases hy
  | cons x r =>
    have hx := hB x r rfl
    have kx := h.key x (by simp)
    have ky := h.key y (by simp at hy ⊢; right; exact hy)
    refine lev3_far_mono kx.2.2 ?_ hx
    rcases List.mem_cons.1 hy with rfl | hy
    · omega
    · have hs := h.srt
      unfold Srt at hs
      rw [List.pairwise_append, List.pairwise_cons] at hs
      have := hs.2.1.1 y hy
      rw [ahead_iff] at this
      omega
theorem srt_head_le {x : It} {r : List It} (hs : Srt (x :: r)) (hk : ∀ y ∈ x :: r, y.1 = (kn y : Int)) : ∀ y ∈ x :: r, kn x ≤ kn y := by
  intro y hy
  have k1 := hk x (by simp)
  have k2 := hk y hy
  rcases List.mem_cons.1 hy with rfl | hy
  · omega
  · have := (List.pairwise_cons.1 hs).1 y hy
    rw [ahead_iff] at this
    omega
end Go.Proofs.YtolohheflbmfaaaGreatDoor

/-! Sb -/
namespace Go.Proofs.YtolohheflbmfaaaGreatDoor
open Go.RowKit

/-- Where a shard's parts lie, and what they hold. -/
structure SAt (W w : World) (sb wb hb base wd : Nat) (A B : List It) (fw fh : List Nat) : Prop where
  blk : ∃ width : Int, Blk w sb 142 [.pointer (some ⟨wb, 0, none⟩), .pointer (some ⟨hb, 0, none⟩), .int .i64 width] ∧ heldN width = wd
  whl : WG W wb base wd A fw w
  hp : HG W hb B fh w
  d1 : sb ∉ fw
  d2 : sb ∉ fh
  d3 : ∀ c ∈ fw, c ∉ fh
  new : W.heap.size ≤ sb
section
variable {W w : World} {sb wb hb base wd : Nat} {A B : List It} {fw fh : List Nat}
theorem SAt.lt (h : SAt W w sb wb hb base wd A B fw fh) : ∀ c ∈ sb :: (fw ++ fh), c < w.heap.size := by
  intro c hc
  rcases List.mem_cons.1 hc with rfl | hc
  · obtain ⟨_, hb, _⟩ := h.blk; exact hb.lt
  · rcases List.mem_append.1 hc with hc | hc
    · exact h.whl.lt c hc
    · exact h.hp.1.lt c hc
theorem SAt.newB (h : SAt W w sb wb hb base wd A B fw fh) : ∀ c ∈ sb :: (fw ++ fh), W.heap.size ≤ c := by
  intro c hc
  rcases List.mem_cons.1 hc with rfl | hc
  · exact h.new
  · rcases List.mem_append.1 hc with hc | hc
    · exact h.whl.newB c hc
    · exact h.hp.2.1 c hc
theorem SAt.updS (h : SAt W w sb wb hb base wd A B fw fh) {S : List Nat} {w' : World} (hu : Upd S w w') (hs : ∀ c ∈ sb :: (fw ++ fh), c ∉ S) (hw : ∀ c ∈ S, W.heap.size ≤ c) : SAt W w' sb wb hb base wd A B fw fh :=
  { h with
    blk := by obtain ⟨v, h1, h2⟩ := h.blk; exact ⟨v, h1.upd hu (hs sb (by simp)), h2⟩
    whl := h.whl.updS hu (fun c hc => hs c (by simp [hc])) hw
    hp := h.hp.updS hu (fun c hc => hs c (by simp [hc])) hw }
theorem SAt.upd (h : SAt W w sb wb hb base wd A B fw fh) {w' : World} (hu : Upd [] w w') : SAt W w' sb wb hb base wd A B fw fh := h.updS hu (by simp) (by simp)

/-- A deed on the wheel. -/
theorem SAt.wstep (h : SAt W w sb wb hb base wd A B fw fh) {base' : Nat} {A' : List It} {w' : World} (k : WGTo W wb base' wd A' fw w w') :
    ∃ fw', SAt W w' sb wb hb base' wd A' B fw' fh ∧ Fr (sb :: (fw ++ fh)) (sb :: (fw' ++ fh)) w w' := by
  obtain ⟨fw', k1, k2, k3⟩ := k
  have hl := h.lt
  have hsz := k3.size
  refine ⟨fw', ⟨?_, k1, h.hp.updS k3 (fun c hc e => h.d3 c e hc) h.whl.newB, ?_, h.d2, fun c hc e => ?_, h.new⟩, fun c hc => ?_, k3.mono (fun i _ hm => by simp [hm])⟩
  · obtain ⟨v, h1, h2⟩ := h.blk; exact ⟨v, h1.upd k3 h.d1, h2⟩
  · intro e
    rcases k2 sb e with e | e
    · exact h.d1 e
    · have := hl sb (by simp); omega
  · rcases k2 c hc with e1 | e1
    · exact h.d3 c e1 e
    · have := hl c (by simp [e]); omega
  · rcases List.mem_cons.1 hc with rfl | hc
    · left; simp
    · rcases List.mem_append.1 hc with hc | hc
      · rcases k2 c hc with e1 | e1
        · left; simp [e1]
        · exact .inr e1
      · left; simp [hc]

/-- A deed on what lies beyond. -/
theorem SAt.hstep (h : SAt W w sb wb hb base wd A B fw fh) {B' : List It} {w' : World} (k : HGTo W hb B' fh w w') :
    ∃ fh', SAt W w' sb wb hb base wd A B' fw fh' ∧ Fr (sb :: (fw ++ fh)) (sb :: (fw ++ fh')) w w' := by
  obtain ⟨fh', k1, k2, k3⟩ := k
  have hl := h.lt
  have hsz := k3.size
  refine ⟨fh', ⟨?_, h.whl.updS k3 (fun c hc e => h.d3 c hc e) h.hp.2.1, k1, h.d1, ?_, fun c hc e => ?_, h.new⟩, fun c hc => ?_, k3.mono (fun i _ hm => by simp [hm])⟩
  · obtain ⟨v, h1, h2⟩ := h.blk; exact ⟨v, h1.upd k3 h.d2, h2⟩
  · intro e
    rcases k2 sb e with e | e
    · exact h.d2 e
    · have := hl sb (by simp); omega
  · rcases k2 c e with e1 | e1
    · exact h.d3 c hc e1
    · have := hl c (by simp [hc]); omega
  · rcases List.mem_cons.1 hc with rfl | hc
    · left; simp
    · rcases List.mem_append.1 hc with hc | hc
      · left; simp [hc]
      · rcases k2 c hc with e1 | e1
        · left; simp [e1]
        · exact .inr e1
end

/-- A shard in blocks that are new since W. -/
def SG (W : World) (sb base wd : Nat) (A B : List It) (fp : List Nat) (w : World) : Prop :=
  ∃ wb hb fw fh, SAt W w sb wb hb base wd A B fw fh ∧ SOk base wd A B ∧ (A ++ B).length ≤ 1000 ∧ fp = sb :: (fw ++ fh)
def SGTo (W : World) (sb base wd : Nat) (A B : List It) (fp : List Nat) (w w' : World) : Prop := ∃ fp', SG W sb base wd A B fp' w' ∧ Fr fp fp' w w'
section
variable {W w : World} {sb base wd : Nat} {A B : List It} {fp : List Nat}
theorem SG.lt (h : SG W sb base wd A B fp w) : ∀ c ∈ fp, c < w.heap.size := by obtain ⟨_, _, _, _, h1, _, _, rfl⟩ := h; exact h1.lt
theorem SG.newB (h : SG W sb base wd A B fp w) : ∀ c ∈ fp, W.heap.size ≤ c := by obtain ⟨_, _, _, _, h1, _, _, rfl⟩ := h; exact h1.newB
theorem SG.updS (h : SG W sb base wd A B fp w) {S : List Nat} {w' : World} (hu : Upd S w w') (hs : ∀ c ∈ fp, c ∉ S) (hw : ∀ c ∈ S, W.heap.size ≤ c) : SG W sb base wd A B fp w' := by
  obtain ⟨wb, hb, fw, fh, h1, h2, h3, rfl⟩ := h; exact ⟨wb, hb, fw, fh, h1.updS hu hs hw, h2, h3, rfl⟩
theorem SG.upd (h : SG W sb base wd A B fp w) {w' : World} (hu : Upd [] w w') : SG W sb base wd A B fp w' := h.updS hu (by simp) (by simp)
theorem SG.updW (h : SG W sb base wd A B fp w) : Upd [] W w := by obtain ⟨_, _, _, _, h1, _⟩ := h; exact h1.whl.updW
theorem SG.tab (h : SG W sb base wd A B fp w) : TabAt 0 Lib.deBruijn64tab W := by obtain ⟨_, _, _, _, h1, _⟩ := h; exact h1.whl.tab
theorem SG.ok (h : SG W sb base wd A B fp w) : SOk base wd A B := by obtain ⟨_, _, _, _, _, h2, _⟩ := h; exact h2
theorem SG.len (h : SG W sb base wd A B fp w) : (A ++ B).length ≤ 1000 := by obtain ⟨_, _, _, _, _, _, h3, _⟩ := h; exact h3
theorem SG.mem (h : SG W sb base wd A B fp w) : sb ∈ fp := by obtain ⟨_, _, _, _, _, _, _, rfl⟩ := h; simp
end
end Go.Proofs.YtolohheflbmfaaaGreatDoor

/-! Sc -/
namespace Go.Proofs.YtolohheflbmfaaaGreatDoor
open Go.RowKit

section
variable {W w : World} {sb wb hb base wd : Nat} {A B : List It} {fw fh : List Nat}
theorem SAt.cells (h : SAt W w sb wb hb base wd A B fw fh) : ∃ width : Int, w.cell? ⟨sb, 0, none⟩ = some (.pointer (some ⟨wb, 0, none⟩)) ∧ w.cell? ⟨sb, 1, none⟩ = some (.pointer (some ⟨hb, 0, none⟩)) ∧ w.cell? ⟨sb, 2, none⟩ = some (.int .i64 width) ∧ heldN width = wd ∧ sb < w.heap.size := by
  obtain ⟨width, hblk, hw⟩ := h.blk
  exact ⟨width, hblk.cell (j := 0) rfl, hblk.cell (j := 1) rfl, hblk.cell (j := 2) rfl, hw, hblk.lt⟩
theorem SAt.base_ (h : SAt W w sb wb hb base wd A B fw fh) : Calls Tryz.prog 80 #[.pointer (some ⟨sb, 0, none⟩)] w (fun e w' => e = .returned (.int .u64 base) ∧ w = w') := by
  obtain ⟨width, p0, p1, p2, -, ls⟩ := h.cells
  have HH := Lib.hid h
  clear h
  go_enter Tryz.func80, Tryz.ntmps80
  go_wp2_with fail
  refine HH.out.whl.base.mono ?_
  rintro e w2 ⟨rfl, rfl⟩
  go_wp2
  go_ret
  exact ⟨rfl, rfl⟩
theorem SAt.has (h : SAt W w sb wb hb base wd A B fw fh) (id : Int) : Calls Tryz.prog 81 #[.pointer (some ⟨sb, 0, none⟩), .int .i64 id] w (RetUpd [] w (.bool (hasI (A ++ B) id))) := by
  obtain ⟨width, p0, p1, p2, -, ls⟩ := h.cells
  rw [hasI_app]
  have HH := Lib.hid h
  cases ha : hasI A id with
  | true =>
    have HA := Lib.hid ha
    clear h ha
    go_enter Tryz.func81, Tryz.ntmps81
    go_wp2_with fail
    refine (HH.out.whl.has id).mono ?_
    rintro e w2 ⟨rfl, rfl⟩
    rw [HA.out]
    go_wp2
    go_ret
    exact ⟨rfl, Upd.refl _ _⟩
  | false =>
    have HA := Lib.hid ha
    obtain ⟨r, hr⟩ : ∃ r, hasI B id = r := ⟨_, rfl⟩
    have HR := Lib.hid hr
    rw [hr]
    clear h ha hr
    go_enter Tryz.func81, Tryz.ntmps81
    go_wp2_with fail
    refine (HH.out.whl.has id).mono ?_
    rintro e w2 ⟨rfl, rfl⟩
    rw [HA.out]
    go_wp2_with fail
    refine (HH.out.hp.has id).mono ?_
    rintro e w3 ⟨rfl, -, hU⟩
    rw [HR.out]
    go_wp2
    go_ret
    exact ⟨by simp, hU⟩
theorem firstV_app_nil (B : List It) : firstV ([] ++ B) = firstV B := rfl
theorem first_cross {a b : It} {A B : List It} (h : Srt ((a :: A) ++ (b :: B))) : ahead b a = false := by
  unfold Srt at h
  rw [List.pairwise_append] at h
  exact ahead_asymm (h.2.2 a (by simp) b (by simp))

theorem _root_.Go.Proofs.YtolohheflbmfaaaGreatDoor.HG.min_ {W : World} {hb : Nat} {L : List It} {fp : List Nat} {w : World} (h : HG W hb L fp w) : Calls Tryz.prog 104 #[.pointer (some ⟨hb, 0, none⟩)] w (RetUpd [] w (firstV L)) := heap_min hb L fp w h.1

set_option maxHeartbeats 4000000 in
theorem SAt.min (h : SAt W w sb wb hb base wd A B fw fh) (hs : Srt (A ++ B)) : Calls Tryz.prog 84 #[.pointer (some ⟨sb, 0, none⟩)] w (RetUpd [] w (firstV (A ++ B))) := by
  obtain ⟨width, p0, p1, p2, -, ls⟩ := h.cells
  have HH := Lib.hid h
  obtain ⟨x, okx, hx⟩ : ∃ y ok, firstV A = itV y ok := by cases A <;> exact ⟨_, _, rfl⟩
  obtain ⟨y, oky, hy⟩ : ∃ y ok, firstV B = itV y ok := by cases B <;> exact ⟨_, _, rfl⟩
  have HX := Lib.hid hx
  have HY := Lib.hid hy
  have HR : Hid (firstV (A ++ B) = if okx = true then itV x true else itV y oky) := by
    unfold Hid
    cases A with
    | nil =>
      simp only [firstV, itV, Value.tuple.injEq, Array.mk.injEq, List.cons.injEq, Value.bool.injEq, and_true] at hx
      obtain rfl : okx = false := hx.2.symm
      rw [if_neg (by simp), List.nil_append, hy]
    | cons a A =>
      have hx' := hx
      simp only [firstV, itV, Value.tuple.injEq, Array.mk.injEq, List.cons.injEq, Value.bool.injEq, and_true] at hx'
      obtain rfl : okx = true := hx'.2.symm
      rw [if_pos rfl, ← hx]; rfl
  have HAH : Hid (okx = true → oky = true → Proofs.YtolohheflbmfaaaGreatDoor.ahead y x = false) := fun e1 e2 => by
    subst e1
    subst e2
    cases A with
    | nil => simp [firstV, itV] at hx
    | cons a A =>
      cases B with
      | nil => simp [firstV, itV] at hy
      | cons b B =>
        simp only [firstV, itV, Value.tuple.injEq, Array.mk.injEq, List.cons.injEq, Value.agg.injEq, Value.int.injEq, true_and, and_true] at hx hy
        have ha : a = x := Prod.ext hx.1 hx.2
        have hb : b = y := Prod.ext hy.1 hy.2
        subst ha
        subst hb
        exact first_cross hs
  clear h hs hx hy
  cases okx with
  | false =>
    rw [HR.out, if_neg (by simp)]
    go_enter Tryz.func84, Tryz.ntmps84
    go_wp2_with fail
    refine ((HH.out.upd ((Upd.refl [] w).alloc _)).whl.min).mono ?_
    rintro e w2 ⟨rfl, hU2⟩
    rw [HX.out]
    unfold itV
    have HU2 : Hid (Upd [] w w2) := ((Upd.refl [] w).alloc _).trans hU2
    have HZ := Lib.hid ((Blk.new w 54 [.int .u64 0, .int .i64 0]).upd hU2 (by simp))
    have q1 := (HU2.out.cell ls (by simp) 1).trans p1
    have lq := Nat.lt_of_lt_of_le ls HU2.out.size
    clear hU2 p0 p1 p2
    go_wp2_with fail
    refine ((HH.out.upd (HU2.out.alloc _)).hp.min_).mono ?_
    rintro e w3 ⟨rfl, hU3⟩
    rw [HY.out]
    unfold itV
    have HU3 : Hid (Upd [] w w3) := (HU2.out.alloc _).trans hU3
    have hZ := HZ.out.upd (((Upd.refl [] w2).alloc _).trans hU3) (by simp)
    have z0 := hZ.cell (j := 0) rfl
    have z1 := hZ.cell (j := 1) rfl
    have zf := hZ.free 0
    have zf1 := hZ.free 1
    have zl := hZ.lt
    have hX := (Blk.new w2 54 [.int .u64 x.1, .int .i64 x.2]).upd hU3 (by simp)
    have x0 := hX.cell (j := 0) rfl
    have x1 := hX.cell (j := 1) rfl
    have xl := hX.lt
    have HXB := Lib.hid hX
    have HU23 := Lib.hid hU3
    clear hU3 hZ hX
    go_wp2
    exact bodyPost_ret (v := .tuple #[.agg #[.int .u64 y.1, .int .i64 y.2], .bool oky]) (by simp [results, Tryz.results84, go_sem, z0, z1, zl]) rfl ⟨rfl, (((HU3.out.setCell (.inr (Nat.le_refl _)) _).setCell (.inr (Nat.le_refl _)) _).alloc _)⟩
  | true =>
    rw [HR.out, if_pos rfl]
    cases oky with
    | false =>
      go_enter Tryz.func84, Tryz.ntmps84
      go_wp2_with fail
      refine ((HH.out.upd ((Upd.refl [] w).alloc _)).whl.min).mono ?_
      rintro e w2 ⟨rfl, hU2⟩
      rw [HX.out]
      unfold itV
      have HU2 : Hid (Upd [] w w2) := ((Upd.refl [] w).alloc _).trans hU2
      have HZ := Lib.hid ((Blk.new w 54 [.int .u64 0, .int .i64 0]).upd hU2 (by simp))
      have q1 := (HU2.out.cell ls (by simp) 1).trans p1
      have lq := Nat.lt_of_lt_of_le ls HU2.out.size
      clear hU2 p0 p1 p2
      go_wp2_with fail
      refine ((HH.out.upd (HU2.out.alloc _)).hp.min_).mono ?_
      rintro e w3 ⟨rfl, hU3⟩
      rw [HY.out]
      unfold itV
      have HU3 : Hid (Upd [] w w3) := (HU2.out.alloc _).trans hU3
      have hZ := HZ.out.upd (((Upd.refl [] w2).alloc _).trans hU3) (by simp)
      have z0 := hZ.cell (j := 0) rfl
      have z1 := hZ.cell (j := 1) rfl
      have zf := hZ.free 0
      have zf1 := hZ.free 1
      have zl := hZ.lt
      have hX := (Blk.new w2 54 [.int .u64 x.1, .int .i64 x.2]).upd hU3 (by simp)
      have x0 := hX.cell (j := 0) rfl
      have x1 := hX.cell (j := 1) rfl
      have xl := hX.lt
      have HXB := Lib.hid hX
      have HU23 := Lib.hid hU3
      clear hU3 hZ hX
      go_wp2
      exact bodyPost_ret (v := .tuple #[.agg #[.int .u64 x.1, .int .i64 x.2], .bool true]) (by simp [results, Tryz.results84, go_sem, z0, z1, zl]) rfl ⟨rfl, (((HU3.out.setCell (.inr (Nat.le_refl _)) _).setCell (.inr (Nat.le_refl _)) _).alloc _)⟩
    | true =>
      have hah := HAH.out rfl rfl
      have HAD := Lib.hid hah
      clear hah
      go_enter Tryz.func84, Tryz.ntmps84
      go_wp2_with fail
      refine ((HH.out.upd ((Upd.refl [] w).alloc _)).whl.min).mono ?_
      rintro e w2 ⟨rfl, hU2⟩
      rw [HX.out]
      unfold itV
      have HU2 : Hid (Upd [] w w2) := ((Upd.refl [] w).alloc _).trans hU2
      have HZ := Lib.hid ((Blk.new w 54 [.int .u64 0, .int .i64 0]).upd hU2 (by simp))
      have q1 := (HU2.out.cell ls (by simp) 1).trans p1
      have lq := Nat.lt_of_lt_of_le ls HU2.out.size
      clear hU2 p0 p1 p2
      go_wp2_with fail
      refine ((HH.out.upd (HU2.out.alloc _)).hp.min_).mono ?_
      rintro e w3 ⟨rfl, hU3⟩
      rw [HY.out]
      unfold itV
      have HU3 : Hid (Upd [] w w3) := (HU2.out.alloc _).trans hU3
      have hZ := HZ.out.upd (((Upd.refl [] w2).alloc _).trans hU3) (by simp)
      have z0 := hZ.cell (j := 0) rfl
      have z1 := hZ.cell (j := 1) rfl
      have zf := hZ.free 0
      have zf1 := hZ.free 1
      have zl := hZ.lt
      have hX := (Blk.new w2 54 [.int .u64 x.1, .int .i64 x.2]).upd hU3 (by simp)
      have x0 := hX.cell (j := 0) rfl
      have x1 := hX.cell (j := 1) rfl
      have xl := hX.lt
      have HXB := Lib.hid hX
      have HU23 := Lib.hid hU3
      clear hU3 hZ hX
      clear z0 z1 zf zf1 zl
      go_wp2_with fail
      refine (ahead_any y x _).mono ?_
      rintro e w4 ⟨rfl, hU4⟩
      rw [HAD.out]
      have HU4 : Hid (Upd [] w3 w4) := ((Upd.refl [] w3).alloc _).trans hU4
      have hZ := HZ.out.upd ((((Upd.refl [] w2).alloc _).trans HU23.out).trans HU4.out) (by simp)
      have z0 := hZ.cell (j := 0) rfl
      have z1 := hZ.cell (j := 1) rfl
      have zf := hZ.free 0
      have zf1 := hZ.free 1
      have zl := hZ.lt
      have hX := HXB.out.upd HU4.out (by simp)
      have x0 := hX.cell (j := 0) rfl
      have x1 := hX.cell (j := 1) rfl
      have xl := hX.lt
      clear hU4 hZ hX
      go_wp2
      exact bodyPost_ret (v := .tuple #[.agg #[.int .u64 x.1, .int .i64 x.2], .bool true]) (by simp [results, Tryz.results84, go_sem, z0, z1, zl]) rfl ⟨rfl, (((HU3.out.trans HU4.out).setCell (.inr (Nat.le_refl _)) _).setCell (.inr (Nat.le_refl _)) _)⟩
end
end Go.Proofs.YtolohheflbmfaaaGreatDoor

/-! Sd -/
namespace Go.Proofs.YtolohheflbmfaaaGreatDoor
open Go.RowKit

section
variable {W w : World} {sb wb hb base wd : Nat} {A B : List It} {fw fh : List Nat}
/-- Behind a deed cells may be written that were made ahead of it. -/
theorem sat_done {w2 w3 w4 : World} {base' : Nat} {A' B' : List It} {F fw' fh' S : List Nat} (hF : ∀ c ∈ F, c < w.heap.size) (h0 : Upd [] w w2) (hfr : Fr F (sb :: (fw' ++ fh')) w2 w3) (hs : SAt W w3 sb wb hb base' wd A' B' fw' fh') (hu : Upd S w3 w4) (hSS : ∀ c ∈ S, w.heap.size ≤ c ∧ c < w2.heap.size) (hW : W.heap.size ≤ w.heap.size) :
    SAt W w4 sb wb hb base' wd A' B' fw' fh' ∧ Fr F (sb :: (fw' ++ fh')) w w4 := by
  have hsz := h0.size
  refine ⟨hs.updS hu (fun c hc e => ?_) (fun c hc => by have := hSS c hc; omega), fun c hc => ?_, ?_⟩
  · have h1 := hSS c e
    rcases hfr.1 c hc with h | h
    · have := hF c h; omega
    · omega
  · rcases hfr.1 c hc with h | h
    · exact .inl h
    · right; omega
  · exact (h0.nil.trans hfr.2).then hu (fun _ _ h => h) (fun i hi hm => by have := (hSS i hm).1; omega)
theorem SAt.ltW (h : SAt W w sb wb hb base wd A B fw fh) : W.heap.size ≤ w.heap.size := h.whl.updW.size

theorem dropV_app {A B : List It} (hn : NdI (A ++ B)) (id : Int) : dropV (A ++ B) id = if hasI B id = true then dropV B id else dropV A id := by
  unfold dropV
  rw [findI_app]
  by_cases h : hasI B id = true
  · rw [if_pos h]
    have := nd_app_left hn h
    rw [← findI_none] at this
    rw [this]; rfl
  · rw [if_neg h]
    have h2 : findI B id = none := findI_none.2 (by simpa using h)
    rw [h2]
    cases findI A id <;> rfl

theorem HGTo.up_ {W : World} {hb : Nat} {L : List It} {fp : List Nat} {w w' : World} (h : HGTo W hb L fp w w') : Upd fp w w' := by obtain ⟨_, _, _, h⟩ := h; exact h
theorem WGTo.up_ {W : World} {wb base wd : Nat} {L : List It} {fp : List Nat} {w w' : World} (h : WGTo W wb base wd L fp w w') : Upd fp w w' := by obtain ⟨_, _, _, h⟩ := h; exact h

/-- What a deed leaves of a shard. -/
def SATo (W : World) (sb wb hb base wd : Nat) (A B : List It) (F : List Nat) (w w' : World) : Prop := ∃ fw' fh', SAt W w' sb wb hb base wd A B fw' fh' ∧ Fr F (sb :: (fw' ++ fh')) w w'

set_option maxHeartbeats 4000000 in
theorem SAt.drop (h : SAt W w sb wb hb base wd A B fw fh) (hn : NdI (A ++ B)) (id : Int) : Calls Tryz.prog 87 #[.pointer (some ⟨sb, 0, none⟩), .int .i64 id] w (fun e w' => e = .returned (dropV (A ++ B) id) ∧ SATo W sb wb hb base wd (dropI A id) (dropI B id) (sb :: (fw ++ fh)) w w') := by
  obtain ⟨width, p0, p1, p2, -, ls⟩ := h.cells
  have HH := Lib.hid h
  have HLT := Lib.hid h.lt
  have HLW := Lib.hid h.ltW
  have HZ := Lib.hid (Blk.new w 54 [.int .u64 0, .int .i64 0])
  rw [dropV_app hn]
  cases hb : hasI B id with
  | true =>
    rw [if_pos rfl]
    have hda : Hid (dropI A id = A) := dropI_none (nd_app_left hn hb)
    have HX := Lib.hid hb
    obtain ⟨y, ok, hy⟩ : ∃ y ok, dropV B id = itV y ok := by unfold dropV; split <;> exact ⟨_, _, rfl⟩
    have HY := Lib.hid hy
    rw [hda.out, hy]
    clear h hn hb hy
    go_enter Tryz.func87, Tryz.ntmps87
    go_wp2_with fail
    refine ((HH.out.upd ((Upd.refl [] w).alloc _)).hp.has id).mono ?_
    rintro e w3 ⟨rfl, -, hU⟩
    rw [HX.out]
    have q1 := ((((Upd.refl [] w).alloc _).trans hU).cell ls (by simp) 1).trans p1
    have lq := Nat.lt_of_lt_of_le ls (((Upd.refl [] w).alloc _).trans hU).size
    have HA3 := Lib.hid ((HH.out.upd ((Upd.refl [] w).alloc _)).upd hU)
    clear p0 p1 p2
    go_wp2_with fail
    refine (HA3.out.hp.drop id).mono ?_
    rintro e w4 ⟨rfl, h4⟩
    rw [HY.out]
    unfold itV
    obtain ⟨fh', hA4, hF4⟩ := HA3.out.hstep h4
    have hnn : w.heap.size ∉ fh := fun e => by have := HLT.out w.heap.size (by simp [e]); omega
    have hZ := HZ.out.upd hU (by simp)
    have hZ4 := hZ.upd h4.up_ hnn
    have z0 := hZ4.cell (j := 0) rfl
    have z1 := hZ4.cell (j := 1) rfl
    have zf := hZ4.free 0
    have zf1 := hZ4.free 1
    have zl := hZ4.lt
    have HA4 := Lib.hid hA4
    have HF4 := Lib.hid hF4
    have HU3 : Hid (Upd [] w w3) := ((Upd.refl [] w).alloc _).trans hU
    have hw3 := Lib.hid hZ.lt
    clear hA4 hF4 hnn hZ hZ4 h4 hU
    go_wp2
    exact bodyPost_ret (v := .tuple #[.agg #[.int .u64 y.1, .int .i64 y.2], .bool ok]) (by simp [results, Tryz.results87, go_sem, z0, z1, zl]) rfl ⟨rfl, _, _, sat_done (S := [w.heap.size]) HLT.out HU3.out HF4.out HA4.out (((Upd.refl _ _).setCell (by simp) _).setCell (by simp) _) (fun c hc => by simp at hc; subst hc; exact ⟨Nat.le_refl _, hw3.out⟩) HLW.out⟩
  | false =>
    rw [if_neg (by simp)]
    have hdb : Hid (dropI B id = B) := dropI_none hb
    have HX := Lib.hid hb
    obtain ⟨y, ok, hy⟩ : ∃ y ok, dropV A id = itV y ok := by unfold dropV; split <;> exact ⟨_, _, rfl⟩
    have HY := Lib.hid hy
    rw [hdb.out, hy]
    clear h hn hb hy
    go_enter Tryz.func87, Tryz.ntmps87
    go_wp2_with fail
    refine ((HH.out.upd ((Upd.refl [] w).alloc _)).hp.has id).mono ?_
    rintro e w3 ⟨rfl, -, hU⟩
    rw [HX.out]
    have q0 := ((((Upd.refl [] w).alloc _).trans hU).cell ls (by simp) 0).trans p0
    have lq := Nat.lt_of_lt_of_le ls (((Upd.refl [] w).alloc _).trans hU).size
    have HA3 := Lib.hid ((HH.out.upd ((Upd.refl [] w).alloc _)).upd hU)
    clear p0 p1 p2
    go_wp2_with fail
    refine (HA3.out.whl.drop id).mono ?_
    rintro e w4 ⟨rfl, h4⟩
    rw [HY.out]
    unfold itV
    obtain ⟨fw', hA4, hF4⟩ := HA3.out.wstep h4
    have hnn : w.heap.size ∉ fw := fun e => by have := HLT.out w.heap.size (by simp [e]); omega
    have hZ := HZ.out.upd hU (by simp)
    have hZ4 := hZ.upd h4.up_ hnn
    have z0 := hZ4.cell (j := 0) rfl
    have z1 := hZ4.cell (j := 1) rfl
    have zf := hZ4.free 0
    have zf1 := hZ4.free 1
    have zl := hZ4.lt
    have HA4 := Lib.hid hA4
    have HF4 := Lib.hid hF4
    have HU3 : Hid (Upd [] w w3) := ((Upd.refl [] w).alloc _).trans hU
    have hw3 := Lib.hid hZ.lt
    clear hA4 hF4 hnn hZ hZ4 h4 hU
    go_wp2
    exact bodyPost_ret (v := .tuple #[.agg #[.int .u64 y.1, .int .i64 y.2], .bool ok]) (by simp [results, Tryz.results87, go_sem, z0, z1, zl]) rfl ⟨rfl, _, _, sat_done (S := [w.heap.size]) HLT.out HU3.out HF4.out HA4.out (((Upd.refl _ _).setCell (by simp) _).setCell (by simp) _) (fun c hc => by simp at hc; subst hc; exact ⟨Nat.le_refl _, hw3.out⟩) HLW.out⟩

/-! ### Push -/
theorem item_loads (w : World) (k : Nat) (id : Int) : Blk (w.alloc (.cells #[.int .u64 (k : Int), .int .i64 id] 54)) w.heap.size 54 [.int .u64 (k : Int), .int .i64 id] := Blk.new w 54 [.int .u64 (k : Int), .int .i64 id]

set_option maxHeartbeats 4000000 in
theorem SAt.push_low (h : SAt W w sb wb hb base wd A B fw fh) (h64 : base < 18446744073709551616) (k : Nat) (hk : k < 18446744073709551616) (id : Int) (hlow : k < base) :
    Calls Tryz.prog 65 #[.pointer (some ⟨sb, 0, none⟩), .agg #[.int .u64 k, .int .i64 id]] w (RetUpd [] w (.bool false)) := by
  obtain ⟨width, p0, p1, p2, hwid, ls⟩ := h.cells
  have HH := Lib.hid h
  have HLT := Lib.hid h.lt
  have HLW := Lib.hid h.ltW
  have HLV := Lib.hid (fun w => level_any base k h64 hk width w)
  rw [hwid] at HLV
  obtain ⟨w1, hw1⟩ : ∃ w1, w1 = w.alloc (.cells #[.int .u64 (k : Int), .int .i64 id] 54 (0, 0)) := ⟨_, rfl⟩
  have hU1 : Upd [] w w1 := by rw [hw1]; exact (Upd.refl [] w).alloc _
  have hB1 : Blk w1 w.heap.size 54 [.int .u64 (k : Int), .int .i64 id] := by rw [hw1]; exact item_loads w k id
  have x0 := hB1.cell (j := 0) rfl
  have x1 := hB1.cell (j := 1) rfl
  have xl := hB1.lt
  have q0 := (hU1.cell ls (by simp) 0).trans p0
  have q1 := (hU1.cell ls (by simp) 1).trans p1
  have q2 := (hU1.cell ls (by simp) 2).trans p2
  have lq := Nat.lt_of_lt_of_le ls hU1.size
  have HU1 := Lib.hid hU1
  have HH1 := Lib.hid (HH.out.upd hU1)
  have HW1 := Lib.hid hw1
  have HB1 := Lib.hid hB1
  have HL : Hid (levN wd base k = -1) := by unfold Hid levN; rw [if_pos hlow]
  clear h hwid hw1 hU1 hB1 p0 p1 p2 hlow
  go_enter Tryz.func65, Tryz.ntmps65
  go_wp2_with fail
  rw [← HW1.out]
  go_quiet ((first | (go_at_call 80; exact Calls.quiet_of_same ((SAt.base_ (HH1.out.upd ((Upd.refl [] w1).drewN _))).mono (fun _ _ h => ⟨h.1, h.2.symm⟩))) | (go_at_call 79; exact Calls.quiet_of_same ((HLV.out _).mono (fun _ _ h => ⟨by rw [h.1, HL.out], h.2.symm⟩)))))
  go_wp2
  go_ret
  exact ⟨rfl, HU1.out.drewN _⟩

set_option maxHeartbeats 4000000 in
theorem SAt.push_has (h : SAt W w sb wb hb base wd A B fw fh) (h64 : base < 18446744073709551616) (k : Nat) (hk : k < 18446744073709551616) (id : Int) (hlow : base ≤ k) (hx : hasI (A ++ B) id = true) :
    Calls Tryz.prog 65 #[.pointer (some ⟨sb, 0, none⟩), .agg #[.int .u64 k, .int .i64 id]] w (RetUpd [] w (.bool false)) := by
  obtain ⟨width, p0, p1, p2, hwid, ls⟩ := h.cells
  have HH := Lib.hid h
  have HLT := Lib.hid h.lt
  have HLW := Lib.hid h.ltW
  have HLV := Lib.hid (fun w => level_any base k h64 hk width w)
  rw [hwid] at HLV
  obtain ⟨w1, hw1⟩ : ∃ w1, w1 = w.alloc (.cells #[.int .u64 (k : Int), .int .i64 id] 54 (0, 0)) := ⟨_, rfl⟩
  have hU1 : Upd [] w w1 := by rw [hw1]; exact (Upd.refl [] w).alloc _
  have hB1 : Blk w1 w.heap.size 54 [.int .u64 (k : Int), .int .i64 id] := by rw [hw1]; exact item_loads w k id
  have x0 := hB1.cell (j := 0) rfl
  have x1 := hB1.cell (j := 1) rfl
  have xl := hB1.lt
  have q0 := (hU1.cell ls (by simp) 0).trans p0
  have q1 := (hU1.cell ls (by simp) 1).trans p1
  have q2 := (hU1.cell ls (by simp) 2).trans p2
  have lq := Nat.lt_of_lt_of_le ls hU1.size
  have HU1 := Lib.hid hU1
  have HH1 := Lib.hid (HH.out.upd hU1)
  have HW1 := Lib.hid hw1
  have HB1 := Lib.hid hB1
  obtain ⟨l, hl⟩ : ∃ l, lev3 wd base k = l := ⟨_, rfl⟩
  have HL : Hid (levN wd base k = (l : Int)) := by unfold Hid levN; rw [if_neg (by omega), hl]
  have t1 : decide ((l : Int) < 0) = false := by simp
  have HX := Lib.hid hx
  clear h hwid hw1 hU1 hB1 p0 p1 p2 hlow hl hx
  go_enter Tryz.func65, Tryz.ntmps65
  go_wp2_with fail
  rw [← HW1.out]
  go_quiet ((first | (go_at_call 80; exact Calls.quiet_of_same ((SAt.base_ (HH1.out.upd ((Upd.refl [] w1).drewN _))).mono (fun _ _ h => ⟨h.1, h.2.symm⟩))) | (go_at_call 79; exact Calls.quiet_of_same ((HLV.out _).mono (fun _ _ h => ⟨by rw [h.1, HL.out], h.2.symm⟩)))))
  go_wp2_with fail
  refine ((HH1.out.upd ((Upd.refl [] w1).drewN _)).has id).mono ?_
  rintro e w3 ⟨rfl, hU3⟩
  rw [HX.out]
  go_wp2
  go_ret
  exact ⟨rfl, (HU1.out.drewN _).trans hU3⟩

set_option maxHeartbeats 4000000 in
theorem SAt.push_far (h : SAt W w sb wb hb base wd A B fw fh) (h64 : base < 18446744073709551616) (k : Nat) (hk : k < 18446744073709551616) (id : Int) (hlow : base ≤ k) (hl : lev3 wd base k = 3) (hx : hasI (A ++ B) id = false) (hsm : (A ++ B).length < 1000) :
    Calls Tryz.prog 65 #[.pointer (some ⟨sb, 0, none⟩), .agg #[.int .u64 k, .int .i64 id]] w (fun e w' => e = .returned (.bool true) ∧ SATo W sb wb hb base wd A (insI ((k : Int), id) B) (sb :: (fw ++ fh)) w w') := by
  obtain ⟨width, p0, p1, p2, hwid, ls⟩ := h.cells
  have HH := Lib.hid h
  have HLT := Lib.hid h.lt
  have HLW := Lib.hid h.ltW
  have HLV := Lib.hid (fun w => level_any base k h64 hk width w)
  rw [hwid] at HLV
  obtain ⟨w1, hw1⟩ : ∃ w1, w1 = w.alloc (.cells #[.int .u64 (k : Int), .int .i64 id] 54 (0, 0)) := ⟨_, rfl⟩
  have hU1 : Upd [] w w1 := by rw [hw1]; exact (Upd.refl [] w).alloc _
  have hB1 : Blk w1 w.heap.size 54 [.int .u64 (k : Int), .int .i64 id] := by rw [hw1]; exact item_loads w k id
  have x0 := hB1.cell (j := 0) rfl
  have x1 := hB1.cell (j := 1) rfl
  have xl := hB1.lt
  have q0 := (hU1.cell ls (by simp) 0).trans p0
  have q1 := (hU1.cell ls (by simp) 1).trans p1
  have q2 := (hU1.cell ls (by simp) 2).trans p2
  have lq := Nat.lt_of_lt_of_le ls hU1.size
  have HU1 := Lib.hid hU1
  have HH1 := Lib.hid (HH.out.upd hU1)
  have HW1 := Lib.hid hw1
  have HB1 := Lib.hid hB1
  have HL : Hid (levN wd base k = 3) := by unfold Hid levN; rw [if_neg (by omega), hl]; rfl
  have HX := Lib.hid hx
  rw [hasI_app, Bool.or_eq_false_iff] at hx
  have HXB := Lib.hid hx.2
  have HSM : Hid (B.length < 1000) := by unfold Hid; rw [List.length_append] at hsm; omega
  clear h hwid hw1 hU1 hB1 p0 p1 p2 hlow hl hx hsm
  go_enter Tryz.func65, Tryz.ntmps65
  go_wp2_with fail
  rw [← HW1.out]
  go_quiet ((first | (go_at_call 80; exact Calls.quiet_of_same ((SAt.base_ (HH1.out.upd ((Upd.refl [] w1).drewN _))).mono (fun _ _ h => ⟨h.1, h.2.symm⟩))) | (go_at_call 79; exact Calls.quiet_of_same ((HLV.out _).mono (fun _ _ h => ⟨by rw [h.1, HL.out], h.2.symm⟩)))))
  go_wp2_with fail
  refine ((HH1.out.upd ((Upd.refl [] w1).drewN _)).has id).mono ?_
  rintro e w3 ⟨rfl, hU3⟩
  rw [HX.out]
  have hU13 : Upd [] w1 w3 := ((Upd.refl [] w1).drewN _).trans hU3
  have x0 := (hU13.cell xl (by simp) 0).trans x0
  have x1 := (hU13.cell xl (by simp) 1).trans x1
  have q1 := (hU13.cell lq (by simp) 1).trans q1
  have lq3 := Nat.lt_of_lt_of_le lq hU13.size
  have xl3 := Nat.lt_of_lt_of_le xl hU13.size
  have HH3 := Lib.hid (HH1.out.upd hU13)
  have HU3 : Hid (Upd [] w w3) := HU1.out.trans hU13
  clear hU13 hU3 q0 q2
  go_wp2_with fail
  go_region_with (go_at_call 82; refine ((HH3.out.upd (Upd.refl [] w3).drew).hp.push ((k : Int), id) HSM.out).mono ?_; rintro e w4 ⟨he, h4⟩; rw [HXB.out] at he h4; subst he; rw [if_neg (by simp)] at h4; have H4 := Lib.hid ((HH3.out.upd (Upd.refl [] w3).drew).hstep h4); clear h4)
  all_goals
    go_wp2
    go_ret
    obtain ⟨fh', hA4, hF4⟩ := H4.out
    exact ⟨rfl, fw, fh', hA4, ⟨fun c hc => by rcases hF4.1 c hc with h | h; exact .inl h; exact .inr (Nat.le_trans HU3.out.size h), (HU3.out.drew.nil).trans hF4.2⟩⟩

set_option maxHeartbeats 4000000 in
theorem SAt.push_near (h : SAt W w sb wb hb base wd A B fw fh) (h64 : base < 18446744073709551616) (k : Nat) (hk : k < 18446744073709551616) (id : Int) (hlow : base ≤ k) (h3 : lev3 wd base k < 3) (hx : hasI (A ++ B) id = false) (hsm : (A ++ B).length < 1000) :
    Calls Tryz.prog 65 #[.pointer (some ⟨sb, 0, none⟩), .agg #[.int .u64 k, .int .i64 id]] w (fun e w' => e = .returned (.bool true) ∧ SATo W sb wb hb base wd (insI ((k : Int), id) A) B (sb :: (fw ++ fh)) w w') := by
  obtain ⟨width, p0, p1, p2, hwid, ls⟩ := h.cells
  have HH := Lib.hid h
  have HLT := Lib.hid h.lt
  have HLW := Lib.hid h.ltW
  have HLV := Lib.hid (fun w => level_any base k h64 hk width w)
  rw [hwid] at HLV
  obtain ⟨w1, hw1⟩ : ∃ w1, w1 = w.alloc (.cells #[.int .u64 (k : Int), .int .i64 id] 54 (0, 0)) := ⟨_, rfl⟩
  have hU1 : Upd [] w w1 := by rw [hw1]; exact (Upd.refl [] w).alloc _
  have hB1 : Blk w1 w.heap.size 54 [.int .u64 (k : Int), .int .i64 id] := by rw [hw1]; exact item_loads w k id
  have x0 := hB1.cell (j := 0) rfl
  have x1 := hB1.cell (j := 1) rfl
  have xl := hB1.lt
  have q0 := (hU1.cell ls (by simp) 0).trans p0
  have q1 := (hU1.cell ls (by simp) 1).trans p1
  have q2 := (hU1.cell ls (by simp) 2).trans p2
  have lq := Nat.lt_of_lt_of_le ls hU1.size
  have HU1 := Lib.hid hU1
  have HH1 := Lib.hid (HH.out.upd hU1)
  have HW1 := Lib.hid hw1
  have HB1 := Lib.hid hB1
  obtain ⟨l, hl⟩ : ∃ l, lev3 wd base k = l := ⟨_, rfl⟩
  have HL : Hid (levN wd base k = (l : Int)) := by unfold Hid levN; rw [if_neg (by omega), hl]
  have t1 : decide ((l : Int) < 0) = false := by simp
  have t2 : decide ((2 : Int) < (l : Int)) = false := by simp; omega
  have t3 : decide (2 < l) = false := by simp; omega
  have HX := Lib.hid hx
  rw [hasI_app, Bool.or_eq_false_iff] at hx
  have HFI : Hid ((fitsB base wd k && !hasI A id) = true) := by unfold Hid fitsB; rw [hx.1]; simp [hlow, h3]
  have HSM : Hid (A.length < 1000) := by unfold Hid; rw [List.length_append] at hsm; omega
  have HK := Lib.hid hk
  clear h hwid hw1 hU1 hB1 p0 p1 p2 hlow hl hx hsm h3
  go_enter Tryz.func65, Tryz.ntmps65
  go_wp2_with fail
  rw [← HW1.out]
  go_quiet ((first | (go_at_call 80; exact Calls.quiet_of_same ((SAt.base_ (HH1.out.upd ((Upd.refl [] w1).drewN _))).mono (fun _ _ h => ⟨h.1, h.2.symm⟩))) | (go_at_call 79; exact Calls.quiet_of_same ((HLV.out _).mono (fun _ _ h => ⟨by rw [h.1, HL.out], h.2.symm⟩)))))
  go_wp2_with fail
  refine ((HH1.out.upd ((Upd.refl [] w1).drewN _)).has id).mono ?_
  rintro e w3 ⟨rfl, hU3⟩
  rw [HX.out]
  have hU13 : Upd [] w1 w3 := ((Upd.refl [] w1).drewN _).trans hU3
  have x0 := (hU13.cell xl (by simp) 0).trans x0
  have x1 := (hU13.cell xl (by simp) 1).trans x1
  have q0 := (hU13.cell lq (by simp) 0).trans q0
  have lq3 := Nat.lt_of_lt_of_le lq hU13.size
  have xl3 := Nat.lt_of_lt_of_le xl hU13.size
  have HH3 := Lib.hid (HH1.out.upd hU13)
  have HU3 : Hid (Upd [] w w3) := HU1.out.trans hU13
  clear hU13 hU3 q1 q2
  go_wp2_with fail
  go_region_with (go_at_call 83; refine ((HH3.out.upd (Upd.refl [] w3).drew).whl.push k HK.out id HSM.out).mono ?_; rintro e w4 ⟨he, h4⟩; rw [HFI.out] at he h4; subst he; rw [if_pos rfl] at h4; have H4 := Lib.hid ((HH3.out.upd (Upd.refl [] w3).drew).wstep h4); clear h4)
  all_goals
    go_wp2
    go_ret
    obtain ⟨fw', hA4, hF4⟩ := H4.out
    exact ⟨rfl, fw', fh, hA4, ⟨fun c hc => by rcases hF4.1 c hc with h | h; exact .inl h; exact .inr (Nat.le_trans HU3.out.size h), (HU3.out.drew.nil).trans hF4.2⟩⟩
theorem SAt.b64 (h : SAt W w sb wb hb base wd A B fw fh) : base < 18446744073709551616 := by
  obtain ⟨s, h1, _, rfl, _⟩ := h.whl; exact h1.b64

/-- A shard in blocks that are new since W: items in order. -/
def SL (W : World) (sb base wd : Nat) (L : List It) (F : List Nat) (w : World) : Prop := ∃ A B, L = A ++ B ∧ SG W sb base wd A B F w
def SLTo (W : World) (sb base wd : Nat) (L : List It) (F : List Nat) (w w' : World) : Prop := ∃ F', SL W sb base wd L F' w' ∧ Fr F F' w w'
def takeS (base : Nat) (L : List It) (k : Nat) (id : Int) : Bool := decide (base ≤ k) && !hasI L id
theorem SL.push {L : List It} {F : List Nat} (h : SL W sb base wd L F w) (k : Nat) (hk : k < 18446744073709551616) (id : Int) (hsm : L.length < 1000) :
    Calls Tryz.prog 65 #[.pointer (some ⟨sb, 0, none⟩), .agg #[.int .u64 k, .int .i64 id]] w (fun e w' => e = .returned (.bool (takeS base L k id)) ∧ SLTo W sb base wd (if takeS base L k id = true then insI ((k : Int), id) L else L) F w w') := by
  have h0 := h
  obtain ⟨A, B, rfl, wb, hb, fw, fh, h1, h2, h3, rfl⟩ := h
  have hkn : kn ((k : Int), id) = k := by unfold kn; simp
  by_cases hc : takeS base (A ++ B) k id = true
  · rw [hc, if_pos rfl]
    unfold takeS at hc
    rw [Bool.and_eq_true, decide_eq_true_iff] at hc
    have hx : hasI (A ++ B) id = false := by simpa using hc.2
    have hlen : (insI ((k : Int), id) (A ++ B)).length ≤ 1000 := by rw [(insI_perm _ _).length_eq, List.length_cons]; omega
    by_cases hl : lev3 wd base k < 3
    · obtain ⟨e, ho⟩ := h2.push_near (x := ((k : Int), id)) (by rw [hkn]) (by rw [hkn]; exact hk) (by rw [hkn]; exact hc.1) (by rw [hkn]; exact hl) hx
      refine (h1.push_near h1.b64 k hk id hc.1 hl hx hsm).mono ?_
      rintro e1 w' ⟨rfl, fw', fh', k1, k2⟩
      exact ⟨rfl, _, ⟨_, _, e, wb, hb, fw', fh', k1, ho, by rw [← e]; exact hlen, rfl⟩, k2⟩
    · have hl3 : lev3 wd base k = 3 := by have := lev3_le wd base k; omega
      obtain ⟨e, ho⟩ := h2.push_far (x := ((k : Int), id)) (by rw [hkn]) (by rw [hkn]; exact hk) (by rw [hkn]; exact hc.1) (by rw [hkn]; exact hl3) hx
      refine (h1.push_far h1.b64 k hk id hc.1 hl3 hx hsm).mono ?_
      rintro e1 w' ⟨rfl, fw', fh', k1, k2⟩
      exact ⟨rfl, _, ⟨_, _, e, wb, hb, fw', fh', k1, ho, by rw [← e]; exact hlen, rfl⟩, k2⟩
  · have hcf : takeS base (A ++ B) k id = false := by simpa using hc
    rw [hcf, if_neg (by simp)]
    unfold takeS at hcf
    have hno : ∀ w', RetUpd [] w (.bool false) (.returned (.bool false)) w' → SLTo W sb base wd (A ++ B) (sb :: (fw ++ fh)) w w' := fun w' hr => ⟨_, ⟨A, B, rfl, wb, hb, fw, fh, h1.upd hr.2, h2, h3, rfl⟩, Fr.of hr.2⟩
    by_cases hb1 : base ≤ k
    · have hx : hasI (A ++ B) id = true := by simpa [hb1] using hcf
      refine (h1.push_has h1.b64 k hk id hb1 hx).mono ?_
      rintro e w' ⟨rfl, hU⟩
      exact ⟨rfl, hno w' ⟨rfl, hU⟩⟩
    · refine (h1.push_low h1.b64 k hk id (by omega)).mono ?_
      rintro e w' ⟨rfl, hU⟩
      exact ⟨rfl, hno w' ⟨rfl, hU⟩⟩
theorem SL.drop {L : List It} {F : List Nat} (h : SL W sb base wd L F w) (id : Int) :
    Calls Tryz.prog 87 #[.pointer (some ⟨sb, 0, none⟩), .int .i64 id] w (fun e w' => e = .returned (dropV L id) ∧ SLTo W sb base wd (dropI L id) F w w') := by
  obtain ⟨A, B, rfl, wb, hb, fw, fh, h1, h2, h3, rfl⟩ := h
  refine (h1.drop h2.nd id).mono ?_
  rintro e w' ⟨rfl, fw', fh', k1, k2⟩
  refine ⟨rfl, _, ⟨_, _, dropI_app A B id, wb, hb, fw', fh', k1, h2.drop id, ?_, rfl⟩, k2⟩
  rw [← dropI_app]
  exact Nat.le_trans (List.length_filter_le _ _) h3
end
end Go.Proofs.YtolohheflbmfaaaGreatDoor

/-! Se -/
namespace Go.Proofs.YtolohheflbmfaaaGreatDoor
open Go.RowKit

theorem HG.lenCell {W w : World} {hb : Nat} {L : List It} {fp : List Nat} (h : HG W hb L fp w) : ∃ ao cap, w.cell? ⟨hb, 0, none⟩ = some (.slice ao L.length cap) := by
  obtain ⟨⟨ao, cap, mb, A, h1, h2, h3, h4, h5⟩, _⟩ := h
  exact ⟨ao, cap, by rw [← h3.length_eq]; exact h1.top.cell (j := 0) rfl⟩

/-- The length in a cell: a loop's measure. -/
def cellLen (w : World) (b : Nat) : Nat := match w.cell? ⟨b, 0, none⟩ with | some (.slice _ n _) => n | _ => 0
theorem HG.cellLen_eq {W w : World} {hb : Nat} {L : List It} {fp : List Nat} (h : HG W hb L fp w) : cellLen w hb = L.length := by
  obtain ⟨ao, cap, hc⟩ := h.lenCell
  unfold cellLen; rw [hc]
theorem SMid.ofOk {base wd : Nat} {A B : List It} (h : SOk base wd A B) : SMid base wd A B := ⟨h.srt, h.nd, h.key, h.near⟩


/-- On the way: a variable that bears the first item that lies beyond. -/
def OverAt (W w : World) (sb wb hb base wd : Nat) (L : List It) (F : List Nat) (s4 s5 : Value) (wr : World) : Prop :=
  ∃ A B fw fh g y ok, s4 = .pointer (some ⟨g, 0, none⟩) ∧ s5 = .bool ok ∧ firstV B = itV y ok ∧ SAt W wr sb wb hb base wd A B fw fh ∧ SMid base wd A B ∧ A ++ B = L ∧ Fr F (sb :: (fw ++ fh)) w wr ∧ Blk wr g 54 [.int .u64 y.1, .int .i64 y.2] ∧ w.heap.size ≤ g ∧ g ∉ sb :: (fw ++ fh)
def OverTo (W w : World) (sb wb hb base wd : Nat) (L : List It) (F : List Nat) (w' : World) : Prop :=
  ∃ A B fw fh, SAt W w' sb wb hb base wd A B fw fh ∧ SOk base wd A B ∧ A ++ B = L ∧ Fr F (sb :: (fw ++ fh)) w w'
section
variable {W w : World} {sb wb hb base wd : Nat} {A B : List It} {fw fh : List Nat}

theorem over_step {w wr w3 w4 w5 : World} {A1 B1 : List It} {b : It} {F fw1 fh1 fw3 fh4 : List Nat} (hsz : w.heap.size ≤ wr.heap.size) (hF1 : Fr F (sb :: (fw1 ++ fh1)) w wr) (hF3 : Fr (sb :: (fw1 ++ fh1)) (sb :: (fw3 ++ fh1)) wr w3) (hF4 : Fr (sb :: (fw3 ++ fh1)) (sb :: (fw3 ++ fh4)) w3 w4) (hS4 : SAt W w4 sb wb hb base wd A1 B1 fw3 fh4) (hU : Upd [] w4 w5)
    (hB : Blk w5 w4.heap.size 54 [.int .u64 b.1, .int .i64 b.2]) (y : It) (hlt : ∀ c ∈ sb :: (fw1 ++ fh1), c < wr.heap.size) :
    SAt W ((w5.setCell ⟨w4.heap.size, 0, none⟩ (.int .u64 y.1)).setCell ⟨w4.heap.size, 1, none⟩ (.int .i64 y.2)) sb wb hb base wd A1 B1 fw3 fh4 ∧
      Fr F (sb :: (fw3 ++ fh4)) w ((w5.setCell ⟨w4.heap.size, 0, none⟩ (.int .u64 y.1)).setCell ⟨w4.heap.size, 1, none⟩ (.int .i64 y.2)) ∧
      Blk ((w5.setCell ⟨w4.heap.size, 0, none⟩ (.int .u64 y.1)).setCell ⟨w4.heap.size, 1, none⟩ (.int .i64 y.2)) w4.heap.size 54 [.int .u64 y.1, .int .i64 y.2] ∧ w.heap.size ≤ w4.heap.size ∧ w4.heap.size ∉ sb :: (fw3 ++ fh4) := by
  have hl4 := hS4.lt
  have hs34 := hF4.2.size
  have hs13 := hF3.2.size
  have hW := hS4.ltW
  have hu : Upd [w4.heap.size] w5 ((w5.setCell ⟨w4.heap.size, 0, none⟩ (.int .u64 y.1)).setCell ⟨w4.heap.size, 1, none⟩ (.int .i64 y.2)) := ((Upd.refl _ _).setCell (by simp) _).setCell (by simp) _
  have hn : w4.heap.size ∉ sb :: (fw3 ++ fh4) := fun e => by have := hl4 _ e; omega
  have hfr := (hF1.trans hF3).trans hF4
  refine ⟨(hS4.upd hU).updS hu (fun c hc e => ?_) (fun c hc => ?_), ⟨hfr.1, ?_⟩, ?_, by omega, hn⟩
  · simp at e; subst e; exact hn hc
  · simp at hc; subst hc; exact hW
  · exact (hfr.2.trans hU.nil).then hu (fun _ _ h => h) (fun i hi hm => by simp at hm; omega)
  · exact (hB.set 0 (.int .u64 y.1)).set 1 (.int .i64 y.2)


set_option maxRecDepth 100000 in
set_option maxHeartbeats 16000000 in
theorem SAt.over (h : SAt W w sb wb hb base wd A B fw fh) (hm : SMid base wd A B) (hl : (A ++ B).length ≤ 1000) :
    Calls Tryz.prog 109 #[.pointer (some ⟨sb, 0, none⟩), .func (.func 83) #[.pointer (some ⟨wb, 0, none⟩)] #[]] w (fun e w' => e = .returned (.tuple #[]) ∧ OverTo W w sb wb hb base wd (A ++ B) (sb :: (fw ++ fh)) w') := by
  obtain ⟨width, p0, p1, p2, -, ls⟩ := h.cells
  have HH := Lib.hid h
  have HM := Lib.hid hm
  have HLT := Lib.hid h.lt
  have HLL := Lib.hid hl
  obtain ⟨y, ok, hy⟩ : ∃ y ok, firstV B = itV y ok := by cases B <;> exact ⟨_, _, rfl⟩
  have HY := Lib.hid hy
  clear h hm hl hy
  go_enter Tryz.func109, Tryz.ntmps109
  go_wp2_with fail
  refine HH.out.hp.min_.mono ?_
  rintro e w2 ⟨rfl, hU2⟩
  rw [HY.out]
  unfold itV
  have HS2 : Hid (OverAt W w sb wb hb base wd (A ++ B) (sb :: (fw ++ fh)) (.pointer (some ⟨w2.heap.size, 0, none⟩)) (.bool ok) (w2.alloc (.cells #[.int .u64 y.1, .int .i64 y.2] 54))) := by
    have hs := hU2.size
    exact ⟨A, B, fw, fh, w2.heap.size, y, ok, rfl, rfl, HY.out, (HH.out.upd hU2).upd ((Upd.refl [] w2).alloc _), HM.out, rfl, Fr.of (hU2.alloc _), Blk.new w2 54 [.int .u64 y.1, .int .i64 y.2], hs, fun e => by have := HLT.out w2.heap.size e; omega⟩
  clear hU2 p0 p1 p2 ls
  go_wp2
  go_loopw [4, 5] (fun s4 s5 wr => OverAt W w sb wb hb base wd (A ++ B) (sb :: (fw ++ fh)) s4 s5 wr) (fun _ _ wr => cellLen wr hb)
  case atStart => exact HS2.out
  case round =>
    clear HS2 HY
    obtain ⟨A1, B1, fw1, fh1, g, y1, ok1, rfl, rfl, hy1, hS, hM, hL, hF, hG, hg1, hg2⟩ := hrel
    obtain ⟨width, p0, p1, p2, -, ls⟩ := hS.cells
    have HS := Lib.hid hS
    have HM1 := Lib.hid hM
    have HL1 := Lib.hid hL
    have HF1 := Lib.hid hF
    have HG1 := Lib.hid hG
    have HLT1 := Lib.hid hS.lt
    have hy0 := hG.cell (j := 0) rfl
    have hy01 := hG.cell (j := 1) rfl
    have lg := hG.lt
    have HSZ := Lib.hid hF.2.size
    have hg2' := Lib.hid hg2
    have hgw : g ∉ fw1 := fun e => hg2 (by simp [e])
    have hgh : g ∉ fh1 := fun e => hg2 (by simp [e])
    have hgs : g ≠ sb := fun e => hg2 (by simp [e])
    have HGW := Lib.hid hgw
    have HGH := Lib.hid hgh
    clear hS hM hL hF hG hg2 hgw hgh
    cases ok1 with
    | false =>
      have hB : Hid (B1 = []) := by
        cases B1 with
        | nil => rfl
        | cons b B1 => simp [firstV, itV] at hy1
      clear hy1
      go_wp2
      go_end0
      exact ⟨rfl, A1, B1, fw1, fh1, HS.out, HM1.out.done (fun x r e => by rw [hB.out] at e; cases e), HL1.out, HF1.out⟩
    | true =>
      cases B1 with
      | nil => simp [firstV, itV] at hy1
      | cons b B1 =>
        have hby : b = y1 := by
          simp only [firstV, itV, Value.tuple.injEq, Array.mk.injEq, List.cons.injEq, Value.agg.injEq, Value.int.injEq, true_and, and_true] at hy1
          exact Prod.ext hy1.1 hy1.2
        subst hby
        obtain ⟨hk1, hk2, hk3⟩ := HM1.out.key b (by simp)
        have hx0 : hasI A1 b.2 = false := nd_app_left HM1.out.nd (by unfold hasI; simp)
        have hsmA : A1.length < 1000 := by
          have := HLL.out
          rw [← HL1.out, List.length_append, List.length_cons] at this
          omega
        have HSMA := Lib.hid hsmA
        have hkey : b = ((kn b : Int), b.2) := Prod.ext hk1 rfl
        obtain ⟨k, hkk⟩ : ∃ k, kn b = k := ⟨_, rfl⟩
        have HKK := Lib.hid hkk
        rw [hkk] at hk1 hk2 hk3 hkey
        have HKEY := Lib.hid hkey
        have HK2 := Lib.hid hk2
        rw [hk1] at hy0
        by_cases hf : lev3 wd base k < 3
        · have HFI : Hid ((fitsB base wd k && !hasI A1 b.2) = true) := by unfold Hid fitsB; rw [hx0]; simp [hk3, hf]
          obtain ⟨hst1, hst2, -⟩ := HM1.out.step (x := b) (by rw [hkk]; exact hf)
          have HST1 := Lib.hid hst1
          have HST2 := Lib.hid hst2
          clear hy1 hk1 hk2 hk3 hx0 hsmA hkey hkk hf hst1 hst2
          go_wp2_with fail
          refine (HS.out.whl.push k HK2.out b.2 HSMA.out).mono ?_
          rintro e w3 ⟨rfl, h3⟩
          rw [HFI.out] at h3 ⊢
          rw [if_pos rfl, ← HKEY.out, HST1.out] at h3
          have hg3 := HG1.out.upd h3.up_ HGW.out
          obtain ⟨fw3, hS3, hF3⟩ := HS.out.wstep h3
          obtain ⟨width, p0, p1, p2, -, ls⟩ := hS3.cells
          have HS3 := Lib.hid hS3
          have HF3 := Lib.hid hF3
          have HG3 := Lib.hid hg3
          clear h3 hS3 hF3 hg3 hy0 hy01 lg
          go_wp2_with fail
          refine HS3.out.hp.pop.mono ?_
          rintro e w4 ⟨rfl, h4⟩
          have hg4 := HG3.out.upd h4.up_ HGH.out
          obtain ⟨fh4, hS4, hF4⟩ := HS3.out.hstep h4
          rw [List.tail_cons] at hS4
          obtain ⟨width, p0, p1, p2, -, ls⟩ := hS4.cells
          have HS4 := Lib.hid hS4
          have HF4 := Lib.hid hF4
          have HG4 := Lib.hid hg4
          have hy0 := hg4.cell (j := 0) rfl
          have hy01 := hg4.cell (j := 1) rfl
          have lg := hg4.lt
          have HLT4 := Lib.hid hS4.lt
          obtain ⟨y5, ok5, hy5⟩ : ∃ y ok, firstV B1 = itV y ok := by cases B1 <;> exact ⟨_, _, rfl⟩
          have HY5 := Lib.hid hy5
          unfold firstV itV
          clear h4 hS4 hF4 hg4 hy5
          go_wp2_with fail
          refine ((HS4.out.upd ((Upd.refl [] w4).alloc _)).hp.min_).mono ?_
          rintro e w5 ⟨rfl, hU5⟩
          rw [HY5.out]
          unfold itV
          have HB5 : Hid (Blk w5 w4.heap.size 54 [.int .u64 b.1, .int .i64 b.2]) := (Blk.new w4 54 [.int .u64 b.1, .int .i64 b.2]).upd hU5 (by simp)
          have z0 := HB5.out.cell (j := 0) rfl
          have z1 := HB5.out.cell (j := 1) rfl
          have zf := HB5.out.free 0
          have zf1 := HB5.out.free 1
          have zl := HB5.out.lt
          have HU45 : Hid (Upd [] w4 w5) := ((Upd.refl [] w4).alloc _).trans hU5
          clear hU5
          go_wp2
          have hF := over_step HSZ.out HF1.out HF3.out HF4.out HS4.out HU45.out HB5.out y5 HLT1.out
          exact ⟨⟨A1 ++ [b], B1, fw3, fh4, w4.heap.size, y5, ok5, rfl, rfl, HY5.out, hF.1, HST2.out, by rw [List.append_assoc]; exact HL1.out, hF.2.1, hF.2.2.1, hF.2.2.2.1, hF.2.2.2.2⟩, by rw [hF.1.hp.cellLen_eq, HS.out.hp.cellLen_eq]; simp⟩
        · have HNF : Hid (¬ lev3 wd base k < 3) := hf
          have HFI : Hid ((fitsB base wd k && !hasI A1 b.2) = false) := by unfold Hid fitsB; simp [hf]
          clear hy1 hk1 hk2 hk3 hx0 hsmA hkey hkk hf
          go_wp2_with fail
          refine (HS.out.whl.push k HK2.out b.2 HSMA.out).mono ?_
          rintro e w3 ⟨rfl, h3⟩
          rw [HFI.out] at h3 ⊢
          rw [if_neg (by simp)] at h3
          obtain ⟨fw3, hS3, hF3⟩ := HS.out.wstep h3
          have HS3 := Lib.hid hS3
          have HF3 := Lib.hid hF3
          clear h3 hS3 hF3
          go_wp2
          go_end0
          exact ⟨rfl, A1, b :: B1, fw3, fh1, HS3.out, HM1.out.done (fun x r e => by
            simp only [List.cons.injEq] at e
            rw [← e.1, HKK.out]; exact HNF.out), HL1.out, HF1.out.trans HF3.out⟩
end
end Go.Proofs.YtolohheflbmfaaaGreatDoor

/-! Sf -/
namespace Go.Proofs.YtolohheflbmfaaaGreatDoor
open Go.RowKit

section
variable {W w : World} {sb wb hb base wd : Nat} {A B : List It} {fw fh : List Nat}

theorem movB_iff {base t : Nat} {L : List It} : movB base L t = true ↔ base ≤ t ∧ ∀ x ∈ L, t ≤ kn x := by
  unfold movB
  rw [Bool.and_eq_true, decide_eq_true_iff, List.all_eq_true]
  simp
theorem SOk.head {x : It} {r : List It} (h : SOk base wd A B) (e : A ++ B = x :: r) {t : Nat} : (∀ y ∈ A ++ B, t ≤ kn y) ↔ t ≤ kn x := by
  have hs := h.srt
  have hk := h.key
  rw [e] at hs hk ⊢
  constructor
  · intro g; exact g x (by simp)
  · intro g y hy
    exact Nat.le_trans g (srt_head_le hs (fun z hz => (hk z hz).1) y hy)

set_option maxHeartbeats 4000000 in
/-- The first item lies below: no way. -/
theorem SAt.move_over (h : SAt W w sb wb hb base wd A B fw fh) (ho : SOk base wd A B) (hl : (A ++ B).length ≤ 1000) (t : Nat) {y : It} {r : List It} (e : A ++ B = y :: r) (hty : kn y < t) :
    Calls Tryz.prog 88 #[.pointer (some ⟨sb, 0, none⟩), .int .u64 t] w (RetUpd [] w (.bool false)) := by
  obtain ⟨width, p0, p1, p2, -, ls⟩ := h.cells
  have HH := Lib.hid h
  have HO := Lib.hid ho
  have HLL := Lib.hid hl
  have HLT := Lib.hid h.lt
  have HY : Hid (firstV (A ++ B) = itV y true) := by unfold Hid; rw [e]; rfl
  have hk := (ho.key y (by rw [e]; simp)).1
  obtain ⟨k, hkk⟩ : ∃ k, kn y = k := ⟨_, rfl⟩
  rw [hkk] at hk hty
  obtain ⟨y1, y2⟩ := y
  simp only at hk
  subst hk
  have t1 : decide (k < t) = true := by simp [hty]
  clear h ho hl e hkk hty
  go_enter Tryz.func88, Tryz.ntmps88
  go_wp2_with fail
  refine (HH.out.min HO.out.srt).mono ?_
  rintro e w2 ⟨rfl, hU2⟩
  rw [HY.out]
  unfold itV
  have q0 := (hU2.cell ls (by simp) 0).trans p0
  have q1 := (hU2.cell ls (by simp) 1).trans p1
  have lq := Nat.lt_of_lt_of_le ls hU2.size
  have HU2 := Lib.hid hU2
  have HH2 := Lib.hid ((HH.out.upd hU2).upd ((Upd.refl [] w2).alloc (.cells #[.int .u64 (k : Int), .int .i64 y2] 54)))
  clear hU2 p0 p1 p2
  go_wp2
  go_ret
  exact ⟨rfl, HU2.out.alloc _⟩
def SMoveTo (W w : World) (sb wb hb base wd : Nat) (L : List It) (F : List Nat) (t : Nat) (e : Ending) (w' : World) : Prop :=
  e = .returned (.bool (decide (base ≤ t))) ∧ ∃ A' B' fw' fh', SAt W w' sb wb hb (if base ≤ t then t else base) wd A' B' fw' fh' ∧ SOk (if base ≤ t then t else base) wd A' B' ∧ A' ++ B' = L ∧ Fr F (sb :: (fw' ++ fh')) w w'

set_option maxHeartbeats 8000000 in
theorem SAt.move_in (h : SAt W w sb wb hb base wd A B fw fh) (ho : SOk base wd A B) (hl : (A ++ B).length ≤ 1000) (t : Nat) (ht : t < 18446744073709551616) (hall : ∀ x ∈ A ++ B, t ≤ kn x) :
    Calls Tryz.prog 88 #[.pointer (some ⟨sb, 0, none⟩), .int .u64 t] w (SMoveTo W w sb wb hb base wd (A ++ B) (sb :: (fw ++ fh)) t) := by
  obtain ⟨width, p0, p1, p2, -, ls⟩ := h.cells
  have HH := Lib.hid h
  have HO := Lib.hid ho
  have HLL := Lib.hid hl
  have HLT := Lib.hid h.lt
  have HALL := Lib.hid hall
  have HT := Lib.hid ht
  obtain ⟨y, ok, hy⟩ : ∃ y ok, firstV (A ++ B) = itV y ok := by cases A ++ B <;> exact ⟨_, _, rfl⟩
  have HY := Lib.hid hy
  have hcase : ok = false ∨ (ok = true ∧ ∃ k : Nat, y.1 = (k : Int) ∧ t ≤ k) := by
    cases hAB : A ++ B with
    | nil =>
      rw [hAB] at hy
      left
      simp only [firstV, itV, Value.tuple.injEq, Array.mk.injEq, List.cons.injEq, Value.bool.injEq, and_true] at hy
      exact hy.2.symm
    | cons x r =>
      rw [hAB] at hy
      right
      simp only [firstV, itV, Value.tuple.injEq, Array.mk.injEq, List.cons.injEq, Value.agg.injEq, Value.int.injEq, Value.bool.injEq, true_and, and_true] at hy
      have hx : x ∈ A ++ B := by rw [hAB]; simp
      exact ⟨hy.2.symm, kn x, by rw [← hy.1.1]; exact (ho.key x hx).1, hall x hx⟩
  obtain ⟨mv, hmv⟩ : ∃ mv, decide (base ≤ t) = mv := ⟨_, rfl⟩
  have hma : movB base A t = mv := by
    rw [← hmv, Bool.eq_iff_iff, movB_iff, decide_eq_true_iff]
    exact ⟨fun g => g.1, fun g => ⟨g, fun x hx => hall x (by simp [hx])⟩⟩
  have HMV := Lib.hid hmv
  have HMA := Lib.hid hma
  clear h ho hl ht hall hy hma
  rcases hcase with rfl | ⟨rfl, k, hk, htk⟩
  · cases mv with
    | false =>
      go_enter Tryz.func88, Tryz.ntmps88
      go_wp2_with fail
      refine (HH.out.min HO.out.srt).mono ?_
      rintro e w2 ⟨rfl, hU2⟩
      rw [HY.out]
      unfold itV
      have q0 := (hU2.cell ls (by simp) 0).trans p0
      have q1 := (hU2.cell ls (by simp) 1).trans p1
      have lq := Nat.lt_of_lt_of_le ls hU2.size
      have HU2 := Lib.hid hU2
      have HH2 := Lib.hid ((HH.out.upd hU2).upd ((Upd.refl [] w2).alloc (.cells #[.int .u64 y.1, .int .i64 y.2] 54)))
      clear hU2 p0 p1 p2
      go_wp2_with fail
      refine (HH2.out.whl.move_no t HT.out HMA.out).mono ?_
      rintro e w4 ⟨rfl, h4⟩
      obtain ⟨fw4, hS4, hF4⟩ := HH2.out.wstep h4
      have HS4 := Lib.hid hS4
      have HF4 := Lib.hid hF4
      clear h4 hS4 hF4
      go_wp2
      go_ret
      have hb1 : ¬ base ≤ t := by simpa using HMV.out
      refine ⟨by first | (rw [HMV.out]; rfl) | rw [HMV.out], A, B, fw4, fh, ?_⟩
      rw [if_neg hb1]
      exact ⟨HS4.out, HO.out, rfl, (Fr.of (HU2.out.alloc _)).trans HF4.out⟩
    | true =>
      go_enter Tryz.func88, Tryz.ntmps88
      go_wp2_with fail
      refine (HH.out.min HO.out.srt).mono ?_
      rintro e w2 ⟨rfl, hU2⟩
      rw [HY.out]
      unfold itV
      have q0 := (hU2.cell ls (by simp) 0).trans p0
      have q1 := (hU2.cell ls (by simp) 1).trans p1
      have lq := Nat.lt_of_lt_of_le ls hU2.size
      have HU2 := Lib.hid hU2
      have HH2 := Lib.hid ((HH.out.upd hU2).upd ((Upd.refl [] w2).alloc (.cells #[.int .u64 y.1, .int .i64 y.2] 54)))
      clear hU2 p0 p1 p2
      go_wp2_with fail
      refine (HH2.out.whl.move_yes t HT.out HMA.out).mono ?_
      rintro e w4 ⟨rfl, h4⟩
      obtain ⟨fw4, hS4, hF4⟩ := HH2.out.wstep h4
      obtain ⟨width, p0, p1, p2, -, ls4⟩ := hS4.cells
      have HS4 := Lib.hid hS4
      have HF4 := Lib.hid hF4
      have HB1 : Hid (base ≤ t) := by simpa [Hid] using hmv
      clear h4 hS4 hF4
      go_wp2_with fail
      refine (HS4.out.over (HO.out.move HB1.out HALL.out) HLL.out).mono ?_
      rintro e w5 ⟨rfl, A5, B5, fw5, fh5, hS5, hO5, hL5, hF5⟩
      have HS5 := Lib.hid hS5
      have HO5 := Lib.hid hO5
      have HL5 := Lib.hid hL5
      have HF5 := Lib.hid hF5
      clear hS5 hO5 hL5 hF5
      go_wp2
      go_ret
      refine ⟨by first | (rw [HMV.out]; rfl) | rw [HMV.out], A5, B5, fw5, fh5, ?_⟩
      rw [if_pos HB1.out]
      exact ⟨HS5.out, HO5.out, HL5.out, ((Fr.of (HU2.out.alloc _)).trans HF4.out).trans HF5.out⟩
  · obtain ⟨y1, y2⟩ := y
    simp only at hk
    subst hk
    have t1 : decide (k < t) = false := by simp; omega
    cases mv with
    | false =>
      go_enter Tryz.func88, Tryz.ntmps88
      go_wp2_with fail
      refine (HH.out.min HO.out.srt).mono ?_
      rintro e w2 ⟨rfl, hU2⟩
      rw [HY.out]
      unfold itV
      have q0 := (hU2.cell ls (by simp) 0).trans p0
      have q1 := (hU2.cell ls (by simp) 1).trans p1
      have lq := Nat.lt_of_lt_of_le ls hU2.size
      have HU2 := Lib.hid hU2
      have HH2 := Lib.hid ((HH.out.upd hU2).upd ((Upd.refl [] w2).alloc (.cells #[.int .u64 (k : Int), .int .i64 y2] 54)))
      clear hU2 p0 p1 p2
      go_wp2_with fail
      refine (HH2.out.whl.move_no t HT.out HMA.out).mono ?_
      rintro e w4 ⟨rfl, h4⟩
      obtain ⟨fw4, hS4, hF4⟩ := HH2.out.wstep h4
      have HS4 := Lib.hid hS4
      have HF4 := Lib.hid hF4
      clear h4 hS4 hF4
      go_wp2
      go_ret
      have hb1 : ¬ base ≤ t := by simpa using HMV.out
      refine ⟨by first | (rw [HMV.out]; rfl) | rw [HMV.out], A, B, fw4, fh, ?_⟩
      rw [if_neg hb1]
      exact ⟨HS4.out, HO.out, rfl, (Fr.of (HU2.out.alloc _)).trans HF4.out⟩
    | true =>
      go_enter Tryz.func88, Tryz.ntmps88
      go_wp2_with fail
      refine (HH.out.min HO.out.srt).mono ?_
      rintro e w2 ⟨rfl, hU2⟩
      rw [HY.out]
      unfold itV
      have q0 := (hU2.cell ls (by simp) 0).trans p0
      have q1 := (hU2.cell ls (by simp) 1).trans p1
      have lq := Nat.lt_of_lt_of_le ls hU2.size
      have HU2 := Lib.hid hU2
      have HH2 := Lib.hid ((HH.out.upd hU2).upd ((Upd.refl [] w2).alloc (.cells #[.int .u64 (k : Int), .int .i64 y2] 54)))
      clear hU2 p0 p1 p2
      go_wp2_with fail
      refine (HH2.out.whl.move_yes t HT.out HMA.out).mono ?_
      rintro e w4 ⟨rfl, h4⟩
      obtain ⟨fw4, hS4, hF4⟩ := HH2.out.wstep h4
      obtain ⟨width, p0, p1, p2, -, ls4⟩ := hS4.cells
      have HS4 := Lib.hid hS4
      have HF4 := Lib.hid hF4
      have HB1 : Hid (base ≤ t) := by simpa [Hid] using hmv
      clear h4 hS4 hF4
      go_wp2_with fail
      refine (HS4.out.over (HO.out.move HB1.out HALL.out) HLL.out).mono ?_
      rintro e w5 ⟨rfl, A5, B5, fw5, fh5, hS5, hO5, hL5, hF5⟩
      have HS5 := Lib.hid hS5
      have HO5 := Lib.hid hO5
      have HL5 := Lib.hid hL5
      have HF5 := Lib.hid hF5
      clear hS5 hO5 hL5 hF5
      go_wp2
      go_ret
      refine ⟨by first | (rw [HMV.out]; rfl) | rw [HMV.out], A5, B5, fw5, fh5, ?_⟩
      rw [if_pos HB1.out]
      exact ⟨HS5.out, HO5.out, HL5.out, ((Fr.of (HU2.out.alloc _)).trans HF4.out).trans HF5.out⟩
theorem SL.move {L : List It} {F : List Nat} (h : SL W sb base wd L F w) (t : Nat) (ht : t < 18446744073709551616) :
    Calls Tryz.prog 88 #[.pointer (some ⟨sb, 0, none⟩), .int .u64 t] w (fun e w' => e = .returned (.bool (movB base L t)) ∧ SLTo W sb (if movB base L t = true then t else base) wd L F w w') := by
  obtain ⟨A, B, rfl, wb, hb, fw, fh, h1, h2, h3, rfl⟩ := h
  by_cases hall : ∀ x ∈ A ++ B, t ≤ kn x
  · have hm : movB base (A ++ B) t = decide (base ≤ t) := by
      rw [Bool.eq_iff_iff, movB_iff, decide_eq_true_iff]
      exact ⟨fun g => g.1, fun g => ⟨g, hall⟩⟩
    refine (h1.move_in h2 h3 t ht hall).mono ?_
    rintro e w' ⟨rfl, A', B', fw', fh', k1, k2, k3, k4⟩
    rw [hm]
    refine ⟨rfl, _, ⟨A', B', k3.symm, wb, hb, fw', fh', ?_, ?_, by rw [k3]; exact h3, rfl⟩, k4⟩
    · simpa using k1
    · simpa using k2
  · have hm : movB base (A ++ B) t = false := by
      rw [← Bool.not_eq_true, movB_iff]
      exact fun g => hall g.2
    cases hAB : A ++ B with
    | nil => rw [hAB] at hall; simp at hall
    | cons y r =>
      have hty : kn y < t := by
        rw [h2.head hAB] at hall; omega
      rw [← hAB, hm]
      refine (h1.move_over h2 h3 t hAB hty).mono ?_
      rintro e w' ⟨rfl, hU⟩
      rw [if_neg (by simp)]
      exact ⟨rfl, _, ⟨A, B, rfl, wb, hb, fw, fh, h1.upd hU, h2, h3, rfl⟩, Fr.of hU⟩
end
end Go.Proofs.YtolohheflbmfaaaGreatDoor

/-! Sg -/
namespace Go.Proofs.YtolohheflbmfaaaGreatDoor
open Go.RowKit

section
variable {W w : World} {sb base wd : Nat} {L : List It} {F : List Nat}
theorem SL.lt (h : SL W sb base wd L F w) : ∀ c ∈ F, c < w.heap.size := by obtain ⟨_, _, _, h⟩ := h; exact h.lt
theorem SL.newB (h : SL W sb base wd L F w) : ∀ c ∈ F, W.heap.size ≤ c := by obtain ⟨_, _, _, h⟩ := h; exact h.newB
theorem SL.updS (h : SL W sb base wd L F w) {S : List Nat} {w' : World} (hu : Upd S w w') (hs : ∀ c ∈ F, c ∉ S) (hw : ∀ c ∈ S, W.heap.size ≤ c) : SL W sb base wd L F w' := by
  obtain ⟨A, B, e, h⟩ := h; exact ⟨A, B, e, h.updS hu hs hw⟩
theorem SL.upd (h : SL W sb base wd L F w) {w' : World} (hu : Upd [] w w') : SL W sb base wd L F w' := h.updS hu (by simp) (by simp)
theorem SL.updW (h : SL W sb base wd L F w) : Upd [] W w := by obtain ⟨_, _, _, h⟩ := h; exact h.updW
theorem SL.tab (h : SL W sb base wd L F w) : TabAt 0 Lib.deBruijn64tab W := by obtain ⟨_, _, _, h⟩ := h; exact h.tab
theorem SL.srt (h : SL W sb base wd L F w) : Srt L := by obtain ⟨_, _, rfl, h⟩ := h; exact h.ok.srt
theorem SL.nd (h : SL W sb base wd L F w) : NdI L := by obtain ⟨_, _, rfl, h⟩ := h; exact h.ok.nd
theorem SL.keys (h : SL W sb base wd L F w) : ∀ x ∈ L, x.1 = (kn x : Int) ∧ kn x < 18446744073709551616 ∧ base ≤ kn x := by obtain ⟨_, _, rfl, h⟩ := h; exact h.ok.key
theorem SL.lenL (h : SL W sb base wd L F w) : L.length ≤ 1000 := by obtain ⟨_, _, rfl, h⟩ := h; exact h.len
theorem SL.b64 (h : SL W sb base wd L F w) : base < 18446744073709551616 := by obtain ⟨_, _, rfl, _, _, _, _, h, _⟩ := h; exact h.b64
theorem SL.ptr (h : SL W sb base wd L F w) : sb ∈ F := by obtain ⟨_, _, _, h⟩ := h; exact h.mem
theorem SL.base_ (h : SL W sb base wd L F w) : Calls Tryz.prog 80 #[.pointer (some ⟨sb, 0, none⟩)] w (fun e w' => e = .returned (.int .u64 base) ∧ w = w') := by
  obtain ⟨A, B, rfl, wb, hb, fw, fh, h1, h2, h3, rfl⟩ := h; exact h1.base_
theorem SL.has (h : SL W sb base wd L F w) (id : Int) : Calls Tryz.prog 81 #[.pointer (some ⟨sb, 0, none⟩), .int .i64 id] w (RetUpd [] w (.bool (hasI L id))) := by
  obtain ⟨A, B, rfl, wb, hb, fw, fh, h1, h2, h3, rfl⟩ := h; exact h1.has id
theorem SL.min (h : SL W sb base wd L F w) : Calls Tryz.prog 84 #[.pointer (some ⟨sb, 0, none⟩)] w (RetUpd [] w (firstV L)) := by
  obtain ⟨A, B, rfl, wb, hb, fw, fh, h1, h2, h3, rfl⟩ := h; exact h1.min h2.srt

/-- How many lie beyond. -/
def farN (base wd : Nat) (L : List It) : Nat := (L.filter (fun x => decide (lev3 wd base (kn x) = 3))).length
theorem dropI_head {x : It} {r : List It} (h : NdI (x :: r)) : dropI (x :: r) x.2 = r := by
  unfold dropI NdI at *
  rw [List.map_cons, List.nodup_cons] at h
  rw [List.filter_cons]
  simp only [beq_self_eq_true, Bool.not_true, Bool.false_eq_true, if_false]
  rw [List.filter_eq_self]
  intro y hy
  have : y.2 ≠ x.2 := fun e => h.1 (by rw [← e]; exact List.mem_map_of_mem hy)
  simp [this]

theorem sl_done {w2 w3 w4 : World} {base' : Nat} {L' : List It} {F' S : List Nat} (hF : ∀ c ∈ F, c < w.heap.size) (h0 : Upd [] w w2) (hfr : Fr F F' w2 w3) (hs : SL W sb base' wd L' F' w3) (hu : Upd S w3 w4) (hSS : ∀ c ∈ S, w.heap.size ≤ c ∧ c < w2.heap.size) (hW : W.heap.size ≤ w.heap.size) : SLTo W sb base' wd L' F w w4 := by
  have hsz := h0.size
  refine ⟨F', hs.updS hu (fun c hc e => ?_) (fun c hc => by have := hSS c hc; omega), fun c hc => ?_, ?_⟩
  · have h1 := hSS c e
    rcases hfr.1 c hc with h | h
    · have := hF c h; omega
    · omega
  · rcases hfr.1 c hc with h | h
    · exact .inl h
    · right; omega
  · exact (h0.nil.trans hfr.2).then hu (fun _ _ h => h) (fun i hi hm => by have := (hSS i hm).1; omega)
theorem SLTo.up {w' : World} (h : SLTo W sb base wd L F w w') : Upd F w w' := by obtain ⟨_, _, h⟩ := h; exact h.2


set_option maxHeartbeats 8000000 in
theorem SL.pop (h : SL W sb base wd L F w) : Calls Tryz.prog 68 #[.pointer (some ⟨sb, 0, none⟩)] w (fun e w' => e = .returned (firstV L) ∧ SLTo W sb (popB base L) wd L.tail F w w') := by
  have HH := Lib.hid h
  have HLT := Lib.hid h.lt
  have HLW := Lib.hid h.updW.size
  have HND := Lib.hid h.nd
  have HZ := Lib.hid (Blk.new w 54 [.int .u64 0, .int .i64 0])
  cases L with
  | nil =>
    clear h
    go_enter Tryz.func68, Tryz.ntmps68
    go_wp2_with fail
    refine ((HH.out.upd ((Upd.refl [] w).alloc _)).min).mono ?_
    rintro e w3 ⟨rfl, hU⟩
    have hZ := HZ.out.upd hU (by simp)
    have z0 := hZ.cell (j := 0) rfl
    have z1 := hZ.cell (j := 1) rfl
    have zf := hZ.free 0
    have zf1 := hZ.free 1
    have zl := hZ.lt
    have HU3 : Hid (Upd [] w w3) := ((Upd.refl [] w).alloc _).trans hU
    clear hU hZ
    unfold firstV itV
    go_wp2
    refine bodyPost_ret (v := .tuple #[.agg #[.int .u64 0, .int .i64 0], .bool false]) (by simp [results, Tryz.results68, go_sem, z0, z1, zl]) rfl ⟨rfl, F, HH.out.upd (((HU3.out.setCell (.inr (Nat.le_refl _)) _).setCell (.inr (Nat.le_refl _)) _).alloc _), Fr.of (((HU3.out.setCell (.inr (Nat.le_refl _)) _).setCell (.inr (Nat.le_refl _)) _).alloc _)⟩
  | cons x r =>
    have HK := Lib.hid (h.keys x (by simp))
    have HSR := Lib.hid h.srt
    have HKY := Lib.hid h.keys
    clear h
    go_enter Tryz.func68, Tryz.ntmps68
    go_wp2_with fail
    refine ((HH.out.upd ((Upd.refl [] w).alloc _)).min).mono ?_
    rintro e w3 ⟨rfl, hU⟩
    have HU3 : Hid (Upd [] w w3) := ((Upd.refl [] w).alloc _).trans hU
    have HZ3 := Lib.hid (HZ.out.upd hU (by simp))
    clear hU
    unfold firstV itV
    go_wp2_with fail
    refine ((HH.out.upd (HU3.out.alloc (.cells #[.int .u64 x.1, .int .i64 x.2] 54))).drop x.2).mono ?_
    rintro e w4 ⟨rfl, F4, h4, hF4⟩
    rw [dropI_head HND.out] at h4
    have hx4 := (Blk.new w3 54 [.int .u64 x.1, .int .i64 x.2]).upd hF4.2 (fun e => by have := HLT.out _ e; have := HU3.out.size; omega)
    have x0 := hx4.cell (j := 0) rfl
    have x1 := hx4.cell (j := 1) rfl
    have xl := hx4.lt
    have hz4 := (HZ3.out.upd ((Upd.refl [] w3).alloc _) (by simp)).upd hF4.2 (fun e => by have := HLT.out _ e; omega)
    have HX4 := Lib.hid hx4
    have HZ4 := Lib.hid hz4
    have H4 := Lib.hid h4
    have HF4 := Lib.hid hF4
    rw [HK.out.1] at x0
    clear h4 hF4 hx4 hz4
    go_wp2_with fail
    refine (H4.out.move (kn x) HK.out.2.1).mono ?_
    rintro e w5 ⟨rfl, F5, h5, hF5⟩
    have hmv : movB base r (kn x) = true := by
      rw [movB_iff]
      exact ⟨HK.out.2.2, fun y hy => srt_head_le HSR.out (fun z hz => (HKY.out z hz).1) y (by simp [hy])⟩
    rw [hmv] at h5 ⊢
    rw [if_pos rfl] at h5
    have hn : ∀ c ∈ F4, c < w4.heap.size := H4.out.lt
    have hnx : w3.heap.size ∉ F4 := fun e => by
      rcases HF4.out.1 _ e with h | h
      · have := HLT.out _ h; have := HU3.out.size; omega
      · simp at h; omega
    have hnz : w.heap.size ∉ F4 := fun e => by
      rcases HF4.out.1 _ e with h | h
      · have := HLT.out _ h; omega
      · have := HZ3.out.lt; simp at h; omega
    have hx5 := HX4.out.upd hF5.2 hnx
    have hz5 := HZ4.out.upd hF5.2 hnz
    have x0 := hx5.cell (j := 0) rfl
    have x1 := hx5.cell (j := 1) rfl
    have xl := hx5.lt
    have z0 := hz5.cell (j := 0) rfl
    have z1 := hz5.cell (j := 1) rfl
    have zf := hz5.free 0
    have zf1 := hz5.free 1
    have zl := hz5.lt
    have hwz : w.heap.size < w3.heap.size := HZ3.out.lt
    have H5 := Lib.hid h5
    have HF5 := Lib.hid (HF4.out.trans hF5)
    have HWZ := Lib.hid hwz
    clear h5 hF5 hx5 hz5 hn hnx hnz hmv
    go_wp2
    exact bodyPost_ret (v := .tuple #[.agg #[.int .u64 x.1, .int .i64 x.2], .bool true]) (by simp [results, Tryz.results68, go_sem, z0, z1, zl]) rfl ⟨rfl, sl_done (S := [w.heap.size]) (w2 := w3.alloc (.cells #[.int .u64 x.1, .int .i64 x.2] 54)) HLT.out (HU3.out.alloc _) HF5.out H5.out (((Upd.refl _ _).setCell (by simp) _).setCell (by simp) _) (fun c hc => by simp at hc; subst hc; exact ⟨Nat.le_refl _, by have := HWZ.out; simp; omega⟩) HLW.out⟩

/-! ### All, New -/
theorem told_src {w : World} {ao : Option Addr} {n cap : Nat} {L : List It} (hn : L.length = n) (h : RowO w 54 2 ao n cap (L.flatMap itVs)) : Src w 2 ao n (L.flatMap itVs) := by
  subst hn; exact row_src h

set_option maxHeartbeats 8000000 in
theorem SL.all (h : SL W sb base wd L F w) : Calls Tryz.prog 69 #[.pointer (some ⟨sb, 0, none⟩)] w (Told w L []) := by
  obtain ⟨A, B, rfl, wb, hb, fw, fh, h1, h2, h3, rfl⟩ := h
  obtain ⟨i0, hi0, hz0, hz1, hz2⟩ := info_parts infoItem
  obtain ⟨width, p0, p1, p2, -, ls⟩ := h1.cells
  have HH := Lib.hid h1
  rw [List.length_append] at h3
  obtain ⟨n, hn⟩ : ∃ n, A.length = n := ⟨_, rfl⟩
  obtain ⟨m, hm⟩ : ∃ m, B.length = m := ⟨_, rfl⟩
  rw [hn, hm] at h3
  have HN := Lib.hid hn
  have HM := Lib.hid hm
  have HSM : Hid (B.length ≤ 1000) := by unfold Hid; omega
  have H63 : Hid (n + m ≤ maxLen) := by unfold Hid maxLen; omega
  have HBY : Hid ((n + m) * 16 ≤ 140737488355328) := by unfold Hid; omega
  clear h1 h2 h3 hn hm
  go_enter Tryz.func69, Tryz.ntmps69
  go_wp2_with fail
  go_region_law (first | (go_simp; go_at_call 89; refine ((HH.out.upd (Upd.refl [] w).drew).whl.all).mono ?_; rintro e w2 ⟨ao1, cp1, rfl, hR1, hF1, hU1⟩; rw [HN.out] at hR1 ⊢; have HR1 := Lib.hid hR1; have HF1 := Lib.hid hF1; have hUa : Upd [] w w2 := (Upd.refl [] w).drew.trans hU1; have q1 := (hUa.cell ls (by simp) 1).trans p1; have lq := Nat.lt_of_lt_of_le ls hUa.size; have HU1 := Lib.hid hUa; clear hR1 hF1 hU1 hUa) | (go_simp; go_at_call 90; refine (heap_all hb B fh _ (HH.out.upd HU1.out).hp.1 HSM.out).mono ?_; rintro e w3 ⟨ao2, cp2, rfl, hR2, hF2, hU2⟩; rw [HM.out] at hR2 ⊢; have HR3 := Lib.hid (HR1.out.upd hU2 (by simp)); have HSRC := Lib.hid (told_src HM.out hR2); have HU2 : Hid (Upd [] w w3) := HU1.out.trans hU2; clear hR2 hF2 hU2) | (refine step_app2 _ rfl _ _ _ rfl 54 i0 _ 2 16 underlyingItems hi0 hz0 hz1 hz2 rfl Nat.zero_lt_two ao1 n cp1 (A.flatMap itVs) rfl HR3.out ao2 m cp2 (B.flatMap itVs) rfl HSRC.out H63.out HBY.out ?_; intro ao3 cp3 w4 hA; have HA := Lib.hid hA; clear hA))
  all_goals
    go_wp2
    go_ret
    have hsz := HU1.out.size
    have hsz2 := HU2.out.size
    refine ⟨ao3, cp3, by rw [List.length_append, HN.out, HM.out]; rfl, ?_, fun c hc => ?_, HU2.out.then HA.out.upd (fun _ _ h => h) (fun i hi hm => by have := HF1.out i hm; have h3 : w.drew.heap.size = w.heap.size := rfl; omega)⟩
    · rw [List.length_append, HN.out, HM.out, List.flatMap_append]; exact HA.out.row
    · rcases HA.out.at_ c hc with h | h
      · exact HF1.out c h
      · omega
end
end Go.Proofs.YtolohheflbmfaaaGreatDoor

/-! Sq -/
namespace Go.Proofs.YtolohheflbmfaaaGreatDoor
open Go.RowKit

theorem has_quiet (hb : Nat) (ao : Option Addr) (cap mb : Nat) (A : List It) (id : Int) (w : World) (h : HpAt w hb ao cap mb A) :
    Calls Tryz.prog 98 #[.pointer (some ⟨hb, 0, none⟩), .int .i64 id] w (fun e w' => e = .returned (.bool (hasI A id)) ∧ w = w') := by
  have c1 := h.top.cell (j := 1) rfl
  obtain ⟨M, hM, hMn, hMi⟩ := h.map
  have hl := hM.look (P := Tryz.prog) underlyingIntMap underlyingInt zeroInt id true
  rw [look_has hMi] at hl
  simp only [if_true] at hl
  obtain ⟨v, hv⟩ : ∃ v, (lookM M id).getD (.int .i64 0) = v := ⟨_, rfl⟩
  rw [hv] at hl
  obtain ⟨b, hbb⟩ : ∃ b, hasI A id = b := ⟨_, rfl⟩
  rw [hbb] at hl ⊢
  clear h hM hMn hMi hv hbb
  go_enter Tryz.func98, Tryz.ntmps98
  go_wp2
  go_ret
  exact ⟨rfl, rfl⟩
theorem HG.has_q {W w : World} {hb : Nat} {L : List It} {fp : List Nat} (h : HG W hb L fp w) (id : Int) :
    Calls Tryz.prog 98 #[.pointer (some ⟨hb, 0, none⟩), .int .i64 id] w (fun e w' => e = .returned (.bool (hasI L id)) ∧ w = w') := by
  obtain ⟨⟨ao, cap, mb, A, h1, h2, h3, h4, h5⟩, _⟩ := h
  rw [← hasI_perm h3]
  exact has_quiet hb ao cap mb A id w h1
section
variable {W w : World} {sb wb hb base wd : Nat} {A B : List It} {fw fh : List Nat}
theorem SAt.has_q (h : SAt W w sb wb hb base wd A B fw fh) (id : Int) : Calls Tryz.prog 81 #[.pointer (some ⟨sb, 0, none⟩), .int .i64 id] w (fun e w' => e = .returned (.bool (hasI (A ++ B) id)) ∧ w = w') := by
  obtain ⟨width, p0, p1, p2, -, ls⟩ := h.cells
  rw [hasI_app]
  have HH := Lib.hid h
  cases ha : hasI A id with
  | true =>
    have HA := Lib.hid ha
    clear h ha
    go_enter Tryz.func81, Tryz.ntmps81
    go_wp2_with fail
    refine (HH.out.whl.has id).mono ?_
    rintro e w2 ⟨rfl, rfl⟩
    rw [HA.out]
    go_wp2
    go_ret
    exact ⟨rfl, rfl⟩
  | false =>
    have HA := Lib.hid ha
    obtain ⟨r, hr⟩ : ∃ r, hasI B id = r := ⟨_, rfl⟩
    have HR := Lib.hid hr
    rw [hr]
    clear h ha hr
    go_enter Tryz.func81, Tryz.ntmps81
    go_wp2_with fail
    refine (HH.out.whl.has id).mono ?_
    rintro e w2 ⟨rfl, rfl⟩
    rw [HA.out]
    go_wp2_with fail
    refine (HH.out.hp.has_q id).mono ?_
    rintro e w3 ⟨rfl, rfl⟩
    rw [HR.out]
    go_wp2
    go_ret
    exact ⟨by simp, rfl⟩
end
theorem SL.has_q {W w : World} {sb base wd : Nat} {L : List It} {F : List Nat} (h : SL W sb base wd L F w) (id : Int) : Calls Tryz.prog 81 #[.pointer (some ⟨sb, 0, none⟩), .int .i64 id] w (fun e w' => e = .returned (.bool (hasI L id)) ∧ w = w') := by
  obtain ⟨A, B, rfl, wb, hb, fw, fh, h1, h2, h3, rfl⟩ := h; exact h1.has_q id
end Go.Proofs.YtolohheflbmfaaaGreatDoor
