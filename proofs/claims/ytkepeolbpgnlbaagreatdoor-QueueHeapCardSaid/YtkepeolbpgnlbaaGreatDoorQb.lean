/-
  A queue in memory, inside a law: its shards, its tour. No condition.
-/
import Derived.Test.YtkepeolbpgnlbaaGreatDoorSg
import Derived.Test.YtkepeolbpgnlbaaGreatDoorQa
import Derived.Test.YtkepeolbpgnlbaaGreatDoorPT
set_option linter.unusedVariables false
set_option linter.unusedSimpArgs false
namespace Go.Proofs.YtkepeolbpgnlbaaGreatDoor
open Go.RowKit

/-- A row of pointers. -/
def ptrs (sb : Nat → Nat) (n : Nat) : List Value := (List.range n).map fun i => .pointer (some ⟨sb i, 0, none⟩)
theorem ptrs_get {sb : Nat → Nat} {n i : Nat} (h : i < n) : (ptrs sb n)[i]? = some (.pointer (some ⟨sb i, 0, none⟩)) := by
  unfold ptrs; rw [List.getElem?_map, List.getElem?_range h]; rfl
theorem ptrs_snoc (sb : Nat → Nat) (n : Nat) : ptrs sb n ++ [.pointer (some ⟨sb n, 0, none⟩)] = ptrs sb (n + 1) := by
  unfold ptrs; rw [List.range_succ, List.map_append]; rfl
theorem ptrs_congr {sb sb' : Nat → Nat} {n : Nat} (h : ∀ i, i < n → sb i = sb' i) : ptrs sb n = ptrs sb' n := by
  unfold ptrs; apply List.map_congr_left; intro i hi; rw [h i (List.mem_range.1 hi)]

/-- A function but at one place. -/
def updF {α : Type} (F : Nat → α) (i : Nat) (x : α) : Nat → α := fun j => if j = i then x else F j
theorem updF_same {α : Type} (F : Nat → α) (i : Nat) (x : α) : updF F i x i = x := by unfold updF; rw [if_pos rfl]
theorem updF_other {α : Type} (F : Nat → α) {i j : Nat} (x : α) (h : j ≠ i) : updF F i x j = F j := by unfold updF; rw [if_neg h]

def headsQ (qb sr : Nat) (t : Tr) : List Nat := [qb, sr, t.bt, t.bl, t.bn]
def fpN (H : List Nat) (n : Nat) (F : Nat → List Nat) : List Nat := H ++ (List.range n).flatMap F
theorem mem_fpN {H : List Nat} {n : Nat} {F : Nat → List Nat} {c : Nat} : c ∈ fpN H n F ↔ c ∈ H ∨ ∃ i, i < n ∧ c ∈ F i := by
  unfold fpN
  rw [List.mem_append, List.mem_flatMap]
  constructor
  · rintro (h | ⟨i, hi, h⟩)
    · exact .inl h
    · exact .inr ⟨i, List.mem_range.1 hi, h⟩
  · rintro (h | ⟨i, hi, h⟩)
    · exact .inl h
    · exact .inr ⟨i, List.mem_range.2 hi, h⟩


/-- Where a queue's parts lie, and what they hold; T: what the tour's leaves are. -/
structure QAt (W w : World) (qb wd : Nat) (M : List Sh) (T : List Leaf) (sr cap : Nat) (t : Tr) (sb : Nat → Nat) (F : Nat → List Nat) : Prop where
  top : Blk w qb 72 [.slice (some ⟨sr, 0, none⟩) M.length cap, .pointer (some ⟨t.bt, 0, none⟩)]
  row : Row w 73 1 sr M.length cap (ptrs sb M.length)
  sh : ∀ i, i < M.length → SL W (sb i) (shAt M i).1 wd (shAt M i).2 (F i) w
  tour : TourAt w t
  good : Good t.L t.size t.N
  pow : Pow t.size
  tl : t.L = T
  tlen : T.length = M.length
  dis : ∀ i j, i < M.length → j < M.length → i ≠ j → ∀ c ∈ F i, c ∉ F j
  own : ∀ i, i < M.length → ∀ c ∈ F i, c ∉ headsQ qb sr t
  q1 : qb ≠ sr
  q2 : qb ∉ [t.bt, t.bl, t.bn]
  q3 : sr ∉ [t.bt, t.bl, t.bn]
  newH : ∀ c ∈ headsQ qb sr t, W.heap.size ≤ c
section
variable {W w : World} {qb wd : Nat} {M : List Sh} {T : List Leaf} {sr cap : Nat} {t : Tr} {sb : Nat → Nat} {F : Nat → List Nat}
theorem QAt.lt (h : QAt W w qb wd M T sr cap t sb F) : ∀ c ∈ fpN (headsQ qb sr t) M.length F, c < w.heap.size := by
  intro c hc
  rcases mem_fpN.1 hc with hc | ⟨i, hi, hc⟩
  · simp only [headsQ, List.mem_cons, List.not_mem_nil, or_false] at hc
    rcases hc with rfl | rfl | rfl | rfl | rfl
    · exact h.top.lt
    · exact h.row.lt
    · exact h.tour.top.lt
    · exact h.tour.leaves.lt
    · exact h.tour.nodes.lt
  · exact (h.sh i hi).lt c hc
theorem QAt.newB (h : QAt W w qb wd M T sr cap t sb F) : ∀ c ∈ fpN (headsQ qb sr t) M.length F, W.heap.size ≤ c := by
  intro c hc
  rcases mem_fpN.1 hc with hc | ⟨i, hi, hc⟩
  · exact h.newH c hc
  · exact (h.sh i hi).newB c hc
theorem QAt.updS (h : QAt W w qb wd M T sr cap t sb F) {S : List Nat} {w' : World} (hu : Upd S w w') (hs : ∀ c ∈ fpN (headsQ qb sr t) M.length F, c ∉ S) (hw : ∀ c ∈ S, W.heap.size ≤ c) : QAt W w' qb wd M T sr cap t sb F :=
  { h with
    top := h.top.upd hu (hs _ (mem_fpN.2 (.inl (by simp [headsQ]))))
    row := h.row.upd hu (hs _ (mem_fpN.2 (.inl (by simp [headsQ]))))
    sh := fun i hi => (h.sh i hi).updS hu (fun c hc => hs c (mem_fpN.2 (.inr ⟨i, hi, hc⟩))) hw
    tour := h.tour.upd hu (hs _ (mem_fpN.2 (.inl (by simp [headsQ])))) (hs _ (mem_fpN.2 (.inl (by simp [headsQ])))) (hs _ (mem_fpN.2 (.inl (by simp [headsQ])))) }
theorem QAt.upd (h : QAt W w qb wd M T sr cap t sb F) {w' : World} (hu : Upd [] w w') : QAt W w' qb wd M T sr cap t sb F := h.updS hu (by simp) (by simp)

/-- A deed on one shard. -/
theorem QAt.shard (h : QAt W w qb wd M T sr cap t sb F) {i : Nat} (hi : i < M.length) {b : Nat} {K : List It} {w' : World} (k : SLTo W (sb i) b wd K (F i) w w') :
    ∃ F', QAt W w' qb wd (M.set i (b, K)) T sr cap t sb F' ∧ Fr (fpN (headsQ qb sr t) M.length F) (fpN (headsQ qb sr t) M.length F') w w' := by
  obtain ⟨Fi, k1, k2, k3⟩ := k
  have hlt := h.lt
  have hin : ∀ j, j < M.length → ∀ c ∈ F j, c < w.heap.size := fun j hj c hc => hlt c (mem_fpN.2 (.inr ⟨j, hj, hc⟩))
  have hhd : ∀ c ∈ headsQ qb sr t, c < w.heap.size := fun c hc => hlt c (mem_fpN.2 (.inl hc))
  have hnh : ∀ c ∈ headsQ qb sr t, c ∉ F i := fun c hc e => h.own i hi c e hc
  have hnS : ∀ c ∈ F i, W.heap.size ≤ c := (h.sh i hi).newB
  refine ⟨updF F i Fi, ?_, fun c hc => ?_, k3.mono (fun c _ hc => mem_fpN.2 (.inr ⟨i, hi, hc⟩))⟩
  · refine { h with top := ?_, row := ?_, sh := fun j hj => ?_, tour := ?_, tlen := by rw [List.length_set]; exact h.tlen, dis := fun a j ha hj haj c hc => ?_, own := fun j hj c hc => ?_ }
    · rw [List.length_set]; exact h.top.upd k3 (hnh _ (by simp [headsQ]))
    · rw [List.length_set]; exact h.row.upd k3 (hnh _ (by simp [headsQ]))
    · rw [List.length_set] at hj
      by_cases e : j = i
      · subst e; rw [shAt_set hi, if_pos rfl, updF_same]; exact k1
      · rw [shAt_set hi, if_neg e, updF_other _ _ e]
        exact (h.sh j hj).updS k3 (h.dis j i hj hi e) hnS
    · exact h.tour.upd k3 (hnh _ (by simp [headsQ])) (hnh _ (by simp [headsQ])) (hnh _ (by simp [headsQ]))
    · rw [List.length_set] at ha hj
      by_cases ea : a = i
      · subst ea
        rw [updF_same] at hc
        rw [updF_other _ _ (Ne.symm haj)]
        rcases k2 c hc with e | e
        · exact h.dis a j ha hj haj c e
        · intro e2; have := hin j hj c e2; omega
      · rw [updF_other _ _ ea] at hc
        by_cases ej : j = i
        · subst ej
          rw [updF_same]
          intro e2
          rcases k2 c e2 with e | e
          · exact h.dis a j ha hj haj c hc e
          · have := hin a ha c hc; omega
        · rw [updF_other _ _ ej]; exact h.dis a j ha hj haj c hc
    · rw [List.length_set] at hj
      by_cases ej : j = i
      · subst ej
        rw [updF_same] at hc
        rcases k2 c hc with e | e
        · exact h.own j hj c e
        · intro e2; have := hhd c e2; omega
      · rw [updF_other _ _ ej] at hc; exact h.own j hj c hc
  · rcases mem_fpN.1 hc with hc | ⟨j, hj, hc⟩
    · exact .inl (mem_fpN.2 (.inl hc))
    · by_cases ej : j = i
      · subst ej
        rw [updF_same] at hc
        rcases k2 c hc with e | e
        · exact .inl (mem_fpN.2 (.inr ⟨j, hj, e⟩))
        · exact .inr e
      · rw [updF_other _ _ ej] at hc
        exact .inl (mem_fpN.2 (.inr ⟨j, hj, hc⟩))

/-- The tour plays one leaf. -/
theorem QAt.played (h : QAt W w qb wd M T sr cap t sb F) {i : Nat} (hi : i < M.length) {f : Leaf} {e : Ending} {w' : World} (k : PlayIn t i f w e w') :
    ∃ t', QAt W w' qb wd M (T.set i f) sr cap t' sb F ∧ headsQ qb sr t' = headsQ qb sr t ∧ Upd [t.bl, t.bn] w w' := by
  obtain ⟨_, k2, k3⟩ := k
  have hil : i < t.L.length := by rw [h.tl, h.tlen]; exact hi
  rw [Int.toNat_natCast] at k3
  refine ⟨{ t with L := t.L.set i f, N := playN (t.L.set i f) t.size i f.2 t.N }, { h with top := ?_, row := ?_, sh := fun j hj => ?_, tour := k3, good := play_good f h.good h.pow h.tour.fits hil, tl := by rw [h.tl], tlen := by rw [List.length_set]; exact h.tlen }, rfl, k2⟩
  · refine h.top.upd k2 (fun e => h.q2 ?_)
    simp only [List.mem_cons, List.not_mem_nil, or_false] at e ⊢
    exact .inr e
  · refine h.row.upd k2 (fun e => h.q3 ?_)
    simp only [List.mem_cons, List.not_mem_nil, or_false] at e ⊢
    exact .inr e
  · refine (h.sh j hj).updS k2 (fun c hc e => h.own j hj c hc ?_) (fun c hc => h.newH c ?_)
    · simp only [headsQ, List.mem_cons, List.not_mem_nil, or_false] at e ⊢
      exact .inr (.inr (.inr e))
    · simp only [headsQ, List.mem_cons, List.not_mem_nil, or_false] at hc ⊢
      exact .inr (.inr (.inr hc))
theorem QAt.updW (h : QAt W w qb wd M T sr cap t sb F) (h1 : 1 ≤ M.length) : Upd [] W w := (h.sh 0 h1).updW
theorem QAt.cells (h : QAt W w qb wd M T sr cap t sb F) : w.cell? ⟨qb, 0, none⟩ = some (.slice (some ⟨sr, 0, none⟩) M.length cap) ∧ w.cell? ⟨qb, 1, none⟩ = some (.pointer (some ⟨t.bt, 0, none⟩)) ∧ (∀ i, i < M.length → w.cell? ⟨sr, i, none⟩ = some (.pointer (some ⟨sb i, 0, none⟩))) ∧ qb < w.heap.size ∧ sr < w.heap.size :=
  ⟨h.top.cell (j := 0) rfl, h.top.cell (j := 1) rfl, fun i hi => h.row.cell (ptrs_get hi), h.top.lt, h.row.lt⟩
end

/-- A queue in blocks that are new since W: M its shards, L all its items in order. -/
def QG (W : World) (qb wd : Nat) (M : List Sh) (L : List It) (fp : List Nat) (w : World) : Prop :=
  ∃ sr cap t sb F, QAt W w qb wd M (leavesM M) sr cap t sb F ∧ QOk M L ∧ fp = fpN (headsQ qb sr t) M.length F
def QGTo (W : World) (qb wd : Nat) (M : List Sh) (L : List It) (fp : List Nat) (w w' : World) : Prop := ∃ fp', QG W qb wd M L fp' w' ∧ Fr fp fp' w w'
section
variable {W w : World} {qb wd : Nat} {M : List Sh} {L : List It} {fp : List Nat}
theorem QG.lt (h : QG W qb wd M L fp w) : ∀ c ∈ fp, c < w.heap.size := by obtain ⟨_, _, _, _, _, h, _, rfl⟩ := h; exact h.lt
theorem QG.newB (h : QG W qb wd M L fp w) : ∀ c ∈ fp, W.heap.size ≤ c := by obtain ⟨_, _, _, _, _, h, _, rfl⟩ := h; exact h.newB
theorem QG.updS (h : QG W qb wd M L fp w) {S : List Nat} {w' : World} (hu : Upd S w w') (hs : ∀ c ∈ fp, c ∉ S) (hw : ∀ c ∈ S, W.heap.size ≤ c) : QG W qb wd M L fp w' := by
  obtain ⟨sr, cap, t, sb, F, h1, h2, rfl⟩ := h; exact ⟨sr, cap, t, sb, F, h1.updS hu hs hw, h2, rfl⟩
theorem QG.upd (h : QG W qb wd M L fp w) {w' : World} (hu : Upd [] w w') : QG W qb wd M L fp w' := h.updS hu (by simp) (by simp)
theorem QG.ok (h : QG W qb wd M L fp w) : QOk M L := by obtain ⟨_, _, _, _, _, _, h, _⟩ := h; exact h
theorem QG.updW (h : QG W qb wd M L fp w) : Upd [] W w := by obtain ⟨_, _, _, _, _, h, h2, rfl⟩ := h; exact h.updW h2.one
theorem QG.tab (h : QG W qb wd M L fp w) : TabAt 0 Lib.deBruijn64tab W := by obtain ⟨_, _, _, _, _, h, h2, rfl⟩ := h; exact (h.sh 0 h2.one).tab
theorem QG.keys (h : QG W qb wd M L fp w) : ∀ i, i < M.length → ∀ x ∈ (shAt M i).2, x.1 = (kn x : Int) ∧ kn x < 18446744073709551616 ∧ (shAt M i).1 ≤ kn x := by obtain ⟨_, _, _, _, _, h, _, _⟩ := h; exact fun i hi => (h.sh i hi).keys
theorem QG.b64 (h : QG W qb wd M L fp w) : ∀ i, i < M.length → (shAt M i).1 < 18446744073709551616 := by obtain ⟨_, _, _, _, _, h, _, _⟩ := h; exact fun i hi => (h.sh i hi).b64
theorem QGTo.up {w' : World} (h : QGTo W qb wd M L fp w w') : Upd fp w w' := by obtain ⟨_, _, h⟩ := h; exact h.2
end
end Go.Proofs.YtkepeolbpgnlbaaGreatDoor
