/-
  The one who serves, in memory. No condition.
-/
import Derived.Test.YtolohheflbmfaaaGreatDoorCa
set_option linter.unusedVariables false
set_option linter.unusedSimpArgs false
namespace Go.Proofs.YtolohheflbmfaaaGreatDoor
open Go.RowKit

def mval (qb : Nat) (f : FuncId) : Value := .func (.func f) #[.pointer (some ⟨qb, 0, none⟩)] #[]

/-- Where its parts lie, and what they hold. -/
structure CAt (W w : World) (kb qb wd tb ob : Nat) (T O : AL) (s : CS) (fp : List Nat) : Prop where
  blk : Blk w kb 83 [mval qb 51, mval qb 52, mval qb 53, .int .u64 s.v, .int .u64 s.most, .int .i64 s.served, .map (some tb), .map (some ob), .bool s.is, .int .i64 s.obj, .int .u64 s.key]
  tm : IMap w tb T
  om : IMap w ob O
  th : ∀ o, (lookM T o).getD (thV zTh) = thV (s.th o)
  ow : ∀ f, (lookM O f).getD (.int .i64 0) = .int .i64 (s.ow f)
  q : QG W qb wd s.M s.L fp w
  d1 : kb ≠ tb
  d2 : kb ≠ ob
  d3 : tb ≠ ob
  far : ∀ c ∈ [kb, tb, ob], c ∉ fp
  new : ∀ c ∈ [kb, tb, ob], W.heap.size ≤ c
section
variable {W w : World} {kb qb wd tb ob : Nat} {T O : AL} {s : CS} {fp : List Nat}
theorem CAt.lt (h : CAt W w kb qb wd tb ob T O s fp) : ∀ c ∈ kb :: tb :: ob :: fp, c < w.heap.size := by
  intro c hc
  simp only [List.mem_cons] at hc
  rcases hc with rfl | rfl | rfl | hc
  · exact h.blk.lt
  · exact h.tm.lt
  · exact h.om.lt
  · exact h.q.lt c hc
theorem CAt.newB (h : CAt W w kb qb wd tb ob T O s fp) : ∀ c ∈ kb :: tb :: ob :: fp, W.heap.size ≤ c := by
  intro c hc
  simp only [List.mem_cons] at hc
  rcases hc with rfl | rfl | rfl | hc
  · exact h.new c (by simp)
  · exact h.new c (by simp)
  · exact h.new c (by simp)
  · exact h.q.newB c hc
theorem CAt.updS (h : CAt W w kb qb wd tb ob T O s fp) {S : List Nat} {w' : World} (hu : Upd S w w') (hs : ∀ c ∈ kb :: tb :: ob :: fp, c ∉ S) (hw : ∀ c ∈ S, W.heap.size ≤ c) : CAt W w' kb qb wd tb ob T O s fp :=
  { h with
    blk := h.blk.upd hu (hs kb (by simp))
    tm := h.tm.upd hu (hs tb (by simp))
    om := h.om.upd hu (hs ob (by simp))
    q := h.q.updS hu (fun c hc => hs c (by simp [hc])) hw }
theorem CAt.upd (h : CAt W w kb qb wd tb ob T O s fp) {w' : World} (hu : Upd [] w w') : CAt W w' kb qb wd tb ob T O s fp := h.updS hu (by simp) (by simp)
theorem CAt.cells (h : CAt W w kb qb wd tb ob T O s fp) : w.cell? ⟨kb, 0, none⟩ = some (mval qb 51) ∧ w.cell? ⟨kb, 1, none⟩ = some (mval qb 52) ∧ w.cell? ⟨kb, 2, none⟩ = some (mval qb 53) ∧ w.cell? ⟨kb, 3, none⟩ = some (.int .u64 s.v) ∧ w.cell? ⟨kb, 4, none⟩ = some (.int .u64 s.most) ∧ w.cell? ⟨kb, 5, none⟩ = some (.int .i64 s.served) ∧ w.cell? ⟨kb, 6, none⟩ = some (.map (some tb)) ∧ w.cell? ⟨kb, 7, none⟩ = some (.map (some ob)) ∧ w.cell? ⟨kb, 8, none⟩ = some (.bool s.is) ∧ w.cell? ⟨kb, 9, none⟩ = some (.int .i64 s.obj) ∧ w.cell? ⟨kb, 10, none⟩ = some (.int .u64 s.key) ∧ kb < w.heap.size :=
  ⟨h.blk.cell (j := 0) rfl, h.blk.cell (j := 1) rfl, h.blk.cell (j := 2) rfl, h.blk.cell (j := 3) rfl, h.blk.cell (j := 4) rfl, h.blk.cell (j := 5) rfl, h.blk.cell (j := 6) rfl, h.blk.cell (j := 7) rfl, h.blk.cell (j := 8) rfl, h.blk.cell (j := 9) rfl, h.blk.cell (j := 10) rfl, h.blk.lt⟩

/-- A deed on the queue. -/
theorem CAt.queue (h : CAt W w kb qb wd tb ob T O s fp) {M' : List Sh} {L' : List It} {w' : World} (k : QGTo W qb wd M' L' fp w w') :
    ∃ fp', CAt W w' kb qb wd tb ob T O { s with M := M', L := L' } fp' ∧ Fr (kb :: tb :: ob :: fp) (kb :: tb :: ob :: fp') w w' := by
  obtain ⟨fp', k1, k2⟩ := k
  have hl := h.lt
  have hfar : ∀ c ∈ [kb, tb, ob], c ∉ fp' := fun c hc => by
    refine k2.far (hl c ?_) (h.far c hc)
    simp only [List.mem_cons, List.not_mem_nil, or_false] at hc
    simp only [List.mem_cons]
    rcases hc with h | h | h
    · exact .inl h
    · exact .inr (.inl h)
    · exact .inr (.inr (.inl h))
  refine ⟨fp', { h with
    blk := h.blk.upd k2.2 (h.far kb (by simp))
    tm := h.tm.upd k2.2 (h.far tb (by simp))
    om := h.om.upd k2.2 (h.far ob (by simp))
    q := k1
    far := hfar }, fun c hc => ?_, k2.2.mono (fun c _ hc => by simp [hc])⟩
  simp only [List.mem_cons] at hc ⊢
  rcases hc with h | h | h | h
  · exact .inl (.inl h)
  · exact .inl (.inr (.inl h))
  · exact .inl (.inr (.inr (.inl h)))
  · rcases k2.1 c h with h | h
    · exact .inl (.inr (.inr (.inr h)))
    · exact .inr h
end
/-- One who serves, in blocks that are new since W. -/
def KG (W : World) (kb wd : Nat) (s : CS) (F : List Nat) (w : World) : Prop := ∃ qb tb ob T O fp, CAt W w kb qb wd tb ob T O s fp ∧ F = kb :: tb :: ob :: fp
def KGTo (W : World) (kb wd : Nat) (s : CS) (F : List Nat) (w w' : World) : Prop := ∃ F', KG W kb wd s F' w' ∧ Fr F F' w w'
section
variable {W w : World} {kb wd : Nat} {s : CS} {F : List Nat}
theorem KG.lt (h : KG W kb wd s F w) : ∀ c ∈ F, c < w.heap.size := by obtain ⟨_, _, _, _, _, _, h, rfl⟩ := h; exact h.lt
theorem KG.newB (h : KG W kb wd s F w) : ∀ c ∈ F, W.heap.size ≤ c := by obtain ⟨_, _, _, _, _, _, h, rfl⟩ := h; exact h.newB
theorem KG.updS (h : KG W kb wd s F w) {S : List Nat} {w' : World} (hu : Upd S w w') (hs : ∀ c ∈ F, c ∉ S) (hw : ∀ c ∈ S, W.heap.size ≤ c) : KG W kb wd s F w' := by
  obtain ⟨qb, tb, ob, T, O, fp, h1, rfl⟩ := h; exact ⟨qb, tb, ob, T, O, fp, h1.updS hu hs hw, rfl⟩
theorem KG.upd (h : KG W kb wd s F w) {w' : World} (hu : Upd [] w w') : KG W kb wd s F w' := h.updS hu (by simp) (by simp)
theorem KG.updW (h : KG W kb wd s F w) : Upd [] W w := by obtain ⟨_, _, _, _, _, _, h, _⟩ := h; exact h.q.updW
theorem KG.tab (h : KG W kb wd s F w) : TabAt 0 Lib.deBruijn64tab W := by obtain ⟨_, _, _, _, _, _, h, _⟩ := h; exact h.q.tab
theorem KGTo.up {w' : World} (h : KGTo W kb wd s F w w') : Upd F w w' := by obtain ⟨_, _, h⟩ := h; exact h.2
end
end Go.Proofs.YtolohheflbmfaaaGreatDoor
