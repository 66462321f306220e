/-
  A shard in memory, inside a law: its items in order, its base, its width. No condition.
-/
import Derived.Test.YtkepeolbpgnlbaaGreatDoorSa
import Derived.Test.YtkepeolbpgnlbaaGreatDoorPH
set_option linter.unusedVariables false
set_option linter.unusedSimpArgs false
namespace Go.Proofs.YtkepeolbpgnlbaaGreatDoor
open Go.RowKit

/-- Where a shard's parts lie, and what they hold. -/
structure SAt (W w : World) (sb wb hb base wd : Nat) (A B : List It) (fw fh : List Nat) : Prop where
  blk : ∃ width : Int, Blk w sb 89 [.pointer (some ⟨wb, 0, none⟩), .pointer (some ⟨hb, 0, none⟩), .int .i64 width] ∧ heldN width = wd
  whl : WG W wb base wd A fw w
  hp : HG W hb B fh w
  d1 : sb ∉ fw
  d2 : sb ∉ fh
  d3 : ∀ c ∈ fw, c ∉ fh
  new : W.heap.size ≤ sb
section
variable {W w : World} {sb wb hb base wd : Nat} {A B : List It} {fw fh : List Nat}
theorem SAt.lt (h : SAt W w sb wb hb base wd A B fw fh) : ∀ c ∈ sb :: (fw ++ fh), c < w.heap.size := by
  intro c hc
  rcases List.mem_cons.1 hc with rfl | hc
  · obtain ⟨_, hb, _⟩ := h.blk; exact hb.lt
  · rcases List.mem_append.1 hc with hc | hc
    · exact h.whl.lt c hc
    · exact h.hp.1.lt c hc
theorem SAt.newB (h : SAt W w sb wb hb base wd A B fw fh) : ∀ c ∈ sb :: (fw ++ fh), W.heap.size ≤ c := by
  intro c hc
  rcases List.mem_cons.1 hc with rfl | hc
  · exact h.new
  · rcases List.mem_append.1 hc with hc | hc
    · exact h.whl.newB c hc
    · exact h.hp.2.1 c hc
theorem SAt.updS (h : SAt W w sb wb hb base wd A B fw fh) {S : List Nat} {w' : World} (hu : Upd S w w') (hs : ∀ c ∈ sb :: (fw ++ fh), c ∉ S) (hw : ∀ c ∈ S, W.heap.size ≤ c) : SAt W w' sb wb hb base wd A B fw fh :=
  { h with
    blk := by obtain ⟨v, h1, h2⟩ := h.blk; exact ⟨v, h1.upd hu (hs sb (by simp)), h2⟩
    whl := h.whl.updS hu (fun c hc => hs c (by simp [hc])) hw
    hp := h.hp.updS hu (fun c hc => hs c (by simp [hc])) hw }
theorem SAt.upd (h : SAt W w sb wb hb base wd A B fw fh) {w' : World} (hu : Upd [] w w') : SAt W w' sb wb hb base wd A B fw fh := h.updS hu (by simp) (by simp)

/-- A deed on the wheel. -/
theorem SAt.wstep (h : SAt W w sb wb hb base wd A B fw fh) {base' : Nat} {A' : List It} {w' : World} (k : WGTo W wb base' wd A' fw w w') :
    ∃ fw', SAt W w' sb wb hb base' wd A' B fw' fh ∧ Fr (sb :: (fw ++ fh)) (sb :: (fw' ++ fh)) w w' := by
  obtain ⟨fw', k1, k2, k3⟩ := k
  have hl := h.lt
  have hsz := k3.size
  refine ⟨fw', ⟨?_, k1, h.hp.updS k3 (fun c hc e => h.d3 c e hc) h.whl.newB, ?_, h.d2, fun c hc e => ?_, h.new⟩, fun c hc => ?_, k3.mono (fun i _ hm => by simp [hm])⟩
  · obtain ⟨v, h1, h2⟩ := h.blk; exact ⟨v, h1.upd k3 h.d1, h2⟩
  · intro e
    rcases k2 sb e with e | e
    · exact h.d1 e
    · have := hl sb (by simp); omega
  · rcases k2 c hc with e1 | e1
    · exact h.d3 c e1 e
    · have := hl c (by simp [e]); omega
  · rcases List.mem_cons.1 hc with rfl | hc
    · left; simp
    · rcases List.mem_append.1 hc with hc | hc
      · rcases k2 c hc with e1 | e1
        · left; simp [e1]
        · exact .inr e1
      · left; simp [hc]

/-- A deed on what lies beyond. -/
theorem SAt.hstep (h : SAt W w sb wb hb base wd A B fw fh) {B' : List It} {w' : World} (k : HGTo W hb B' fh w w') :
    ∃ fh', SAt W w' sb wb hb base wd A B' fw fh' ∧ Fr (sb :: (fw ++ fh)) (sb :: (fw ++ fh')) w w' := by
  obtain ⟨fh', k1, k2, k3⟩ := k
  have hl := h.lt
  have hsz := k3.size
  refine ⟨fh', ⟨?_, h.whl.updS k3 (fun c hc e => h.d3 c hc e) h.hp.2.1, k1, h.d1, ?_, fun c hc e => ?_, h.new⟩, fun c hc => ?_, k3.mono (fun i _ hm => by simp [hm])⟩
  · obtain ⟨v, h1, h2⟩ := h.blk; exact ⟨v, h1.upd k3 h.d2, h2⟩
  · intro e
    rcases k2 sb e with e | e
    · exact h.d2 e
    · have := hl sb (by simp); omega
  · rcases k2 c e with e1 | e1
    · exact h.d3 c hc e1
    · have := hl c (by simp [hc]); omega
  · rcases List.mem_cons.1 hc with rfl | hc
    · left; simp
    · rcases List.mem_append.1 hc with hc | hc
      · left; simp [hc]
      · rcases k2 c hc with e1 | e1
        · left; simp [e1]
        · exact .inr e1
end

/-- A shard in blocks that are new since W. -/
def SG (W : World) (sb base wd : Nat) (A B : List It) (fp : List Nat) (w : World) : Prop :=
  ∃ wb hb fw fh, SAt W w sb wb hb base wd A B fw fh ∧ SOk base wd A B ∧ (A ++ B).length ≤ 1000 ∧ fp = sb :: (fw ++ fh)
def SGTo (W : World) (sb base wd : Nat) (A B : List It) (fp : List Nat) (w w' : World) : Prop := ∃ fp', SG W sb base wd A B fp' w' ∧ Fr fp fp' w w'
section
variable {W w : World} {sb base wd : Nat} {A B : List It} {fp : List Nat}
theorem SG.lt (h : SG W sb base wd A B fp w) : ∀ c ∈ fp, c < w.heap.size := by obtain ⟨_, _, _, _, h1, _, _, rfl⟩ := h; exact h1.lt
theorem SG.newB (h : SG W sb base wd A B fp w) : ∀ c ∈ fp, W.heap.size ≤ c := by obtain ⟨_, _, _, _, h1, _, _, rfl⟩ := h; exact h1.newB
theorem SG.updS (h : SG W sb base wd A B fp w) {S : List Nat} {w' : World} (hu : Upd S w w') (hs : ∀ c ∈ fp, c ∉ S) (hw : ∀ c ∈ S, W.heap.size ≤ c) : SG W sb base wd A B fp w' := by
  obtain ⟨wb, hb, fw, fh, h1, h2, h3, rfl⟩ := h; exact ⟨wb, hb, fw, fh, h1.updS hu hs hw, h2, h3, rfl⟩
theorem SG.upd (h : SG W sb base wd A B fp w) {w' : World} (hu : Upd [] w w') : SG W sb base wd A B fp w' := h.updS hu (by simp) (by simp)
theorem SG.updW (h : SG W sb base wd A B fp w) : Upd [] W w := by obtain ⟨_, _, _, _, h1, _⟩ := h; exact h1.whl.updW
theorem SG.tab (h : SG W sb base wd A B fp w) : TabAt 0 Lib.deBruijn64tab W := by obtain ⟨_, _, _, _, h1, _⟩ := h; exact h1.whl.tab
theorem SG.ok (h : SG W sb base wd A B fp w) : SOk base wd A B := by obtain ⟨_, _, _, _, _, h2, _⟩ := h; exact h2
theorem SG.len (h : SG W sb base wd A B fp w) : (A ++ B).length ≤ 1000 := by obtain ⟨_, _, _, _, _, _, h3, _⟩ := h; exact h3
theorem SG.mem (h : SG W sb base wd A B fp w) : sb ∈ fp := by obtain ⟨_, _, _, _, _, _, _, rfl⟩ := h; simp
end
end Go.Proofs.YtkepeolbpgnlbaaGreatDoor
