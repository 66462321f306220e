/-
  What a deed done to a shard and to the document's wheel leaves. No condition.
-/
import Derived.Test.YtkepeolbpgnlbaaGreatDoorSi
import Derived.Test.YtkepeolbpgnlbaaGreatDoorPR
set_option linter.unusedVariables false
set_option linter.unusedSimpArgs false
namespace Go.Proofs.YtkepeolbpgnlbaaGreatDoor
open Go.RowKit

def Deed6 (W : World) (wb b base wd : Nat) (L : List It) (fp fq : List Nat) (w : World) (e : Ending) (w' : World) : Prop :=
  e = .returned (.bool true) ∧ ∃ base' L' fp' fq', SR W wb b base' wd L' fp' fq' w' ∧ (∀ c ∈ fp', c ∈ fp ∨ w.heap.size ≤ c) ∧ (∀ c ∈ fq', c ∈ fq ∨ w.heap.size ≤ c) ∧ Upd (fp ++ fq) w w' ∧ L'.length ≤ L.length + 1
theorem SR.after {W w w' : World} {wb b base base' wd : Nat} {L L' : List It} {fp fq : List Nat} (h : SR W wb b base wd L fp fq w) (k : SLTo W wb base' wd L' fp w w') : RG W b base wd true L fq w' :=
  h.2.1.upd k.up (fun c hc e => h.2.2.1 c e hc)
theorem spair_done5 {W : World} {wb b base base' wd : Nat} {L L' : List It} {fp fq : List Nat} {w w4 w5 w6 w7 w8 : World} (hU : Upd [] w w4) (hp : SR W wb b base wd L fp fq w4) (hp0 : ∀ c ∈ fp, c < w.heap.size) (hq0 : ∀ c ∈ fq, c < w.heap.size) (h5 : SLTo W wb base' wd L' fp w4 w5) (g : Upd [] w5 w6) (h7 : RGTo W b base' wd true L' fq w6 w7) (g2 : Upd [] w7 w8) (hl : L'.length ≤ L.length + 1) :
    Deed6 W wb b base wd L fp fq w (.returned (.bool true)) w8 := by
  obtain ⟨fp', k1, k2, k3⟩ := h5
  obtain ⟨fq', j1, j2, j3⟩ := h7
  have hs4 := hU.size
  have hs5 := k3.size
  have hs6 := g.size
  refine ⟨rfl, base', L', fp', fq', ⟨((k1.upd g).updS j3 (fun c hc e => ?_) (fun c hc => ?_)).upd g2, j1.upd g2 (by simp), fun c hc e => ?_, k1.keys⟩, fun c hc => ?_, fun c hc => ?_, ?_, hl⟩
  · rcases k2 c hc with h | h
    · exact hp.2.2.1 c h e
    · have := hq0 c e; omega
  · exact hp.2.1.newB c hc
  · rcases j2 c e with h | h
    · rcases k2 c hc with h' | h'
      · exact hp.2.2.1 c h' h
      · have := hq0 c h; omega
    · have := k1.lt c hc; omega
  · rcases k2 c hc with h | h
    · exact .inl h
    · right; omega
  · rcases j2 c hc with h | h
    · exact .inl h
    · right; omega
  · refine Upd.trans ?_ g2.nil
    refine Upd.trans ?_ (j3.mono (fun i _ hm => by simp [hm]))
    refine Upd.trans ?_ g.nil
    exact hU.nil.trans (k3.mono (fun i _ hm => by simp [hm]))

/-- As above; behind it cells may be written that were made between the two. -/
theorem spair_done6 {W : World} {wb b base base' wd : Nat} {L L' : List It} {fp fq S : List Nat} {w w4 w5 w6 w7 w8 : World} (hU : Upd [] w w4) (hp : SR W wb b base wd L fp fq w4) (hp0 : ∀ c ∈ fp, c < w.heap.size) (hq0 : ∀ c ∈ fq, c < w.heap.size) (h5 : SLTo W wb base' wd L' fp w4 w5) (g : Upd [] w5 w6) (h7 : RGTo W b base' wd true L' fq w6 w7) (g2 : Upd S w7 w8) (hS : ∀ c ∈ S, w5.heap.size ≤ c ∧ c < w6.heap.size) (hl : L'.length ≤ L.length + 1) :
    Deed6 W wb b base wd L fp fq w (.returned (.bool true)) w8 := by
  have hs4 := hU.size
  have hs5 := h5.up.size
  obtain ⟨-, base2, L2, fp', fq', k1, k2, k3, k4, k5⟩ := spair_done5 (w := w) (w8 := w7) hU hp hp0 hq0 h5 g h7 (Upd.refl _ _) hl
  obtain ⟨fp5, p1, p2, p3⟩ := h5
  obtain ⟨fq7, r1, r2, r3⟩ := h7
  have hW : ∀ c ∈ S, W.heap.size ≤ c := fun c hc => by have := (hS c hc).1; have := p1.updW.size; omega
  refine ⟨rfl, base', L', fp5, fq7, ⟨((p1.upd g).updS r3 (fun c hc e => ?_) (fun c hc => ?_)).updS g2 (fun c hc e => ?_) hW, r1.upd g2 (fun c hc e => ?_), fun c hc e => ?_, p1.keys⟩, fun c hc => ?_, fun c hc => ?_, ?_, hl⟩
  · rcases p2 c hc with h | h
    · exact hp.2.2.1 c h e
    · have := hq0 c e; omega
  · exact hp.2.1.newB c hc
  · have := p1.lt c hc; have := (hS c e).1; omega
  · have h1 := hS c e
    rcases r2 c hc with h | h
    · have := hq0 c h; omega
    · omega
  · rcases r2 c e with h | h
    · rcases p2 c hc with h' | h'
      · exact hp.2.2.1 c h' h
      · have := hq0 c h; omega
    · have := p1.lt c hc; have := g.size; omega
  · rcases p2 c hc with h | h
    · exact .inl h
    · right; omega
  · rcases r2 c hc with h | h
    · exact .inl h
    · have := g.size; right; omega
  · exact k4.then g2 (fun _ _ h => h) (fun i hi hm => by have := (hS i hm).1; omega)
theorem deed6_none {W : World} {wb b base wd : Nat} {L : List It} {fp fq : List Nat} {w w' : World} (hp : SR W wb b base wd L fp fq w) (hU : Upd [] w w') : Deed6 W wb b base wd L fp fq w (.returned (.bool true)) w' :=
  ⟨rfl, base, L, fp, fq, hp.upd hU, fun _ h => .inl h, fun _ h => .inl h, hU.nil, by omega⟩
theorem Deed6.to {W : World} {sb b base wd : Nat} {L : List It} {fp fq : List Nat} {w w' : World} {e : Ending} (h : Deed6 W sb b base wd L fp fq w e w') : e = .returned (.bool true) ∧ ∃ base' L' fp' fq', SR W sb b base' wd L' fp' fq' w' ∧ L'.length ≤ L.length + 1 := by
  obtain ⟨h1, base', L', fp', fq', h2, _, _, _, h3⟩ := h
  exact ⟨h1, base', L', fp', fq', h2, h3⟩
end Go.Proofs.YtkepeolbpgnlbaaGreatDoor
