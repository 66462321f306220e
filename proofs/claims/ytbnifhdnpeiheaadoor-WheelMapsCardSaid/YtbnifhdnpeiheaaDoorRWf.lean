/-
  What a deed done to a wheel and to the document's leaves. No condition.
-/
import Derived.Test.YtbnifhdnpeiheaaDoorRWe
set_option linter.unusedVariables false
set_option linter.unusedSimpArgs false
namespace Go.Proofs.YtbnifhdnpeiheaaDoor
open Go.RowKit

def Deed5 (W : World) (wb b base wd : Nat) (L : List It) (fp fq : List Nat) (w : World) (e : Ending) (w' : World) : Prop :=
  e = .returned (.bool true) ∧ ∃ base' L' fp' fq', WR W wb b base' wd L' fp' fq' w' ∧ (∀ c ∈ fp', c ∈ fp ∨ w.heap.size ≤ c) ∧ (∀ c ∈ fq', c ∈ fq ∨ w.heap.size ≤ c) ∧ Upd (fp ++ fq) w w' ∧ L'.length ≤ L.length + 1
theorem WGTo.up {W w w' : World} {wb base wd : Nat} {L : List It} {fp : List Nat} (h : WGTo W wb base wd L fp w w') : Upd fp w w' := by obtain ⟨_, _, _, h⟩ := h; exact h
theorem RGTo.up {W w w' : World} {b base wd : Nat} {far : Bool} {L : List It} {fq : List Nat} (h : RGTo W b base wd far L fq w w') : Upd fq w w' := by obtain ⟨_, _, _, h⟩ := h; exact h
theorem WR.after {W w w' : World} {wb b base base' wd : Nat} {L L' : List It} {fp fq : List Nat} (h : WR W wb b base wd L fp fq w) (k : WGTo W wb base' wd L' fp w w') : RG W b base wd false L fq w' :=
  h.2.1.upd k.up (fun c hc e => h.2.2.1 c e hc)
theorem pair_done5 {W : World} {wb b base base' wd : Nat} {L L' : List It} {fp fq : List Nat} {w w4 w5 w6 w7 w8 : World} (hU : Upd [] w w4) (hp : WR W wb b base wd L fp fq w4) (hp0 : ∀ c ∈ fp, c < w.heap.size) (hq0 : ∀ c ∈ fq, c < w.heap.size) (h5 : WGTo W wb base' wd L' fp w4 w5) (g : Upd [] w5 w6) (h7 : RGTo W b base' wd false L' fq w6 w7) (g2 : Upd [] w7 w8) (hl : L'.length ≤ L.length + 1) :
    Deed5 W wb b base wd L fp fq w (.returned (.bool true)) w8 := by
  obtain ⟨fp', k1, k2, k3⟩ := h5
  obtain ⟨fq', j1, j2, j3⟩ := h7
  have hs4 := hU.size
  have hs5 := k3.size
  have hs6 := g.size
  refine ⟨rfl, base', L', fp', fq', ⟨((k1.upd g).updS j3 (fun c hc e => ?_) (fun c hc => ?_)).upd g2, j1.upd g2 (by simp), fun c hc e => ?_, k1.keys⟩, fun c hc => ?_, fun c hc => ?_, ?_, hl⟩
  · rcases k2 c hc with h | h
    · exact hp.2.2.1 c h e
    · have := hq0 c e; omega
  · exact hp.2.1.newB c hc
  · rcases j2 c e with h | h
    · rcases k2 c hc with h' | h'
      · exact hp.2.2.1 c h' h
      · have := hq0 c h; omega
    · have := k1.lt c hc; omega
  · rcases k2 c hc with h | h
    · exact .inl h
    · right; omega
  · rcases j2 c hc with h | h
    · exact .inl h
    · right; omega
  · refine Upd.trans ?_ g2.nil
    refine Upd.trans ?_ (j3.mono (fun i _ hm => by simp [hm]))
    refine Upd.trans ?_ g.nil
    exact hU.nil.trans (k3.mono (fun i _ hm => by simp [hm]))
/-- As above; behind it cells may be written that were made between the two. -/
theorem pair_done6 {W : World} {wb b base base' wd : Nat} {L L' : List It} {fp fq S : List Nat} {w w4 w5 w6 w7 w8 : World} (hU : Upd [] w w4) (hp : WR W wb b base wd L fp fq w4) (hp0 : ∀ c ∈ fp, c < w.heap.size) (hq0 : ∀ c ∈ fq, c < w.heap.size) (h5 : WGTo W wb base' wd L' fp w4 w5) (g : Upd [] w5 w6) (h7 : RGTo W b base' wd false L' fq w6 w7) (g2 : Upd S w7 w8) (hS : ∀ c ∈ S, w5.heap.size ≤ c ∧ c < w6.heap.size) (hl : L'.length ≤ L.length + 1) :
    Deed5 W wb b base wd L fp fq w (.returned (.bool true)) w8 := by
  have hs4 := hU.size
  have hs5 := h5.up.size
  obtain ⟨-, base2, L2, fp', fq', k1, k2, k3, k4, k5⟩ := pair_done5 (w := w) (w8 := w7) hU hp hp0 hq0 h5 g h7 (Upd.refl _ _) hl
  obtain ⟨fp5, p1, p2, p3⟩ := h5
  obtain ⟨fq7, r1, r2, r3⟩ := h7
  have hW : ∀ c ∈ S, W.heap.size ≤ c := fun c hc => by have := (hS c hc).1; have := p1.updW.size; omega
  refine ⟨rfl, base', L', fp5, fq7, ⟨((p1.upd g).updS r3 (fun c hc e => ?_) (fun c hc => ?_)).updS g2 (fun c hc e => ?_) hW, r1.upd g2 (fun c hc e => ?_), fun c hc e => ?_, p1.keys⟩, fun c hc => ?_, fun c hc => ?_, ?_, hl⟩
  · rcases p2 c hc with h | h
    · exact hp.2.2.1 c h e
    · have := hq0 c e; omega
  · exact hp.2.1.newB c hc
  · have := p1.lt c hc; have := (hS c e).1; omega
  · have h1 := hS c e
    rcases r2 c hc with h | h
    · have := hq0 c h; omega
    · omega
  · rcases r2 c e with h | h
    · rcases p2 c hc with h' | h'
      · exact hp.2.2.1 c h' h
      · have := hq0 c h; omega
    · have := p1.lt c hc; have := g.size; omega
  · rcases p2 c hc with h | h
    · exact .inl h
    · right; omega
  · rcases r2 c hc with h | h
    · exact .inl h
    · have := g.size; right; omega
  · exact k4.then g2 (fun _ _ h => h) (fun i hi hm => by have := (hS i hm).1; omega)
theorem deed5_none {W : World} {wb b base wd : Nat} {L : List It} {fp fq : List Nat} {w w' : World} (hp : WR W wb b base wd L fp fq w) (hU : Upd [] w w') : Deed5 W wb b base wd L fp fq w (.returned (.bool true)) w' :=
  ⟨rfl, base, L, fp, fq, hp.upd hU, fun _ h => .inl h, fun _ h => .inl h, hU.nil, by omega⟩
theorem dropI_len5 (L : List It) (id : Int) : (dropI L id).length ≤ L.length := List.length_filter_le _ _
theorem len_ins5 (c : Bool) (L : List It) (x : It) : (if c = true then insI x L else L).length ≤ L.length + 1 := by
  cases c with
  | false => simp
  | true => rw [if_pos rfl, (insI_perm x L).length_eq]; simp
theorem firstV_key {L : List It} {y : It} (h : ∀ x ∈ L, x.1 = (kn x : Int) ∧ kn x < 18446744073709551616) (e : firstV L = itV y true) : y ∈ L := by
  cases L with
  | nil => simp [firstV, itV] at e
  | cons x r =>
    simp only [firstV, itV, Value.tuple.injEq, Array.mk.injEq, List.cons.injEq, Value.agg.injEq, Value.int.injEq, true_and, and_true] at e
    have : x = y := Prod.ext e.1 e.2
    subst this; simp
/-- Half the way from a base to a key. -/
theorem mid_eqs {base ky : Nat} (h : base ≤ ky) (hk : ky < 18446744073709551616) : ∃ d m t0 : Nat, (ky : Int) - (base : Int) = d ∧ IntKind.u64.wrap (d : Int) = d ∧ (d : Int).tdiv 2 = m ∧ IntKind.u64.wrap (m : Int) = m ∧ (base : Int) + (m : Int) = t0 ∧ IntKind.u64.wrap (t0 : Int) = t0 ∧ t0 < 18446744073709551616 := by
  refine ⟨ky - base, (ky - base) / 2, base + (ky - base) / 2, by omega, ?_, ?_, ?_, by omega, ?_, by omega⟩
  · rw [IntKind.wrap_u64]; omega
  · rw [Int.tdiv_eq_ediv_of_nonneg (by omega)]; omega
  · rw [IntKind.wrap_u64]; omega
  · rw [IntKind.wrap_u64]; omega
theorem firstVit (L : List It) : ∃ y ok, firstV L = itV y ok := by cases L <;> exact ⟨_, _, rfl⟩
theorem dropVit (L : List It) (id : Int) : ∃ y ok, dropV L id = itV y ok := by unfold dropV; split <;> exact ⟨_, _, rfl⟩
end Go.Proofs.YtbnifhdnpeiheaaDoor
