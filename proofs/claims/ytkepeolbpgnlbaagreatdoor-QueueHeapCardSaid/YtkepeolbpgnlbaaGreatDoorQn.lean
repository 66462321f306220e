/-
  What a deed done to a queue and to the document's leaves. No condition.
-/
import Derived.Test.YtkepeolbpgnlbaaGreatDoorQl
import Derived.Test.YtkepeolbpgnlbaaGreatDoorSk
set_option linter.unusedVariables false
set_option linter.unusedSimpArgs false
namespace Go.Proofs.YtkepeolbpgnlbaaGreatDoor
open Go.RowKit

section
variable {W w w' : World} {qb rb wd : Nat} {M M' : List Sh} {L L' : List It} {fp fq : List Nat}
theorem QR.after (h : QR W qb rb wd M L fp fq w) (k : QGTo W qb wd M' L' fp w w') : RQ W rb wd M fq w' :=
  h.2.1.updS k.up (fun c hc e => h.2.2 c e hc)
theorem qpair_done {w4 w5 w6 w7 w8 : World} (hU : Upd [] w w4) (hp : QR W qb rb wd M L fp fq w4) (hp0 : ∀ c ∈ fp, c < w.heap.size) (hq0 : ∀ c ∈ fq, c < w.heap.size) (h5 : QGTo W qb wd M' L' fp w4 w5) (g : Upd [] w5 w6) (h7 : RQTo W rb wd M' fq w6 w7) (g2 : Upd [] w7 w8) :
    ∃ fp' fq', QR W qb rb wd M' L' fp' fq' w8 ∧ (∀ c ∈ fp', c ∈ fp ∨ w.heap.size ≤ c) ∧ (∀ c ∈ fq', c ∈ fq ∨ w.heap.size ≤ c) ∧ Upd (fp ++ fq) w w8 := by
  obtain ⟨fp', k1, k2, k3⟩ := h5
  obtain ⟨fq', j1, j2, j3⟩ := h7
  have hs4 := hU.size
  have hs5 := k3.size
  have hs6 := g.size
  refine ⟨fp', fq', ⟨((k1.upd g).updS j3 (fun c hc e => ?_) (fun c hc => ?_)).upd g2, j1.upd g2, fun c hc e => ?_⟩, fun c hc => ?_, fun c hc => ?_, ?_⟩
  · rcases k2 c hc with h | h
    · exact hp.2.2 c h e
    · have := hq0 c e; omega
  · exact hp.2.1.newB c hc
  · rcases j2 c e with h | h
    · rcases k2 c hc with h' | h'
      · exact hp.2.2 c h' h
      · have := hq0 c h; omega
    · have := k1.lt c hc; omega
  · rcases k2 c hc with h | h
    · exact .inl h
    · right; omega
  · rcases j2 c hc with h | h
    · exact .inl h
    · right; omega
  · refine Upd.trans ?_ g2.nil
    refine Upd.trans ?_ (j3.mono (fun i _ hm => by simp [hm]))
    refine Upd.trans ?_ g.nil
    exact hU.nil.trans (k3.mono (fun i _ hm => by simp [hm]))
end
def baseSame (M M' : List Sh) : Prop := M'.length = M.length ∧ ∀ i, (shAt M' i).1 = (shAt M i).1
theorem pushM_base {M : List Sh} {L : List It} (h : QOk M L) (k : Nat) (id : Int) : baseSame M (pushM M k id) := by
  refine ⟨pushM_len M k id, fun i => ?_⟩
  unfold pushM
  split
  · rw [shAt_set (rt_lt h.one id)]; split
    · rename_i e; rw [e]
    · rfl
  · rfl
theorem dropM_base {M : List Sh} {L : List It} (h : QOk M L) (id : Int) : baseSame M (dropM M id) := by
  refine ⟨dropM_len M id, fun i => ?_⟩
  unfold dropM
  split
  · rw [shAt_set (rt_lt h.one id)]; split
    · rename_i e; rw [e]
    · rfl
  · rfl

/-- What a deed of kind m leaves. -/
def Deed8 (W : World) (qb rb wd : Nat) (M : List Sh) (L : List It) (fp fq : List Nat) (m : Int) (w : World) (e : Ending) (w' : World) : Prop :=
  e = .returned (.bool true) ∧ ∃ M' L' fp' fq', QR W qb rb wd M' L' fp' fq' w' ∧ (∀ c ∈ fp', c ∈ fp ∨ w.heap.size ≤ c) ∧ (∀ c ∈ fq', c ∈ fq ∨ w.heap.size ≤ c) ∧ Upd (fp ++ fq) w w' ∧ L'.length ≤ L.length + 1 ∧ M'.length = M.length ∧ ((m = 4 ∨ m = 5) → M' = popM M L) ∧ (¬ (m = 4 ∨ m = 5) → baseSame M M')
section
variable {W w w4 w5 w6 w7 w8 : World} {qb rb wd : Nat} {M : List Sh} {L : List It} {fp fq : List Nat} {m : Int}
theorem deed8_push (hm : ¬ (m = 4 ∨ m = 5)) (k : Nat) (id : Int) (hU : Upd [] w w4) (hp : QR W qb rb wd M L fp fq w4) (hp0 : ∀ c ∈ fp, c < w.heap.size) (hq0 : ∀ c ∈ fq, c < w.heap.size) (h5 : QGTo W qb wd (pushM M k id) (pushL M L k id) fp w4 w5) (g : Upd [] w5 w6) (h7 : RQTo W rb wd (pushM M k id) fq w6 w7) (g2 : Upd [] w7 w8) :
    Deed8 W qb rb wd M L fp fq m w (.returned (.bool true)) w8 := by
  obtain ⟨fp', fq', h1, h2, h3, h4⟩ := qpair_done hU hp hp0 hq0 h5 g h7 g2
  exact ⟨rfl, _, _, fp', fq', h1, h2, h3, h4, pushL_len M L k id, pushM_len M k id, fun h => absurd h hm, fun _ => pushM_base hp.1.ok k id⟩
theorem deed8drop (hm : ¬ (m = 4 ∨ m = 5)) (id : Int) (hU : Upd [] w w4) (hp : QR W qb rb wd M L fp fq w4) (hp0 : ∀ c ∈ fp, c < w.heap.size) (hq0 : ∀ c ∈ fq, c < w.heap.size) (h5 : QGTo W qb wd (dropM M id) (dropI L id) fp w4 w5) (g : Upd [] w5 w6) (h7 : RQTo W rb wd (dropM M id) fq w6 w7) (g2 : Upd [] w7 w8) :
    Deed8 W qb rb wd M L fp fq m w (.returned (.bool true)) w8 := by
  obtain ⟨fp', fq', h1, h2, h3, h4⟩ := qpair_done hU hp hp0 hq0 h5 g h7 g2
  exact ⟨rfl, _, _, fp', fq', h1, h2, h3, h4, by have := dropI_len5 L id; omega, dropM_len M id, fun h => absurd h hm, fun _ => dropM_base hp.1.ok id⟩
theorem deed8pop (hm : m = 4 ∨ m = 5) (hU : Upd [] w w4) (hp : QR W qb rb wd M L fp fq w4) (hp0 : ∀ c ∈ fp, c < w.heap.size) (hq0 : ∀ c ∈ fq, c < w.heap.size) (h5 : QGTo W qb wd (popM M L) L.tail fp w4 w5) (g : Upd [] w5 w6) (h7 : RQTo W rb wd (popM M L) fq w6 w7) (g2 : Upd [] w7 w8) :
    Deed8 W qb rb wd M L fp fq m w (.returned (.bool true)) w8 := by
  obtain ⟨fp', fq', h1, h2, h3, h4⟩ := qpair_done hU hp hp0 hq0 h5 g h7 g2
  exact ⟨rfl, _, _, fp', fq', h1, h2, h3, h4, by rw [List.length_tail]; omega, popM_len M L, fun _ => rfl, fun h => absurd hm h⟩
theorem deed8_none (hm : ¬ (m = 4 ∨ m = 5)) (hp : QR W qb rb wd M L fp fq w) (hU : Upd [] w w8) : Deed8 W qb rb wd M L fp fq m w (.returned (.bool true)) w8 :=
  ⟨rfl, M, L, fp, fq, hp.upd hU, fun _ h => .inl h, fun _ h => .inl h, hU.nil, by omega, rfl, fun h => absurd h hm, fun _ => ⟨rfl, fun _ => rfl⟩⟩
end
end Go.Proofs.YtkepeolbpgnlbaaGreatDoor
