/-
  The reference's list inside a law. No condition.
-/
import Derived.Test.YtolohheflbmfaaaGreatDoorPI
import Derived.Test.YtolohheflbmfaaaGreatDoorPB
set_option linter.unusedVariables false
set_option linter.unusedSimpArgs false
namespace Go.Proofs.YtolohheflbmfaaaGreatDoor
open Go.RowKit

/-- The reference's list of items in order, in blocks that are new since W. -/
def IG (W : World) (b : Nat) (L : List It) (fq : List Nat) (w : World) : Prop := ∃ ao cap, ItsAt w b 0 ao cap L ∧ fq = b :: blkO ao ∧ ∀ c ∈ fq, W.heap.size ≤ c
def IGTo (W : World) (b : Nat) (L : List It) (fq : List Nat) (w w' : World) : Prop := ∃ fq', IG W b L fq' w' ∧ (∀ c ∈ fq', c ∈ fq ∨ w.heap.size ≤ c) ∧ Upd fq w w'
theorem IG.lt {W : World} {b : Nat} {L : List It} {fq : List Nat} {w : World} (h : IG W b L fq w) : ∀ c ∈ fq, c < w.heap.size := by
  obtain ⟨ao, cap, h1, rfl, _⟩ := h
  intro c hc
  rcases List.mem_cons.1 hc with rfl | hc
  · exact h1.lt
  · exact h1.row.lt c hc
theorem IG.upd {W : World} {b : Nat} {L : List It} {fq S : List Nat} {w w' : World} (h : IG W b L fq w) (hu : Upd S w w') (hs : ∀ c ∈ fq, c ∉ S) : IG W b L fq w' := by
  obtain ⟨ao, cap, h1, rfl, h2⟩ := h
  exact ⟨ao, cap, h1.upd hu (hs b (by simp)) (fun c hc => hs c (by simp [hc])), rfl, h2⟩
theorem IG.to {W : World} {b : Nat} {L' : List It} {fq : List Nat} {w w' : World} (hW : W.heap.size ≤ w.heap.size) {ao : Option Addr} (hfq : fq = b :: blkO ao) (h2 : ∀ c ∈ fq, W.heap.size ≤ c) (k : ItsGo w b 0 ao L' w') : IGTo W b L' fq w w' := by
  obtain ⟨ao', cap', k1, k2, k3, _⟩ := k
  subst hfq
  refine ⟨b :: blkO ao', ⟨ao', cap', k1, rfl, fun c hc => ?_⟩, fun c hc => ?_, k3.mono (fun i _ hm => by simp at hm; simp [hm])⟩
  · rcases List.mem_cons.1 hc with rfl | hc
    · exact h2 _ (by simp)
    · rcases k2 c hc with h | h
      · exact h2 c (by simp [h])
      · omega
  · rcases List.mem_cons.1 hc with rfl | hc
    · simp
    · rcases k2 c hc with h | h
      · simp [h]
      · exact .inr h
theorem IG.push {W : World} {b : Nat} {L : List It} {fq : List Nat} {w : World} (h : IG W b L fq w) (hW : W.heap.size ≤ w.heap.size) (x : It) (hsm : L.length < 1000) :
    Calls Tryz.prog 49 #[.pointer (some ⟨b, 0, none⟩), .agg #[.int .u64 x.1, .int .i64 x.2]] w (fun e w' => e = .returned (.bool (!hasI L x.2)) ∧ IGTo W b (if hasI L x.2 then L else insI x L) fq w w') := by
  obtain ⟨ao, cap, h1, h2, h3⟩ := h
  exact (ri_push b 0 ao cap L x w h1 hsm).mono fun _ _ k => ⟨k.1, IG.to hW h2 h3 k.2⟩
theorem IG.pop {W : World} {b : Nat} {L : List It} {fq : List Nat} {w : World} (h : IG W b L fq w) (hW : W.heap.size ≤ w.heap.size) :
    Calls Tryz.prog 76 #[.pointer (some ⟨b, 0, none⟩)] w (fun e w' => e = .returned (firstV L) ∧ IGTo W b L.tail fq w w') := by
  obtain ⟨ao, cap, h1, h2, h3⟩ := h
  exact (ri_pop b 0 ao cap L w h1).mono fun _ _ k => ⟨k.1, IG.to hW h2 h3 k.2⟩
theorem IG.at_ {W : World} {b : Nat} {L : List It} {fq : List Nat} {w : World} (h : IG W b L fq w) (id : Int) :
    Calls Tryz.prog 61 #[.pointer (some ⟨b, 0, none⟩), .int .i64 id] w (fun e w' => e = .returned (.int .i64 (posI L id)) ∧ w = w') := by
  obtain ⟨ao, cap, h1, h2, h3⟩ := h
  exact ri_at b 0 ao cap L id w h1

/-- A list that has just been made. -/
theorem IG.new {W w : World} {b : Nat} (h : Blk w b 107 [.slice none 0 0]) (hb : W.heap.size ≤ b) : IG W b [] [b] w :=
  ⟨none, 0, { cell := h.cell (j := 0) rfl, free := h.free 0, row := RowO.nil _ _ _, lt := h.lt, apart := by simp [blkO], small := by simp, nd := by simp [NdI], srt := List.Pairwise.nil }, rfl, fun c hc => by simp at hc; omega⟩

/-- Where the list stands. -/
theorem IG.cell {W : World} {b : Nat} {L : List It} {fq : List Nat} {w : World} (h : IG W b L fq w) : ∃ ao cap, w.cell? ⟨b, 0, none⟩ = some (.slice ao L.length cap) ∧ RowO w 54 2 ao L.length cap (L.flatMap itVs) ∧ b < w.heap.size ∧ ∀ c ∈ blkO ao, c ∈ fq := by
  obtain ⟨ao, cap, h1, rfl, h3⟩ := h
  exact ⟨ao, cap, h1.cell, h1.row, h1.lt, fun c hc => by simp [hc]⟩

theorem IGTo.up {W : World} {b : Nat} {L : List It} {fq : List Nat} {w w' : World} (h : IGTo W b L fq w w') : Upd fq w w' := by obtain ⟨_, _, _, h⟩ := h; exact h
end Go.Proofs.YtolohheflbmfaaaGreatDoor
