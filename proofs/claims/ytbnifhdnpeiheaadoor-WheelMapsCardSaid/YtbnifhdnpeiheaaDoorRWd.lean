/-
  The document's wheel inside a law, and a wheel beside it. No condition.
-/
import Derived.Test.YtbnifhdnpeiheaaDoorRWc
set_option linter.unusedVariables false
set_option linter.unusedSimpArgs false
namespace Go.Proofs.YtbnifhdnpeiheaaDoor
open Go.RowKit

/-- The document's wheel in blocks that are new since W. -/
def RG (W : World) (b base wd : Nat) (far : Bool) (L : List It) (fq : List Nat) (w : World) : Prop := ∃ ao cap, RAt w b base wd far ao cap L ∧ fq = b :: blkO ao ∧ (∀ c ∈ fq, W.heap.size ≤ c) ∧ W.heap.size ≤ w.heap.size
def RGTo (W : World) (b base wd : Nat) (far : Bool) (L : List It) (fq : List Nat) (w w' : World) : Prop := ∃ fq', RG W b base wd far L fq' w' ∧ Fr fq fq' w w'
theorem RG.lt {W w : World} {b base wd : Nat} {far : Bool} {L : List It} {fq : List Nat} (h : RG W b base wd far L fq w) : ∀ c ∈ fq, c < w.heap.size := by
  obtain ⟨ao, cap, h1, rfl, _⟩ := h
  intro c hc
  rcases List.mem_cons.1 hc with rfl | hc
  · exact h1.blk.lt
  · exact h1.its.row.lt c hc
theorem RG.newB {W w : World} {b base wd : Nat} {far : Bool} {L : List It} {fq : List Nat} (h : RG W b base wd far L fq w) : ∀ c ∈ fq, W.heap.size ≤ c := by obtain ⟨_, _, _, _, h, _⟩ := h; exact h
theorem RG.upd {W w w' : World} {b base wd : Nat} {far : Bool} {L : List It} {fq S : List Nat} (h : RG W b base wd far L fq w) (hu : Upd S w w') (hs : ∀ c ∈ fq, c ∉ S) : RG W b base wd far L fq w' := by
  obtain ⟨ao, cap, h1, rfl, h2, h3⟩ := h
  exact ⟨ao, cap, h1.up hu (hs b (by simp)) (fun c hc => hs c (by simp [hc])), rfl, h2, Nat.le_trans h3 hu.size⟩
theorem RG.done {W w w' : World} {b base base' wd : Nat} {far : Bool} {L L' : List It} {fq : List Nat} {ao : Option Addr} {cap : Nat} (h : RAt w b base wd far ao cap L) (hfq : fq = b :: blkO ao) (h2 : ∀ c ∈ fq, W.heap.size ≤ c) (h3 : W.heap.size ≤ w.heap.size) (k : RGo b base' wd far ao L' w w') : RGTo W b base' wd far L' fq w w' := by
  obtain ⟨ao', cap', k1, k2, k3⟩ := k
  subst hfq
  refine ⟨b :: blkO ao', ⟨ao', cap', k1, rfl, fun c hc => ?_, Nat.le_trans h3 k3.size⟩, fun c hc => ?_, k3.mono (fun i _ hm => by simp at hm; simp [hm])⟩
  · rcases List.mem_cons.1 hc with rfl | hc
    · exact h2 _ (by simp)
    · rcases k2 c hc with e | e
      · exact h2 c (by simp [e])
      · omega
  · rcases List.mem_cons.1 hc with rfl | hc
    · simp
    · rcases k2 c hc with e | e
      · simp [e]
      · exact .inr e
theorem RG.push {W w : World} {b base wd : Nat} {L : List It} {fq : List Nat} (h : RG W b base wd false L fq w) (k : Nat) (hk : k < 18446744073709551616) (id : Int) (hsm : L.length < 1000) :
    Calls Tryd.prog 52 #[.pointer (some ⟨b, 0, none⟩), .agg #[.int .u64 k, .int .i64 id]] w (fun e w' => e = .returned (.bool (fitsB base wd k && !hasI L id)) ∧ RGTo W b base wd false (if (fitsB base wd k && !hasI L id) = true then insI ((k : Int), id) L else L) fq w w') := by
  obtain ⟨ao, cap, h1, h2, h3, h4⟩ := h
  exact (rwpush h1 k hk id hsm).mono fun _ _ q => ⟨q.1, RG.done h1 h2 h3 h4 q.2⟩
theorem RG.pop {W w : World} {b base wd : Nat} {far : Bool} {L : List It} {fq : List Nat} (h : RG W b base wd far L fq w) (hk : ∀ x ∈ L, x.1 = (kn x : Int) ∧ kn x < 18446744073709551616) :
    Calls Tryd.prog 68 #[.pointer (some ⟨b, 0, none⟩)] w (fun e w' => e = .returned (firstV L) ∧ RGTo W b (popB base L) wd far L.tail fq w w') := by
  obtain ⟨ao, cap, h1, h2, h3, h4⟩ := h
  exact (rwpop h1 hk).mono fun _ _ q => ⟨q.1, RG.done h1 h2 h3 h4 q.2⟩
theorem RG.move {W w : World} {b base wd : Nat} {far : Bool} {L : List It} {fq : List Nat} (h : RG W b base wd far L fq w) (t0 : Nat) (ht : t0 < 18446744073709551616) (hk : ∀ x ∈ L, x.1 = (kn x : Int)) :
    Calls Tryd.prog 49 #[.pointer (some ⟨b, 0, none⟩), .int .u64 t0] w (fun e w' => e = .returned (.bool (movB base L t0)) ∧ RGTo W b (if movB base L t0 = true then t0 else base) wd far L fq w w') := by
  obtain ⟨ao, cap, h1, h2, h3, h4⟩ := h
  exact (rwmove h1 t0 ht hk).mono fun _ _ q => ⟨q.1, RG.done h1 h2 h3 h4 q.2⟩
theorem RG.drop {W w : World} {b base wd : Nat} {far : Bool} {L : List It} {fq : List Nat} (h : RG W b base wd far L fq w) (id : Int) :
    Calls Tryd.prog 58 #[.pointer (some ⟨b, 0, none⟩), .int .i64 id] w (fun e w' => e = .returned (dropV L id) ∧ RGTo W b base wd far (dropI L id) fq w w') := by
  obtain ⟨ao, cap, h1, h2, h3, h4⟩ := h
  exact (ri_drop b 0 ao cap L id w h1.its).mono fun _ _ q => ⟨q.1, RG.done h1 h2 h3 h4 (h1.its_go (Upd.refl [] w) q.2)⟩
theorem RG.at_ {W w : World} {b base wd : Nat} {far : Bool} {L : List It} {fq : List Nat} (h : RG W b base wd far L fq w) (id : Int) :
    Calls Tryd.prog 72 #[.pointer (some ⟨b, 0, none⟩), .int .i64 id] w (fun e w' => e = .returned (.int .i64 (posI L id)) ∧ w = w') := by
  obtain ⟨ao, cap, h1, h2, h3⟩ := h
  exact ri_at b 0 ao cap L id w h1.its
theorem RG.min {W w : World} {b base wd : Nat} {far : Bool} {L : List It} {fq : List Nat} (h : RG W b base wd far L fq w) :
    Calls Tryd.prog 70 #[.pointer (some ⟨b, 0, none⟩)] w (RetUpd [] w (firstV L)) := by
  obtain ⟨ao, cap, h1, h2, h3⟩ := h
  exact ri_min b 0 ao cap L w h1.its
/-- Where it stands. -/
theorem RG.cells {W w : World} {b base wd : Nat} {far : Bool} {L : List It} {fq : List Nat} (h : RG W b base wd far L fq w) : ∃ ao cap, Blk w b 62 [.slice ao L.length cap, .int .u64 base, .int .i64 wd, .bool far] ∧ RowO w 35 2 ao L.length cap (L.flatMap itVs) ∧ base < 18446744073709551616 ∧ heldN (wd : Int) = wd ∧ b ∈ fq ∧ ∀ c ∈ blkO ao, c ∈ fq := by
  obtain ⟨ao, cap, h1, rfl, h3⟩ := h
  exact ⟨ao, cap, h1.blk, h1.its.row, h1.b64, h1.wid, by simp, fun c hc => by simp [hc]⟩
/-- One that has just been made. -/
theorem RG.new {W w : World} {b : Nat} (wd : Int) (far : Bool) (h : Blk w b 62 [.slice none 0 0, .int .u64 0, .int .i64 (heldN wd), .bool far]) (hb : W.heap.size ≤ b) : RG W b 0 (heldN wd) far [] [b] w :=
  ⟨none, 0, ⟨{ cell := h.cell (j := 0) rfl, free := h.free 0, row := RowO.nil _ _ _, lt := h.lt, apart := by simp [blkO], small := by simp, nd := by simp [NdI], srt := List.Pairwise.nil }, h, by omega, heldN_idem wd⟩, rfl, fun c hc => by simp at hc; omega, by have := h.lt; omega⟩
/-- A wheel and the document's that hold the same. -/
def WR (W : World) (wb b base wd : Nat) (L : List It) (fp fq : List Nat) (w : World) : Prop := WG W wb base wd L fp w ∧ RG W b base wd false L fq w ∧ (∀ c ∈ fp, c ∉ fq) ∧ ∀ x ∈ L, x.1 = (kn x : Int) ∧ kn x < 18446744073709551616 ∧ base ≤ kn x
theorem WR.upd {W w w' : World} {wb b base wd : Nat} {L : List It} {fp fq : List Nat} (h : WR W wb b base wd L fp fq w) (hu : Upd [] w w') : WR W wb b base wd L fp fq w' := ⟨h.1.upd hu, h.2.1.upd hu (by simp), h.2.2⟩
theorem WR.updS {W w w' : World} {wb b base wd : Nat} {L : List It} {fp fq S : List Nat} (h : WR W wb b base wd L fp fq w) (hu : Upd S w w') (h1 : ∀ c ∈ fp, c ∉ S) (h2 : ∀ c ∈ fq, c ∉ S) (hS : ∀ c ∈ S, W.heap.size ≤ c) : WR W wb b base wd L fp fq w' := ⟨h.1.updS hu h1 hS, h.2.1.upd hu h2, h.2.2⟩
theorem WG.keys {W w : World} {wb base wd : Nat} {L : List It} {fp : List Nat} (h : WG W wb base wd L fp w) : ∀ x ∈ L, x.1 = (kn x : Int) ∧ kn x < 18446744073709551616 ∧ base ≤ kn x := by
  obtain ⟨s, h1, h2, rfl, rfl, rfl, h3, h4, h5⟩ := h
  intro x hx
  have hk := h2.key x hx
  exact ⟨kn_cast hk.1, by unfold kn; have := hk.1.1; have := hk.1.2; omega, hk.2⟩
end Go.Proofs.YtbnifhdnpeiheaaDoor
