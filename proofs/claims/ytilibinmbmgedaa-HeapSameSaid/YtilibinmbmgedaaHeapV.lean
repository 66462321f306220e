/-
  A heap and the reference's list beside it inside a law. No condition.
-/
import Derived.Test.YtilibinmbmgedaaHeapS
import Derived.Test.YtilibinmbmgedaaHeapL0
import Derived.Test.YtilibinmbmgedaaItemsF
import Derived.Test.YtilibinmbmgedaaDeed
namespace Go.Proofs.Ytilibinmbmgedaa
open Go.RowKit

/-- The reference's list of items in order, in blocks that are new since W. -/
def IG (W : World) (b : Nat) (L : List It) (fq : List Nat) (w : World) : Prop := ∃ ao cap, ItsAt w b 0 ao cap L ∧ fq = b :: blkO ao ∧ ∀ c ∈ fq, W.heap.size ≤ c
def IGTo (W : World) (b : Nat) (L : List It) (fq : List Nat) (w w' : World) : Prop := ∃ fq', IG W b L fq' w' ∧ (∀ c ∈ fq', c ∈ fq ∨ w.heap.size ≤ c) ∧ Upd fq w w'
theorem IG.lt {W : World} {b : Nat} {L : List It} {fq : List Nat} {w : World} (h : IG W b L fq w) : ∀ c ∈ fq, c < w.heap.size := by
  obtain ⟨ao, cap, h1, rfl, _⟩ := h
  intro c hc
  rcases List.mem_cons.1 hc with rfl | hc
  · exact h1.lt
  · exact h1.row.lt c hc
theorem IG.upd {W : World} {b : Nat} {L : List It} {fq S : List Nat} {w w' : World} (h : IG W b L fq w) (hu : Upd S w w') (hs : ∀ c ∈ fq, c ∉ S) : IG W b L fq w' := by
  obtain ⟨ao, cap, h1, rfl, h2⟩ := h
  exact ⟨ao, cap, h1.upd hu (hs b (by simp)) (fun c hc => hs c (by simp [hc])), rfl, h2⟩
theorem IG.to {W : World} {b : Nat} {L' : List It} {fq : List Nat} {w w' : World} (hW : W.heap.size ≤ w.heap.size) {ao : Option Addr} (hfq : fq = b :: blkO ao) (h2 : ∀ c ∈ fq, W.heap.size ≤ c) (k : ItsGo w b 0 ao L' w') : IGTo W b L' fq w w' := by
  obtain ⟨ao', cap', k1, k2, k3, _⟩ := k
  subst hfq
  refine ⟨b :: blkO ao', ⟨ao', cap', k1, rfl, fun c hc => ?_⟩, fun c hc => ?_, k3.mono (fun i _ hm => by simp at hm; simp [hm])⟩
  · rcases List.mem_cons.1 hc with rfl | hc
    · exact h2 _ (by simp)
    · rcases k2 c hc with h | h
      · exact h2 c (by simp [h])
      · omega
  · rcases List.mem_cons.1 hc with rfl | hc
    · simp
    · rcases k2 c hc with h | h
      · simp [h]
      · exact .inr h
theorem IG.push {W : World} {b : Nat} {L : List It} {fq : List Nat} {w : World} (h : IG W b L fq w) (hW : W.heap.size ≤ w.heap.size) (x : It) (hsm : L.length < 1000) :
    Calls Try.prog 16 #[.pointer (some ⟨b, 0, none⟩), .agg #[.int .u64 x.1, .int .i64 x.2]] w (fun e w' => e = .returned (.bool (!hasI L x.2)) ∧ IGTo W b (if hasI L x.2 then L else insI x L) fq w w') := by
  obtain ⟨ao, cap, h1, h2, h3⟩ := h
  exact (ri_push b 0 ao cap L x w h1 hsm).mono fun _ _ k => ⟨k.1, IG.to hW h2 h3 k.2⟩
theorem IG.pop {W : World} {b : Nat} {L : List It} {fq : List Nat} {w : World} (h : IG W b L fq w) (hW : W.heap.size ≤ w.heap.size) :
    Calls Try.prog 24 #[.pointer (some ⟨b, 0, none⟩)] w (fun e w' => e = .returned (firstV L) ∧ IGTo W b L.tail fq w w') := by
  obtain ⟨ao, cap, h1, h2, h3⟩ := h
  exact (ri_pop b 0 ao cap L w h1).mono fun _ _ k => ⟨k.1, IG.to hW h2 h3 k.2⟩
theorem IG.drop {W : World} {b : Nat} {L : List It} {fq : List Nat} {w : World} (h : IG W b L fq w) (hW : W.heap.size ≤ w.heap.size) (id : Int) :
    Calls Try.prog 18 #[.pointer (some ⟨b, 0, none⟩), .int .i64 id] w (fun e w' => e = .returned (dropV L id) ∧ IGTo W b (dropI L id) fq w w') := by
  obtain ⟨ao, cap, h1, h2, h3⟩ := h
  exact (ri_drop b 0 ao cap L id w h1).mono fun _ _ k => ⟨k.1, IG.to hW h2 h3 k.2⟩
theorem IG.at_ {W : World} {b : Nat} {L : List It} {fq : List Nat} {w : World} (h : IG W b L fq w) (id : Int) :
    Calls Try.prog 25 #[.pointer (some ⟨b, 0, none⟩), .int .i64 id] w (fun e w' => e = .returned (.int .i64 (posI L id)) ∧ w = w') := by
  obtain ⟨ao, cap, h1, h2, h3⟩ := h
  exact ri_at b 0 ao cap L id w h1
theorem IG.min {W : World} {b : Nat} {L : List It} {fq : List Nat} {w : World} (h : IG W b L fq w) :
    Calls Try.prog 27 #[.pointer (some ⟨b, 0, none⟩)] w (RetUpd [] w (firstV L)) := by
  obtain ⟨ao, cap, h1, h2, h3⟩ := h
  exact ri_min b 0 ao cap L w h1
/-- A list that has just been made. -/
theorem IG.new {W w : World} {b : Nat} (h : Blk w b 28 [.slice none 0 0]) (hb : W.heap.size ≤ b) : IG W b [] [b] w :=
  ⟨none, 0, { cell := h.cell (j := 0) rfl, free := h.free 0, row := RowO.nil _ _ _, lt := h.lt, apart := by simp [blkO], small := by simp, nd := by simp [NdI], srt := List.Pairwise.nil }, rfl, fun c hc => by simp at hc; omega⟩
/-- Where the list stands. -/
theorem IG.cell {W : World} {b : Nat} {L : List It} {fq : List Nat} {w : World} (h : IG W b L fq w) : ∃ ao cap, w.cell? ⟨b, 0, none⟩ = some (.slice ao L.length cap) ∧ RowO w 37 2 ao L.length cap (L.flatMap itVs) ∧ b < w.heap.size ∧ ∀ c ∈ blkO ao, c ∈ fq := by
  obtain ⟨ao, cap, h1, rfl, h3⟩ := h
  exact ⟨ao, cap, h1.cell, h1.row, h1.lt, fun c hc => by simp [hc]⟩

/-- A heap and a list that hold the same. -/
def PR (W : World) (hb b : Nat) (L : List It) (fp fq : List Nat) (w : World) : Prop := HG W hb L fp w ∧ IG W b L fq w ∧ ∀ c ∈ fp, c ∉ fq
theorem PR.upd {W : World} {hb b : Nat} {L : List It} {fp fq : List Nat} {w w' : World} (h : PR W hb b L fp fq w) (hu : Upd [] w w') : PR W hb b L fp fq w' := ⟨h.1.upd hu, h.2.1.upd hu (by simp), h.2.2⟩
theorem PR.updS {W : World} {hb b : Nat} {L : List It} {fp fq S : List Nat} {w w' : World} (h : PR W hb b L fp fq w) (hu : Upd S w w') (h1 : ∀ c ∈ fp, c ∉ S) (h2 : ∀ c ∈ fq, c ∉ S) (hS : ∀ c ∈ S, W.heap.size ≤ c) : PR W hb b L fp fq w' := ⟨h.1.updS hu h1 hS, h.2.1.upd hu h2, h.2.2⟩
theorem PR.after {W : World} {hb b : Nat} {L L' : List It} {fp fq : List Nat} {w w' : World} (h : PR W hb b L fp fq w) (k : HGTo W hb L' fp w w') : IG W b L fq w' := by
  obtain ⟨fp', k1, k2, k3⟩ := k
  exact h.2.1.upd k3 (fun c hc e => h.2.2 c e hc)
/-- What a deed done to both leaves. -/
def DeedTo (W : World) (hb b : Nat) (L : List It) (fp fq : List Nat) (w : World) (e : Ending) (w' : World) : Prop :=
  e = .returned (.bool true) ∧ ∃ L' fp' fq', PR W hb b L' fp' fq' w' ∧ (∀ c ∈ fp', c ∈ fp ∨ w.heap.size ≤ c) ∧ (∀ c ∈ fq', c ∈ fq ∨ w.heap.size ≤ c) ∧ Upd (fp ++ fq) w w' ∧ L'.length ≤ L.length + 1
theorem pair_done {W : World} {hb b : Nat} {L L' : List It} {fp fq : List Nat} {w w4 w5 w6 w7 w8 : World} (hU : Upd [] w w4) (hp : PR W hb b L fp fq w4) (hp0 : ∀ c ∈ fp, c < w.heap.size) (hq0 : ∀ c ∈ fq, c < w.heap.size) (h5 : HGTo W hb L' fp w4 w5) (g : Upd [] w5 w6) (h7 : IGTo W b L' fq w6 w7) (g2 : Upd [] w7 w8) (hl : L'.length ≤ L.length + 1) :
    DeedTo W hb b L fp fq w (.returned (.bool true)) w8 := by
  obtain ⟨fp', k1, k2, k3⟩ := h5
  obtain ⟨fq', j1, j2, j3⟩ := h7
  have hs4 := hU.size
  have hs5 := k3.size
  have hs6 := g.size
  refine ⟨rfl, L', fp', fq', ⟨((k1.upd g).updS j3 (fun c hc e => ?_) (fun c hc => ?_)).upd g2, j1.upd g2 (by simp), fun c hc e => ?_⟩, fun c hc => ?_, fun c hc => ?_, ?_, hl⟩
  · rcases k2 c hc with h | h
    · exact hp.2.2 c h e
    · have := hq0 c e; omega
  · obtain ⟨_, _, _, _, h3⟩ := hp.2.1; exact h3 c hc
  · rcases j2 c e with h | h
    · rcases k2 c hc with h' | h'
      · exact hp.2.2 c h' h
      · have := hq0 c h; omega
    · have := k1.1.lt c hc; omega
  · rcases k2 c hc with h | h
    · exact .inl h
    · right; omega
  · rcases j2 c hc with h | h
    · exact .inl h
    · right; omega
  · refine Upd.trans ?_ g2.nil
    refine Upd.trans ?_ (j3.mono (fun i _ hm => by simp [hm]))
    refine Upd.trans ?_ g.nil
    exact hU.nil.trans (k3.mono (fun i _ hm => by simp [hm]))

theorem firstV_it (L : List It) : ∃ y ok, firstV L = itV y ok := by cases L <;> exact ⟨_, _, rfl⟩
theorem dropV_it (L : List It) (id : Int) : ∃ y ok, dropV L id = itV y ok := by unfold dropV; split <;> exact ⟨_, _, rfl⟩
end Go.Proofs.Ytilibinmbmgedaa
