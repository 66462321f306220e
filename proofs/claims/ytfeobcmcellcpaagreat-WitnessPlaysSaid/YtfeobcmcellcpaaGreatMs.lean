/-
  The walk of the statements' Plan: some plan. No condition.
-/
import Derived.Test.YtfeobcmcellcpaaGreatMr
import Derived.Test.YtfeobcmcellcpaaGreatConf
import Derived.Test.YtfeobcmcellcpaaGreatPMQ
set_option linter.unusedVariables false
set_option linter.unusedSimpArgs false
namespace Go.Proofs.YtfeobcmcellcpaaGreat
open Go.RowKit

structure LiRow (w wr : World) (ao : Option Addr) (n cap : Nat) (E : List Li) : Prop where
  row : RowO wr 26 1 ao n cap (E.flatMap liVs)
  len : E.length = n
  new : ∀ c ∈ blkO ao, w.heap.size ≤ c
  sl : ∀ x ∈ E, SlAt wr 4 x.v x.L.length (x.L.flatMap clVs) ∧ ∀ c ∈ lvB x.v, c ∉ blkO ao ∧ w.heap.size ≤ c ∧ c < wr.heap.size
theorem LiRow.nil (w wr : World) : LiRow w wr none 0 0 [] := ⟨RowO.nil _ _ _, rfl, fun c hc => (by cases hc), fun e he => (by cases he)⟩
theorem LiRow.upd {w wr w' : World} {ao : Option Addr} {n cap : Nat} {E : List Li} {S : List Nat} (h : LiRow w wr ao n cap E) (hu : Upd S wr w') (hs : ∀ c ∈ S, c < w.heap.size) : LiRow w w' ao n cap E :=
  ⟨h.row.upd hu (fun c hc hm => by have := h.new c hc; have := hs c hm; omega), h.len, h.new, fun e he => ⟨(h.sl e he).1.updS hu (fun c hc hm => by have := ((h.sl e he).2 c hc).2.1; have := hs c hm; omega), fun c hc => ⟨((h.sl e he).2 c hc).1, ((h.sl e he).2 c hc).2.1, Nat.lt_of_lt_of_le ((h.sl e he).2 c hc).2.2 hu.size⟩⟩⟩
theorem LiRow.push {w wr w' : World} {ao ao' : Option Addr} {n cap cap' : Nat} {E : List Li} {e : Li} (h : LiRow w wr ao n cap E) (hsz : w.heap.size ≤ wr.heap.size) (hA : Apped wr 26 1 ao (n + 1) (E.flatMap liVs ++ liVs e) ao' cap' w') (he : SlAt wr 4 e.v e.L.length (e.L.flatMap clVs)) (hb : ∀ c ∈ lvB e.v, c ∉ blkO ao ∧ w.heap.size ≤ c ∧ c < wr.heap.size) :
    LiRow w w' ao' (n + 1) cap' (E ++ [e]) := by
  have hs := hA.upd.size
  have hkeep : ∀ v : Value, (∀ c ∈ lvB v, c ∉ blkO ao ∧ w.heap.size ≤ c ∧ c < wr.heap.size) → ∀ c ∈ lvB v, c ∉ blkO ao' ∧ w.heap.size ≤ c ∧ c < w'.heap.size := fun v hv c hc => by
    have := hv c hc
    refine ⟨fun h2 => ?_, this.2.1, by omega⟩
    rcases hA.at_ c h2 with h3 | h3
    · exact this.1 h3
    · omega
  refine ⟨by rw [List.flatMap_append]; simpa using hA.row, by rw [List.length_append, h.len]; rfl, fun c hc => ?_, fun x hx => ?_⟩
  · rcases hA.at_ c hc with h3 | h3
    · exact h.new c h3
    · omega
  · rcases List.mem_append.1 hx with hx | hx
    · have k := h.sl x hx
      exact ⟨k.1.updS hA.upd (fun c hc => (k.2 c hc).1), hkeep _ k.2⟩
    · simp only [List.mem_cons, List.not_mem_nil, or_false] at hx
      subst hx
      exact ⟨he.updS hA.upd (fun c hc => (hb c hc).1), hkeep _ hb⟩
def PlTo (w : World) (e : Ending) (w' : World) : Prop := ∃ (a b c d : Int) (u : Nat) (ao : Option Addr) (cap : Nat) (E : List Li), e = .returned (.agg #[.int .i64 a, .int .i64 b, .int .i64 c, .int .i64 d, .int .u64 u, .slice ao E.length cap]) ∧ ListsAt w' (.slice ao E.length cap) E ∧ E.length ≤ 6 ∧ ((∀ c ∈ blkO ao, w.heap.size ≤ c) ∧ ∀ x ∈ E, ∀ c ∈ lvB x.v, w.heap.size ≤ c) ∧ Upd [] w w'
def POutAt (w5 : World) (b6 : Nat) (a b c d : Int) (u : Nat) (fv iv : Value) (wr : World) : Prop := ∃ (i left : Nat) (ao : Option Addr) (cap : Nat) (E : List Li), iv = .int .i64 i ∧ fv = .int .i64 left ∧ (i : Int) ≤ c ∧ left ≤ 57 ∧ Blk wr b6 29 [.int .i64 a, .int .i64 b, .int .i64 c, .int .i64 d, .int .u64 u, .slice ao i cap] ∧ LiRow w5 wr ao i cap E ∧ Upd [b6] w5 wr
def PInAt (wb : World) (fv lv kv : Value) (wr : World) : Prop := ∃ (k left n : Nat) (ao : Option Addr) (cap : Nat) (L : List Cl), kv = .int .i64 k ∧ fv = .int .i64 left ∧ lv = .slice ao n cap ∧ k ≤ 5 ∧ n ≤ 3 + k ∧ left ≤ 57 ∧ ClRow wb wr ao n cap L

end Go.Proofs.YtfeobcmcellcpaaGreat
