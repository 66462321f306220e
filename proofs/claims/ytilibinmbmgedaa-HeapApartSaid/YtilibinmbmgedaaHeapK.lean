/-
  A heap inside a law: the deeds, and what the law asks first. No condition.
-/
import Derived.Test.YtilibinmbmgedaaHeapJ
namespace Go.Proofs.Ytilibinmbmgedaa
open Go.RowKit

/-- A heap of items in order, in blocks that are new since W; nothing else was changed. -/
def HG (W : World) (hb : Nat) (L : List It) (fp : List Nat) (w : World) : Prop := HeapIs w hb L fp ∧ (∀ b ∈ fp, W.heap.size ≤ b) ∧ Upd [] W w
def HGTo (W : World) (hb : Nat) (L : List It) (fp : List Nat) (w w' : World) : Prop := ∃ fp', HG W hb L fp' w' ∧ (∀ b ∈ fp', b ∈ fp ∨ w.heap.size ≤ b) ∧ Upd fp w w'
theorem HG.upd {W : World} {hb : Nat} {L : List It} {fp : List Nat} {w w' : World} (h : HG W hb L fp w) (hu : Upd [] w w') : HG W hb L fp w' := ⟨h.1.upd hu (by simp), h.2.1, h.2.2.trans hu⟩
theorem HG.updS {W : World} {hb : Nat} {L : List It} {fp S : List Nat} {w w' : World} (h : HG W hb L fp w) (hu : Upd S w w') (hs : ∀ b ∈ fp, b ∉ S) (hw : ∀ b ∈ S, W.heap.size ≤ b) : HG W hb L fp w' :=
  ⟨h.1.upd hu hs, h.2.1, h.2.2.then hu (by simp) (fun i hi hm => by have := hw i hm; omega)⟩
theorem HG.to {W : World} {hb : Nat} {L L' : List It} {fp : List Nat} {v : Value} {e : Ending} {w w' : World} (h : HG W hb L fp w) (k : HeapTo w hb fp v L' e w') : e = .returned v ∧ HGTo W hb L' fp w w' := by
  obtain ⟨he, fp', h1, h2, h3⟩ := k
  refine ⟨he, fp', ⟨h1, fun b hb => ?_, h.2.2.then h3 (by simp) (fun i hi hm => by have := h.2.1 i hm; omega)⟩, h2, h3⟩
  rcases h2 b hb with e | e
  · exact h.2.1 b e
  · exact Nat.le_trans h.2.2.size e
theorem HG.push {W : World} {hb : Nat} {L : List It} {fp : List Nat} {w : World} (h : HG W hb L fp w) (x : It) (hs : L.length < 1000) :
    Calls Try.prog 13 #[.pointer (some ⟨hb, 0, none⟩), .agg #[.int .u64 x.1, .int .i64 x.2]] w (fun e w' => e = .returned (.bool (!hasI L x.2)) ∧ HGTo W hb (if hasI L x.2 then L else insI x L) fp w w') :=
  (heap_push hb L fp x w h.1 hs).mono fun _ _ k => h.to k
theorem HG.pop {W : World} {hb : Nat} {L : List It} {fp : List Nat} {w : World} (h : HG W hb L fp w) :
    Calls Try.prog 15 #[.pointer (some ⟨hb, 0, none⟩)] w (fun e w' => e = .returned (firstV L) ∧ HGTo W hb L.tail fp w w') :=
  (heap_pop hb L fp w h.1).mono fun _ _ k => h.to k
theorem HG.drop {W : World} {hb : Nat} {L : List It} {fp : List Nat} {w : World} (h : HG W hb L fp w) (id : Int) :
    Calls Try.prog 17 #[.pointer (some ⟨hb, 0, none⟩), .int .i64 id] w (fun e w' => e = .returned (dropV L id) ∧ HGTo W hb (dropI L id) fp w w') :=
  (heap_drop hb L fp id w h.1).mono fun _ _ k => h.to k
theorem HG.has {W : World} {hb : Nat} {L : List It} {fp : List Nat} {w : World} (h : HG W hb L fp w) (id : Int) :
    Calls Try.prog 19 #[.pointer (some ⟨hb, 0, none⟩), .int .i64 id] w (fun e w' => e = .returned (.bool (hasI L id)) ∧ HG W hb L fp w' ∧ Upd [] w w') :=
  (heap_has hb L fp id w h.1).mono fun _ _ k => ⟨k.1, h.upd k.2, k.2⟩
theorem HG.len {W : World} {hb : Nat} {L : List It} {fp : List Nat} {w : World} (h : HG W hb L fp w) :
    Calls Try.prog 10 #[.pointer (some ⟨hb, 0, none⟩)] w (fun e w' => e = .returned (.int .i64 L.length) ∧ HG W hb L fp w' ∧ Upd [] w w') :=
  (heap_len hb L fp w h.1).mono fun _ _ k => ⟨k.1, h.upd k.2, k.2⟩
theorem HG.new (w : World) : Calls Try.prog 7 #[] w (fun e w' => ∃ hb fp, e = .returned (.pointer (some ⟨hb, 0, none⟩)) ∧ HG w hb [] fp w' ∧ Upd [] w w') :=
  (heap_new w).mono fun _ _ k => ⟨_, _, k.1, ⟨k.2.1, fun b hb => by simp at hb; omega, k.2.2⟩, k.2.2⟩

set_option maxHeartbeats 400000 in
theorem rahead_any (a b : It) (w : World) :
    Calls Try.prog 35 #[.agg #[.int .u64 a.1, .int .i64 a.2], .agg #[.int .u64 b.1, .int .i64 b.2]] w (RetUpd [] w (.bool (ahead a b))) := by
  obtain ⟨k1, i1⟩ := a
  obtain ⟨k2, i2⟩ := b
  go_enter Try.func35, Try.ntmps35
  go_wp2
  all_goals
    go_ret
    refine ⟨ret_bool ?_, ((Upd.refl _ _).alloc _).alloc _⟩
    try (simp [ahead, *]; done)

set_option maxHeartbeats 8000000 in
theorem awake4_any (w : World) : Calls Try.prog 8 #[] w (RetUpd [] w (.bool true)) := by
  go_enter Try.func8, Try.ntmps8
  go_wp2_with fail
  refine (HG.new w).mono ?_
  rintro e w1 ⟨hb, fp1, rfl, h1, -⟩
  go_wp2_with fail
  refine (h1.push (5, 1) (by simp)).mono ?_
  rintro e w2 ⟨he, fp2, h2, -⟩
  have he2 : e = .returned (.bool true) := he
  subst he2
  have h2' : HG w hb [(5, 1)] fp2 w2 := h2
  clear h2 he h1
  go_wp2_with fail
  refine (h2'.push (5, 0) (by simp)).mono ?_
  rintro e w3 ⟨he, fp3, h3, -⟩
  have he2 : e = .returned (.bool true) := he
  subst he2
  have h3' : HG w hb [(5, 0), (5, 1)] fp3 w3 := h3
  clear h3 he h2'
  go_wp2_with fail
  refine (h3'.push (9, 1) (by simp)).mono ?_
  rintro e w4 ⟨he, fp4, h4, -⟩
  have he2 : e = .returned (.bool false) := he
  subst he2
  have h4' : HG w hb [(5, 0), (5, 1)] fp4 w4 := h4
  clear h4 he h3'
  go_wp2_with fail
  refine h4'.pop.mono ?_
  rintro e w5 ⟨he, fp5, h5, -⟩
  have he2 : e = .returned (.tuple #[.agg #[.int .u64 5, .int .i64 0], .bool true]) := he
  subst he2
  have h5' : HG w hb [(5, 1)] fp5 w5 := h5
  clear h5 he h4'
  go_wp2_with fail
  refine (h5'.upd ((Upd.refl [] w5).alloc _)).len.mono ?_
  rintro e w6 ⟨he, h6, -⟩
  have he2 : e = .returned (.int .i64 1) := he
  subst he2
  go_wp2_with fail
  refine (h6.has 1).mono ?_
  rintro e w7 ⟨he, h7, -⟩
  have he2 : e = .returned (.bool true) := he
  subst he2
  go_wp2
  go_ret
  exact ⟨rfl, h7.2.2⟩
end Go.Proofs.Ytilibinmbmgedaa
