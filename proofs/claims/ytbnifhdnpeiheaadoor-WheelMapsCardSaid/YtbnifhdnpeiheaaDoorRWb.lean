/-
  The document's wheel: Pop and Move. No condition.
-/
import Derived.Test.YtbnifhdnpeiheaaDoorRWa
set_option linter.unusedVariables false
set_option linter.unusedSimpArgs false
namespace Go.Proofs.YtbnifhdnpeiheaaDoor
open Go.RowKit

theorem RGo.based {w w' : World} {b base wd : Nat} {far : Bool} {ao : Option Addr} {L : List It} (h : RGo b base wd far ao L w w') (n : Nat) (hn : n < 18446744073709551616) : RGo b n wd far ao L w (w'.setCell ⟨b, 1, none⟩ (.int .u64 n)) := by
  obtain ⟨ao', cap', h1, h2, h3⟩ := h
  exact ⟨ao', cap', h1.based n hn, h2, h3.setCell (.inl (by simp)) _⟩
theorem RGo.up {w w' w'' : World} {b base wd : Nat} {far : Bool} {ao : Option Addr} {L : List It} (h : RGo b base wd far ao L w w') (hu : Upd [] w' w'') : RGo b base wd far ao L w w'' := by
  obtain ⟨ao', cap', h1, h2, h3⟩ := h
  exact ⟨ao', cap', h1.up hu (by simp) (by simp), h2, h3.trans hu.nil⟩
/-- Fresh blocks set: nothing of it changes. -/
theorem RGo.upS {w w' w'' : World} {b base wd : Nat} {far : Bool} {ao : Option Addr} {L : List It} (h : RGo b base wd far ao L w w') {c : Nat} (hc : w.heap.size ≤ c) (hb : b < w.heap.size) (hd : c ∉ match w'.cell? ⟨b, 0, none⟩ with | some (.slice (some a) _ _) => [a.block] | _ => []) (hu : Upd [c] w' w'') : RGo b base wd far ao L w w'' := by
  obtain ⟨ao', cap', h1, h2, h3⟩ := h
  have hne : b ∉ [c] := by simp; omega
  refine ⟨ao', cap', h1.up hu hne (fun d hd' e => ?_), h2, h3.then hu (fun _ _ e => e) (fun i hi e => by simp at e; omega)⟩
  simp at e
  subst e
  have c0 := h1.blk.cell (j := 0) rfl
  rw [c0] at hd
  cases ao' with
  | none => simp [blkO] at hd'
  | some a => simp [blkO] at hd'; exact hd (by simp [hd'])

set_option maxHeartbeats 4000000 in
theorem rwmove_no {b base wd : Nat} {far : Bool} {ao : Option Addr} {cap : Nat} {x : It} {L : List It} {w : World} (h : RAt w b base wd far ao cap (x :: L)) (t0 n : Nat) (hx : x.1 = n) (hb : base ≤ t0) (ht : n < t0) :
    Calls Tryd.prog 49 #[.pointer (some ⟨b, 0, none⟩), .int .u64 t0] w (RetUpd [] w (.bool false)) := by
  have c1 := h.blk.cell (j := 1) rfl
  have lb := h.blk.lt
  have HH := Lib.hid h
  have t1 : decide (t0 < base) = false := by simp; omega
  have t2 : decide (n < t0) = true := by simp; omega
  obtain ⟨k, id⟩ := x
  simp only at hx
  subst hx
  clear h
  go_enter Tryd.func49, Tryd.ntmps49
  go_wp2_with fail
  refine (ri_min b 0 ao cap (((n : Int), id) :: L) _ (HH.out.up (S := []) (by first | exact (Upd.refl [] w) | exact ((Upd.refl [] w).alloc _)) (by simp) (by simp)).its).mono ?_
  rintro e w2 ⟨rfl, hU2⟩
  unfold firstV itV
  have hc := hU2.cell lb (by simp) 1
  rw [c1] at hc
  have lb2 := Nat.lt_of_lt_of_le lb hU2.size
  have HU := Lib.hid hU2
  clear hU2
  go_wp2
  go_ret
  exact ⟨rfl, HU.out.alloc _⟩

set_option maxHeartbeats 4000000 in
theorem rwmove_low {b base wd : Nat} {far : Bool} {ao : Option Addr} {cap : Nat} {L : List It} {w : World} (h : RAt w b base wd far ao cap L) (t0 : Nat) (hb : t0 < base) :
    Calls Tryd.prog 49 #[.pointer (some ⟨b, 0, none⟩), .int .u64 t0] w (RetUpd [] w (.bool false)) := by
  have c1 := h.blk.cell (j := 1) rfl
  have lb := h.blk.lt
  have HH := Lib.hid h
  have t1 : decide (t0 < base) = true := by simp; omega
  obtain ⟨y, ok, hy⟩ : ∃ y ok, firstV L = itV y ok := by cases L <;> exact ⟨_, _, rfl⟩
  have HY := Lib.hid hy
  clear h hy
  go_enter Tryd.func49, Tryd.ntmps49
  go_wp2_with fail
  refine (ri_min b 0 ao cap L _ (HH.out.up (S := []) (by first | exact (Upd.refl [] w) | exact ((Upd.refl [] w).alloc _)) (by simp) (by simp)).its).mono ?_
  rintro e w2 ⟨rfl, hU2⟩
  rw [HY.out]
  unfold itV
  have hc := hU2.cell lb (by simp) 1
  rw [c1] at hc
  have lb2 := Nat.lt_of_lt_of_le lb hU2.size
  have HU := Lib.hid hU2
  clear hU2
  go_wp2
  go_ret
  exact ⟨rfl, HU.out.alloc _⟩

set_option maxHeartbeats 4000000 in
theorem rwmove_yes {b base wd : Nat} {far : Bool} {ao : Option Addr} {cap : Nat} {L : List It} {w : World} (h : RAt w b base wd far ao cap L) (t0 : Nat) (ht : t0 < 18446744073709551616) (hb : base ≤ t0) (y : It) (ok : Bool) (n : Nat) (hy : firstV L = itV y ok) (hn : y.1 = n) (hok : ok = true → t0 ≤ n) :
    Calls Tryd.prog 49 #[.pointer (some ⟨b, 0, none⟩), .int .u64 t0] w (fun e w' => e = .returned (.bool true) ∧ RGo b t0 wd far ao L w w') := by
  have c1 := h.blk.cell (j := 1) rfl
  have z1 := h.blk.free 1
  have lb := h.blk.lt
  have HH := Lib.hid h
  have t1 : decide (t0 < base) = false := by simp; omega
  obtain ⟨k, id⟩ := y
  simp only at hn
  subst hn
  have HY := Lib.hid hy
  have HT := Lib.hid ht
  cases ok with
  | false =>
    clear h hy hok ht
    go_enter Tryd.func49, Tryd.ntmps49
    go_wp2_with fail
    refine (ri_min b 0 ao cap L _ (HH.out.up (S := []) (by first | exact (Upd.refl [] w) | exact ((Upd.refl [] w).alloc _)) (by simp) (by simp)).its).mono ?_
    rintro e w2 ⟨rfl, hU2⟩
    rw [HY.out]
    unfold itV
    have hc := hU2.cell lb (by simp) 1
    rw [c1] at hc
    have hz := hU2.frozen (o := 1) lb (by simp)
    rw [z1] at hz
    have lb2 := Nat.lt_of_lt_of_le lb hU2.size
    have HU := Lib.hid hU2
    clear hU2
    go_wp2
    go_ret
    exact ⟨rfl, ((HH.out.go HU.out).based t0 HT.out).up ((Upd.refl [] _).alloc _)⟩
  | true =>
    have t2 : decide (n < t0) = false := by have := hok rfl; simp; omega
    clear h hy hok ht
    go_enter Tryd.func49, Tryd.ntmps49
    go_wp2_with fail
    refine (ri_min b 0 ao cap L _ (HH.out.up (S := []) (by first | exact (Upd.refl [] w) | exact ((Upd.refl [] w).alloc _)) (by simp) (by simp)).its).mono ?_
    rintro e w2 ⟨rfl, hU2⟩
    rw [HY.out]
    unfold itV
    have hc := hU2.cell lb (by simp) 1
    rw [c1] at hc
    have hz := hU2.frozen (o := 1) lb (by simp)
    rw [z1] at hz
    have lb2 := Nat.lt_of_lt_of_le lb hU2.size
    have HU := Lib.hid hU2
    clear hU2
    go_wp2
    go_ret
    exact ⟨rfl, ((HH.out.go HU.out).based t0 HT.out).up ((Upd.refl [] _).alloc _)⟩

theorem rwmove {b base wd : Nat} {far : Bool} {ao : Option Addr} {cap : Nat} {L : List It} {w : World} (h : RAt w b base wd far ao cap L) (t0 : Nat) (ht : t0 < 18446744073709551616) (hk : ∀ x ∈ L, x.1 = (kn x : Int)) :
    Calls Tryd.prog 49 #[.pointer (some ⟨b, 0, none⟩), .int .u64 t0] w (fun e w' => e = .returned (.bool (movB base L t0)) ∧ RGo b (if movB base L t0 = true then t0 else base) wd far ao L w w') := by
  by_cases hb : base ≤ t0
  · cases L with
    | nil =>
      have hm : movB base [] t0 = true := by unfold movB; simp [hb]
      rw [hm, if_pos rfl]
      exact rwmove_yes h t0 ht hb zIt false 0 rfl rfl (by simp)
    | cons x L =>
      have hx := hk x (by simp)
      by_cases hc : t0 ≤ kn x
      · have hm : movB base (x :: L) t0 = true := by
          unfold movB
          rw [Bool.and_eq_true, List.all_eq_true]
          refine ⟨by simpa using hb, fun y hy => ?_⟩
          rcases List.mem_cons.1 hy with rfl | hy
          · simpa using hc
          · have h4 := (List.pairwise_cons.1 h.its.srt).1 y hy
            have e1 := hk y (by simp [hy])
            simp
            simp [ahead] at h4
            omega
        rw [hm, if_pos rfl]
        exact rwmove_yes h t0 ht hb x true (kn x) rfl hx (fun _ => hc)
      · have hm : movB base (x :: L) t0 = false := by unfold movB; simp; intro _ h; omega
        rw [hm, if_neg (by simp)]
        refine (rwmove_no h t0 (kn x) hx hb (by omega)).mono ?_
        rintro e w' ⟨rfl, hU⟩
        exact ⟨rfl, h.go hU⟩
  · have hm : movB base L t0 = false := by unfold movB; simp [hb]
    rw [hm, if_neg (by simp)]
    refine (rwmove_low h t0 (by omega)).mono ?_
    rintro e w' ⟨rfl, hU⟩
    exact ⟨rfl, h.go hU⟩
end Go.Proofs.YtbnifhdnpeiheaaDoor
