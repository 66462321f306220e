/-
  The walks of the reference's Pop and Drop. No condition.
-/
import Derived.Test.YtbnifhdnpeiheaaDoorItemsC
set_option linter.unusedVariables false
set_option linter.unusedSimpArgs false
namespace Go.Proofs.YtbnifhdnpeiheaaDoor
open Go.RowKit

/-- What a deed on a list leaves, whether or not it did anything. -/
def ItsGo (w : World) (b o : Nat) (ao : Option Addr) (L' : List It) (w' : World) : Prop :=
  ∃ ao' cap', ItsAt w' b o ao' cap' L' ∧ (∀ c ∈ blkO ao', c ∈ blkO ao ∨ w.heap.size ≤ c) ∧ Upd [b] w w' ∧ (∀ ty cs, Blk w b ty cs → Blk w' b ty (cs.set o (.slice ao' L'.length cap'))) ∧
    ∀ e size n cap xs, Row w e size b n cap xs → o < n * size → Row w' e size b n cap (xs.set o (.slice ao' L'.length cap'))

theorem set_same {α : Type} {cs : List α} {o : Nat} {v : α} (h : cs[o]? = some v) : cs.set o v = cs := by
  apply List.ext_getElem?
  intro j
  by_cases e : o = j
  · subst e
    have hlt : o < cs.length := by
      rcases Nat.lt_or_ge o cs.length with h1 | h1
      · exact h1
      · rw [List.getElem?_eq_none h1] at h; cases h
    rw [List.getElem?_set_self hlt, h]
  · rw [List.getElem?_set_ne e]
theorem ItsAt.stays {w w' : World} {b o cap : Nat} {ao : Option Addr} {L : List It} (h : ItsAt w b o ao cap L) (hu : Upd [] w w') : ItsGo w b o ao L w' := by
  refine ⟨ao, cap, h.upd hu (by simp) (by simp), fun c hc => .inl hc, hu.nil, fun ty cs hB => ?_, fun e size n c2 xs hB ho => ?_⟩
  · have : cs[o]? = some (.slice ao L.length cap) := by
      have hc := h.cell
      unfold Blk at hB
      simpa [World.cell?, hB] using hc
    rw [set_same this]
    exact hB.upd hu (by simp)
  · have : xs[o]? = some (.slice ao L.length cap) := by
      have hc := h.cell
      have hl := hB.len
      have h1 : xs[o]? = some (xs[o]'(by omega)) := List.getElem?_eq_getElem _
      rw [hB.cell h1] at hc
      rw [h1, hc]
    rw [set_same this]
    exact hB.upd hu (by simp)
theorem ItsTo.go {w w0 w1 w' : World} {b o : Nat} {ao : Option Addr} {L' : List It} (h : ItsTo w0 b o L' w1) (h0 : Upd [] w w0) {S : List Nat} (hu : Upd S w1 w') (hb : b < w.heap.size) (hS : ∀ c ∈ S, w.heap.size ≤ c ∧ c < w0.heap.size) : ItsGo w b o ao L' w' := by
  obtain ⟨ao', cap', h1, h2, h3, h4, h5⟩ := h
  have hbS : b ∉ S := fun e => by have := (hS b e).1; omega
  refine ⟨ao', cap', h1.upd hu hbS (fun c hc e => by have := h2 c hc; have := (hS c e).2; omega), fun c hc => .inr (Nat.le_trans h0.size (h2 c hc)), (h0.nil.trans h3).then hu (fun _ _ hm => hm) (fun i hi hm => by have := (hS i hm).1; omega), fun ty cs hB => (h4 ty cs (hB.upd h0 (by simp))).upd hu hbS, fun e size n cap xs hB _ => (h5 e size n cap xs (hB.upd h0 (by simp))).upd hu hbS⟩

set_option maxHeartbeats 4000000 in
theorem ri_pop (b o : Nat) (ao : Option Addr) (cap : Nat) (L : List It) (w : World) (h : ItsAt w b o ao cap L) :
    Calls Tryd.prog 56 #[.pointer (some ⟨b, o, none⟩)] w (fun e w' => e = .returned (firstV L) ∧ ItsGo w b o ao L.tail w') := by
  have c0 := h.cell
  have lb := h.lt
  have small := h.small
  have HH := Lib.hid h
  cases L with
  | nil =>
    clear h
    go_enter Tryd.func56, Tryd.ntmps56
    go_wp2
    exact bodyPost_ret (v := .tuple #[.agg #[.int .u64 0, .int .i64 0], .bool false]) (by simp [results, Tryd.results56, go_sem]) rfl ⟨rfl, HH.out.stays ((Upd.refl [] w).alloc _)⟩
  | cons x L =>
    obtain ⟨n, hn⟩ : ∃ n, (x :: L).length = n := ⟨_, rfl⟩
    have hn0 : n ≠ 0 := by rw [← hn]; simp
    rw [hn] at c0 small
    have t1 : ((n : Int) == 0) = false := by simp; omega
    have hU1 : Upd [] w (w.alloc (.cells #[.int .u64 0, .int .i64 0] 35)) := (Upd.refl _ w).alloc _
    have HU1 := Lib.hid hU1
    have HB1 := Lib.hid (Blk.new w 35 [.int .u64 0, .int .i64 0])
    clear h hn hU1
    go_enter Tryd.func56, Tryd.ntmps56
    go_wp2_with fail
    refine (ri_cut b o ao cap (x :: L) 0 x _ (HH.out.upd HU1.out (by simp) (by simp)) (by simp) rfl).mono ?_
    rintro e w2 ⟨rfl, hI⟩
    rw [drop_head HH.out.nd] at hI
    have HI := Lib.hid hI
    have hb2 : w.heap.size ≠ b := by omega
    obtain ⟨_, _, _, _, hU2, _⟩ := hI
    have hB2 := HB1.out.upd hU2 (by simp; exact hb2)
    have k0 := hB2.cell (j := 0) rfl
    have k1 := hB2.cell (j := 1) rfl
    have z0 := hB2.free 0
    have z1 := hB2.free 1
    clear hU2 hB2
    go_wp2
    obtain ⟨s0, s1⟩ := two_set (w := w2) rfl rfl k0 k1 (.int .u64 x.1) (.int .i64 x.2)
    exact bodyPost_ret (v := .tuple #[.agg #[.int .u64 x.1, .int .i64 x.2], .bool true]) (by simp [results, Tryd.results56, go_sem, s0, s1]) rfl ⟨rfl, HI.out.go HU1.out (S := [w.heap.size]) (((Upd.refl _ _).setCell (by simp) _).setCell (by simp) _) lb (fun c hc => by simp at hc; subst hc; simp)⟩

set_option maxHeartbeats 4000000 in
theorem ri_drop (b o : Nat) (ao : Option Addr) (cap : Nat) (L : List It) (id : Int) (w : World) (h : ItsAt w b o ao cap L) :
    Calls Tryd.prog 58 #[.pointer (some ⟨b, o, none⟩), .int .i64 id] w (fun e w' => e = .returned (dropV L id) ∧ ItsGo w b o ao (dropI L id) w') := by
  have lb := h.lt
  have HH := Lib.hid h
  have hU1 : Upd [] w (w.alloc (.cells #[.int .u64 0, .int .i64 0] 35)) := (Upd.refl _ w).alloc _
  have HU1 := Lib.hid hU1
  have HB1 := Lib.hid (Blk.new w 35 [.int .u64 0, .int .i64 0])
  clear hU1
  cases hx : hasI L id with
  | false =>
    have hdv : Hid (dropV L id = itV zIt false) := by unfold Hid dropV; rw [findI_none.2 hx]
    have hp : Hid (posI L id = -1) := posI_neg hx
    have hdi : Hid (dropI L id = L) := dropI_none hx
    clear h hx
    go_enter Tryd.func58, Tryd.ntmps58
    go_wp2_with fail
    refine (ri_at b o ao cap L id _ (HH.out.upd HU1.out (by simp) (by simp))).mono ?_
    rintro e w2 ⟨rfl, rfl⟩
    rw [hp.out]
    go_wp2
    exact bodyPost_ret (v := .tuple #[.agg #[.int .u64 0, .int .i64 0], .bool false]) (by simp [results, Tryd.results58, go_sem]) rfl ⟨by rw [hdv.out]; rfl, by rw [hdi.out]; exact HH.out.stays HU1.out⟩
  | true =>
    obtain ⟨i, hp, hi, hid⟩ := posI_of hx
    obtain ⟨x, hxx⟩ : ∃ x, atI L i = x := ⟨_, rfl⟩
    rw [hxx] at hid
    have hdv : Hid (dropV L id = itV x true) := by
      unfold Hid dropV
      rw [← hid, findI_of h.nd (x := x) (by rw [← hxx, atI_get L i hi]; exact List.getElem_mem hi)]
    have HP := Lib.hid hp
    have HI := Lib.hid hi
    have HX := Lib.hid hxx
    have HID := Lib.hid hid
    have small := h.small
    have hi2 : i < 1000 := by omega
    have t1 : decide ((i : Int) < 0) = false := by simp
    clear h hx hp hi hxx hid
    go_enter Tryd.func58, Tryd.ntmps58
    go_wp2_with fail
    refine (ri_at b o ao cap L id _ (HH.out.upd HU1.out (by simp) (by simp))).mono ?_
    rintro e w1 ⟨rfl, hw1⟩
    rw [HP.out]
    subst hw1
    go_wp2_with fail
    refine (ri_cut b o ao cap L i x _ (HH.out.upd HU1.out (by simp) (by simp)) HI.out HX.out).mono ?_
    rintro e w2 ⟨rfl, hI⟩
    rw [HID.out] at hI
    have HIT := Lib.hid hI
    have hb2 : w.heap.size ≠ b := by omega
    obtain ⟨_, _, _, _, hU2, _⟩ := hI
    have hB2 := HB1.out.upd hU2 (by simp; exact hb2)
    have k0 := hB2.cell (j := 0) rfl
    have k1 := hB2.cell (j := 1) rfl
    have z0 := hB2.free 0
    have z1 := hB2.free 1
    clear hU2 hB2
    go_wp2
    obtain ⟨s0, s1⟩ := two_set (w := w2) rfl rfl k0 k1 (.int .u64 x.1) (.int .i64 x.2)
    exact bodyPost_ret (v := .tuple #[.agg #[.int .u64 x.1, .int .i64 x.2], .bool true]) (by simp [results, Tryd.results58, go_sem, s0, s1]) rfl ⟨by rw [hdv.out]; rfl, HIT.out.go HU1.out (S := [w.heap.size]) (((Upd.refl _ _).setCell (by simp) _).setCell (by simp) _) lb (fun c hc => by simp at hc; subst hc; simp)⟩
end Go.Proofs.YtbnifhdnpeiheaaDoor
