/-
  The document's wheel: Pop. No condition.
-/
import Derived.Test.YtbnifhdnpeiheaaDoorRWb
set_option linter.unusedVariables false
set_option linter.unusedSimpArgs false
namespace Go.Proofs.YtbnifhdnpeiheaaDoor
open Go.RowKit

set_option maxHeartbeats 8000000 in
theorem rwpop_cons {b base wd : Nat} {far : Bool} {ao : Option Addr} {cap : Nat} {x : It} {L : List It} {w : World} (h : RAt w b base wd far ao cap (x :: L)) (n : Nat) (hx : x.1 = n) (hn : n < 18446744073709551616) :
    Calls Tryd.prog 68 #[.pointer (some ⟨b, 0, none⟩)] w (fun e w' => e = .returned (firstV (x :: L)) ∧ RGo b n wd far ao L w w') := by
  have lb := h.blk.lt
  have HH := Lib.hid h
  have HN := Lib.hid hn
  obtain ⟨k, id⟩ := x
  simp only at hx
  subst hx
  have HO := Lib.hid (HH.out.its.row.lt)
  have HA := Lib.hid (h.up ((Upd.refl [] w).alloc (.cells #[.int .u64 0, .int .i64 0] 35)) (by simp) (by simp))
  clear h hn
  go_enter Tryd.func68, Tryd.ntmps68
  go_wp2_with fail
  refine (ri_pop b 0 ao cap (((n : Int), id) :: L) _ HA.out.its).mono ?_
  rintro e w2 ⟨rfl, hgo⟩
  obtain ⟨ao', cap', h1, h2, h3⟩ := HA.out.its_go (Upd.refl [] _) hgo
  rw [List.tail_cons] at h1
  unfold firstV itV
  have hR := (Blk.new w 35 [.int .u64 0, .int .i64 0]).upd h3 (by simp; omega)
  have k0 := hR.cell (j := 0) rfl
  have k1 := hR.cell (j := 1) rfl
  have z0 := hR.free 0
  have z1 := hR.free 1
  have lr := hR.lt
  have b1 := h1.blk.cell (j := 1) rfl
  have y1 := h1.blk.free 1
  have lb2 := h1.blk.lt
  have H1 := Lib.hid h1
  have H2 := Lib.hid h2
  have H3 := Lib.hid h3
  have HR := Lib.hid hR
  clear hgo h1 h2 h3 hR
  go_wp2
  have hne : w.heap.size ≠ b := by omega
  have hB := HR.out.setFar (a := ⟨b, 1, none⟩) (by simp; omega) (.int .u64 n)
  obtain ⟨s0, s1⟩ := two_set (w := w2.setCell ⟨b, 1, none⟩ (.int .u64 n)) rfl rfl (hB.cell (j := 0) rfl) (hB.cell (j := 1) rfl) (.int .u64 n) (.int .i64 id)
  obtain ⟨w3, hw3⟩ : ∃ w3, w3 = (((w2.setCell ⟨b, 1, none⟩ (.int .u64 n)).setCell ⟨w.heap.size, 0, none⟩ (.int .u64 n)).setCell ⟨w.heap.size, 1, none⟩ (.int .i64 id)) := ⟨_, rfl⟩
  have l3 : w.heap.size < w3.heap.size := by rw [hw3]; simpa using lr
  rw [← hw3] at s0 s1 ⊢
  have q0 : (w3.alloc (.cells #[.int .u64 n, .int .i64 id] 35)).cell? ⟨w.heap.size, 0, none⟩ = some (.int .u64 n) := by rw [World.cell?_alloc_past _ _ _ (by simpa using l3)]; exact s0
  have q1 : (w3.alloc (.cells #[.int .u64 n, .int .i64 id] 35)).cell? ⟨w.heap.size, 1, none⟩ = some (.int .i64 id) := by rw [World.cell?_alloc_past _ _ _ (by simpa using l3)]; exact s1
  have hU : Upd [w.heap.size] (w2.setCell ⟨b, 1, none⟩ (.int .u64 n)) (w3.alloc (.cells #[.int .u64 n, .int .i64 id] 35)) := by
    rw [hw3]
    exact (((Upd.refl [w.heap.size] _).setCell (.inl (by simp)) _).setCell (.inl (by simp)) _).alloc _
  refine bodyPost_ret (v := .tuple #[.agg #[.int .u64 n, .int .i64 id], .bool true]) (by simp [results, Tryd.results68, go_sem, q0, q1]) rfl ⟨rfl, ao', cap', (H1.out.based n HN.out).up hU (by simp; omega) (fun c hc e => ?_), fun c hc => ?_, ?_⟩
  · simp at e
    subst e
    rcases H2.out _ hc with e | e
    · have := HO.out _ e; omega
    · simp at e; omega
  · rcases H2.out _ hc with e | e
    · exact .inl e
    · simp at e; right; omega
  · have hf : Upd [b] w (w2.setCell ⟨b, 1, none⟩ (.int .u64 n)) := (((Upd.refl [b] w).alloc _).trans H3.out).setCell (.inl (by simp)) _
    exact hf.then hU (fun _ _ e => e) (fun i hi e => by simp at e; omega)

set_option maxHeartbeats 8000000 in
theorem rwpop_nil {b base wd : Nat} {far : Bool} {ao : Option Addr} {cap : Nat} {w : World} (h : RAt w b base wd far ao cap []) :
    Calls Tryd.prog 68 #[.pointer (some ⟨b, 0, none⟩)] w (fun e w' => e = .returned (firstV []) ∧ RGo b base wd far ao [] w w') := by
  have lb := h.blk.lt
  have HO := Lib.hid (h.its.row.lt)
  have HA := Lib.hid (h.up ((Upd.refl [] w).alloc (.cells #[.int .u64 0, .int .i64 0] 35)) (by simp) (by simp))
  clear h
  go_enter Tryd.func68, Tryd.ntmps68
  go_wp2_with fail
  refine (ri_pop b 0 ao cap [] _ HA.out.its).mono ?_
  rintro e w2 ⟨rfl, hgo⟩
  obtain ⟨ao', cap', h1, h2, h3⟩ := HA.out.its_go (Upd.refl [] _) hgo
  rw [List.tail_nil] at h1
  unfold firstV itV
  have hR := (Blk.new w 35 [.int .u64 0, .int .i64 0]).upd h3 (by simp; omega)
  have k0 := hR.cell (j := 0) rfl
  have k1 := hR.cell (j := 1) rfl
  have z0 := hR.free 0
  have z1 := hR.free 1
  have lr := hR.lt
  have H1 := Lib.hid h1
  have H2 := Lib.hid h2
  have H3 := Lib.hid h3
  have HR := Lib.hid hR
  clear hgo h1 h2 h3 hR
  go_wp2
  have hne : w.heap.size ≠ b := by omega
  obtain ⟨s0, s1⟩ := two_set (w := w2) rfl rfl k0 k1 (.int .u64 zIt.1) (.int .i64 zIt.2)
  obtain ⟨w3, hw3⟩ : ∃ w3, w3 = ((w2.setCell ⟨w.heap.size, 0, none⟩ (.int .u64 zIt.1)).setCell ⟨w.heap.size, 1, none⟩ (.int .i64 zIt.2)) := ⟨_, rfl⟩
  have l3 : w.heap.size < w3.heap.size := by rw [hw3]; simpa using lr
  rw [← hw3] at s0 s1 ⊢
  have q0 : (w3.alloc (.cells #[.int .u64 zIt.1, .int .i64 zIt.2] 35)).cell? ⟨w.heap.size, 0, none⟩ = some (.int .u64 zIt.1) := by rw [World.cell?_alloc_past _ _ _ (by simpa using l3)]; exact s0
  have q1 : (w3.alloc (.cells #[.int .u64 zIt.1, .int .i64 zIt.2] 35)).cell? ⟨w.heap.size, 1, none⟩ = some (.int .i64 zIt.2) := by rw [World.cell?_alloc_past _ _ _ (by simpa using l3)]; exact s1
  have hU : Upd [w.heap.size] w2 (w3.alloc (.cells #[.int .u64 zIt.1, .int .i64 zIt.2] 35)) := by
    rw [hw3]
    exact (((Upd.refl [w.heap.size] _).setCell (.inl (by simp)) _).setCell (.inl (by simp)) _).alloc _
  refine bodyPost_ret (v := .tuple #[.agg #[.int .u64 zIt.1, .int .i64 zIt.2], .bool false]) (by simp [results, Tryd.results68, go_sem, q0, q1]) rfl ⟨rfl, ao', cap', H1.out.up hU (by simp; omega) (fun c hc e => ?_), fun c hc => ?_, ?_⟩
  · simp at e
    subst e
    rcases H2.out _ hc with e | e
    · have := HO.out _ e; omega
    · simp at e; omega
  · rcases H2.out _ hc with e | e
    · exact .inl e
    · simp at e; right; omega
  · have hf : Upd [b] w w2 := ((Upd.refl [b] w).alloc _).trans H3.out
    exact hf.then hU (fun _ _ e => e) (fun i hi e => by simp at e; omega)

theorem rwpop {b base wd : Nat} {far : Bool} {ao : Option Addr} {cap : Nat} {L : List It} {w : World} (h : RAt w b base wd far ao cap L) (hk : ∀ x ∈ L, x.1 = (kn x : Int) ∧ kn x < 18446744073709551616) :
    Calls Tryd.prog 68 #[.pointer (some ⟨b, 0, none⟩)] w (fun e w' => e = .returned (firstV L) ∧ RGo b (popB base L) wd far ao L.tail w w') := by
  cases L with
  | nil => exact rwpop_nil h
  | cons x L => exact rwpop_cons h (kn x) (hk x (by simp)).1 (hk x (by simp)).2
end Go.Proofs.YtbnifhdnpeiheaaDoor
