/-
  The wheel's Pop at the law's level. No condition.
-/
import Derived.Test.YtbnifhdnpeiheaaDoorWq
set_option linter.unusedVariables false
set_option linter.unusedSimpArgs false
namespace Go.Proofs.YtbnifhdnpeiheaaDoor
open Go.RowKit

def popB (base : Nat) (L : List It) : Nat := match L with | [] => base | x :: _ => kn x
theorem WG.head {W w : World} {wb base wd : Nat} {x : It} {L : List It} {fp : List Nat} (h : WG W wb base wd (x :: L) fp w) : x.1 = (kn x : Int) ∧ kn x < 18446744073709551616 ∧ base ≤ kn x := by
  obtain ⟨s, h1, h2, rfl, rfl, rfl, h3, h4, h5⟩ := h
  have hk := h2.key x (by simp)
  exact ⟨kn_cast hk.1, by unfold kn; have := hk.1.1; have := hk.1.2; omega, hk.2⟩
theorem WG.rows {W w : World} {wb base wd : Nat} {L : List It} {fp : List Nat} (h : WG W wb base wd L fp w) : ∀ x ∈ L, x.1 = (kn x : Int) := by
  obtain ⟨s, h1, h2, rfl, rfl, rfl, h3, h4, h5⟩ := h
  intro x hx
  exact kn_cast (h2.key x hx).1
theorem WG.movT {W w : World} {wb base wd : Nat} {x : It} {L : List It} {fp : List Nat} (h : WG W wb base wd (x :: L) fp w) : movB base L (kn x) = true := by
  have h1 := h.head
  have h2 := h.srt
  have h3 := h.rows
  unfold movB
  rw [Bool.and_eq_true]
  refine ⟨by simpa using h1.2.2, ?_⟩
  rw [List.all_eq_true]
  intro y hy
  have h4 := (List.pairwise_cons.1 h2).1 y hy
  have e1 := h3 y (by simp [hy])
  have e2 := h1.1
  simp
  simp [ahead] at h4
  omega
set_option maxHeartbeats 8000000 in
theorem wpop_nil {W w : World} {wb base wd : Nat} {fp : List Nat} (h : WG W wb base wd [] fp w) :
    Calls Tryd.prog 67 #[.pointer (some ⟨wb, 0, none⟩)] w (fun e w' => e = .returned (firstV []) ∧ Upd [] w w') := by
  have HH := Lib.hid h
  clear h
  go_enter Tryd.func67, Tryd.ntmps67
  go_wp2_with fail
  refine (WG.min (HH.out.upd ((Upd.refl [] w).alloc _))).mono ?_
  rintro e w2 ⟨rfl, hU2⟩
  unfold firstV itV
  have hU := ((Upd.refl [] w).alloc (.cells #[.int .u64 0, .int .i64 0] 35)).trans hU2
  have HU := Lib.hid hU
  have hR := (Blk.new w 35 [.int .u64 0, .int .i64 0]).upd hU2 (by simp)
  have k0 := hR.cell (j := 0) rfl
  have k1 := hR.cell (j := 1) rfl
  have z0 := hR.free 0
  have z1 := hR.free 1
  have lr := hR.lt
  clear hU hU2 hR
  go_wp2
  obtain ⟨s0, s1⟩ := two_set (w := w2.alloc (.cells #[.int .u64 zIt.1, .int .i64 zIt.2] 35)) rfl rfl (by rw [World.cell?_alloc_past _ _ _ (by simpa using lr)]; exact k0) (by rw [World.cell?_alloc_past _ _ _ (by simpa using lr)]; exact k1) (.int .u64 0) (.int .i64 0)
  have hUf := ((HU.out.mono (T := [w.heap.size]) (fun _ _ hm => by cases hm)).setCell (p := ⟨w.heap.size, 0, none⟩) (.inl (by simp)) (.int .u64 0)).setCell (p := ⟨w.heap.size, 1, none⟩) (.inl (by simp)) (.int .i64 0) |>.alloc (.cells #[.int .u64 zIt.1, .int .i64 zIt.2] 35)
  refine bodyPost_ret (v := .tuple #[.agg #[.int .u64 0, .int .i64 0], .bool false]) (by simp [results, Tryd.results67, go_sem, lr, k0, k1]) rfl ⟨rfl, hUf.mono (fun b hb hm => by simp at hm; omega)⟩

set_option maxHeartbeats 8000000 in
theorem wpop_cons {W w : World} {wb base wd : Nat} {x : It} {L : List It} {fp : List Nat} (h : WG W wb base wd (x :: L) fp w) :
    Calls Tryd.prog 67 #[.pointer (some ⟨wb, 0, none⟩)] w (fun e w' => e = .returned (firstV (x :: L)) ∧ WGTo W wb (kn x) wd L fp w w') := by
  have HH := Lib.hid h
  have hd := h.head
  obtain ⟨e1, hk, hb⟩ := hd
  have HM := Lib.hid h.movT
  have hnd := h.nd
  have HN := Lib.hid hnd
  obtain ⟨k, id⟩ := x
  obtain ⟨n, hn⟩ : ∃ n, kn (k, id) = n := ⟨_, rfl⟩
  rw [hn] at e1 hk hb HM ⊢
  simp only at e1
  subst e1
  clear h hnd
  go_enter Tryd.func67, Tryd.ntmps67
  go_wp2_with fail
  refine (WG.min (HH.out.upd ((Upd.refl [] w).alloc _))).mono ?_
  rintro e w2 ⟨rfl, hU2⟩
  unfold firstV itV
  have hU := ((Upd.refl [] w).alloc (.cells #[.int .u64 0, .int .i64 0] 35)).trans hU2
  have HU := Lib.hid hU
  have hR := (Blk.new w 35 [.int .u64 0, .int .i64 0]).upd hU2 (by simp)
  have HR := Lib.hid hR
  have lr := hR.lt
  clear hU hU2 hR
  go_wp2_with fail
  refine (WG.drop ((HH.out.upd HU.out).upd ((Upd.refl [] w2).alloc _)) id).mono ?_
  rintro e w4 ⟨rfl, fp', hH4, hfp, hU4⟩
  have hlt := HH.out.lt
  rw [drop_head HN.out] at hH4
  have hdv : dropV (((n : Int), id) :: L) id = itV ((n : Int), id) true := by unfold dropV; rw [find_head]
  rw [hdv]
  unfold itV
  have hr4 := (HR.out.alloc (.cells #[.int .u64 n, .int .i64 id] 35)).upd hU4 (fun e => by have := hlt _ e; omega)
  have hx4 := (Blk.new w2 35 [.int .u64 n, .int .i64 id]).upd hU4 (fun e => by have := hlt _ e; have := HU.out.size; omega)
  have x0 := hx4.cell (j := 0) rfl
  have x1 := hx4.cell (j := 1) rfl
  have lx := hx4.lt
  have HX4 := Lib.hid hx4
  have HH4 := Lib.hid hH4
  have HU4 := Lib.hid hU4
  have HFP := Lib.hid hfp
  have HR4 := Lib.hid hr4
  have hs2 : w.heap.size ≤ w2.heap.size := by omega
  have hs4 : w2.heap.size < w4.heap.size := by have := hU4.size; simp at this; omega
  clear hH4 hU4 hfp hr4 hdv hx4
  go_wp2_with fail
  refine (WG.move HH4.out n hk).mono ?_
  rintro e w5 ⟨rfl, fp5, hH5, hfp5, hU5⟩
  rw [HM.out] at hH5 ⊢
  rw [if_pos rfl] at hH5
  have hnf4 : w.heap.size ∉ fp' := fun e => by
    rcases HFP.out _ e with e | e
    · have := hlt _ e; omega
    · simp at e; omega
  have hnx4 : w2.heap.size ∉ fp' := fun e => by
    rcases HFP.out _ e with e | e
    · have := hlt _ e; omega
    · simp at e; omega
  have hx5 := HX4.out.upd hU5 (fun e => hnx4 e)
  clear x0 x1 lx
  have x0 := hx5.cell (j := 0) rfl
  have x1 := hx5.cell (j := 1) rfl
  have lx := hx5.lt
  clear hx5
  have hr5 := HR4.out.upd hU5 (fun e => hnf4 e)
  have k0 := hr5.cell (j := 0) rfl
  have k1 := hr5.cell (j := 1) rfl
  have z0 := hr5.free 0
  have z1 := hr5.free 1
  have HH5 := Lib.hid hH5
  have HU5 := Lib.hid hU5
  have HFP5 := Lib.hid hfp5
  have hs5 := hU5.size
  clear hH5 hU5 hfp5 hr5
  go_wp2
  obtain ⟨s0, s1⟩ := two_set (w := w5) rfl rfl k0 k1 (.int .u64 n) (.int .i64 id)
  have hnf5 : w.heap.size ∉ fp5 := fun e => by
    rcases HFP5.out _ e with e | e
    · exact hnf4 e
    · omega
  refine bodyPost_ret (v := .tuple #[.agg #[.int .u64 n, .int .i64 id], .bool true]) (by simp [results, Tryd.results67, go_sem, s0, s1]) rfl ⟨rfl, fp5, HH5.out.updS (((Upd.refl [w.heap.size] _).setCell (by simp) _).setCell (by simp) _) (fun b hb => by simp; exact fun e => hnf5 (e ▸ hb)) (fun c hc => by simp at hc; have := HH.out.updW.size; omega), fun b hb => ?_, ?_⟩
  · rcases HFP5.out b hb with e | e
    · rcases HFP.out b e with e | e
      · exact .inl e
      · simp at e; right; omega
    · right; omega
  · have hfin : Upd fp w w5 := ((HU.out.nil.alloc (.cells #[.int .u64 n, .int .i64 id] 35)).trans HU4.out).then HU5.out (fun _ _ e => e) (fun i hi e => by
      rcases HFP.out i e with e | e
      · exact e
      · simp at e; omega)
    exact (hfin.setCell (.inr (by simp)) _).setCell (.inr (by simp)) _

theorem WG.pop {W w : World} {wb base wd : Nat} {L : List It} {fp : List Nat} (h : WG W wb base wd L fp w) :
    Calls Tryd.prog 67 #[.pointer (some ⟨wb, 0, none⟩)] w (fun e w' => e = .returned (firstV L) ∧ WGTo W wb (popB base L) wd L.tail fp w w') := by
  cases L with
  | nil => exact (wpop_nil h).mono (fun e w' ⟨a, b⟩ => ⟨a, fp, h.upd b, Fr.of b⟩)
  | cons x L => exact wpop_cons h
end Go.Proofs.YtbnifhdnpeiheaaDoor
