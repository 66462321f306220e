/-
  The walk of the heap's swap of a place with itself. No condition.
-/
import Derived.Test.YtilibinmbmgedaaHeapA
namespace Go.Proofs.Ytilibinmbmgedaa
open Go.RowKit

theorem self_cells {w W1 : World} {hb g cap mb : Nat} {A : List It} (h : HpAt w hb (some ⟨g, 0, none⟩) cap mb A) {i : Nat} (hi : i < A.length) {xi : It} (hxi : atI A i = xi)
    (hW : W1 = ((((w.setCell ⟨g, i * 2, none⟩ (.int .u64 xi.1)).setCell ⟨g, i * 2 + 1, none⟩ (.int .i64 xi.2)).setCell ⟨g, i * 2, none⟩ (.int .u64 xi.1)).setCell ⟨g, i * 2 + 1, none⟩ (.int .i64 xi.2)).drew) :
    Upd [g] w W1 ∧ Row W1 37 2 g A.length cap (A.flatMap itVs) := by
  have := swap_cells h hi hi hxi hxi hW
  rw [swp_self A i hi] at this
  exact this

theorem self_done {w W1 : World} {hb g cap mb n : Nat} {A : List It} {i : Nat} {xi : It} {M : AL} {si : Nat} (h : HpAt w hb (some ⟨g, 0, none⟩) cap mb A) (hn : A.length = n) (hxi : atI A i = xi) (hi : i < n)
    (hU : Upd [g] w W1) (hR : Row W1 37 2 g A.length cap (A.flatMap itVs)) (hM : IMap W1 mb M) (hMn : NdM M) (hMi : IdxOf A M) (a1 : HasEnt W1 mb xi.2 si) :
    HpAt (storeW (storeW W1.drew mb si (.int .i64 i)) mb si (.int .i64 i)) hb (some ⟨g, 0, none⟩) cap mb A ∧ Upd [g, mb] w (storeW (storeW W1.drew mb si (.int .i64 i)) mb si (.int .i64 i)) := by
  subst hn
  have n1 : hb ≠ g := by have := h.d1; simpa [blkO] using this
  have n3 : mb ≠ g := by have := h.d3; simpa [blkO] using this
  have u0 : Upd [mb] W1 W1.drew := (Upd.refl _ _).drew
  have t1 := storeW_to (a1.upd (Upd.refl [] W1).drew (by simp)) (hM.upd (Upd.refl [] W1).drew (by simp)) (.int .i64 i)
  have t2 := storeW_to ((a1.upd (Upd.refl [] W1).drew (by simp)).stays si (.int .i64 i)) t1.map (.int .i64 i)
  have hu : Upd [mb] W1 _ := u0.trans (t1.upd.trans t2.upd)
  have hU2 : Upd [g, mb] w _ := (hU.mono (fun _ _ hm => by simp at hm ⊢; exact .inl hm)).trans (hu.mono (fun _ _ hm => by simp at hm ⊢; exact .inr hm))
  refine ⟨{ h with top := h.top.upd hU2 (by simp; exact ⟨n1, h.d2⟩), row := (hR.upd hu (by simp; exact fun e => n3 e.symm)).o, map := ⟨_, t2.map, (hMn.put _ _).put _ _, fun k hk => ?_, fun id v hl => ?_⟩ }, hU2⟩
  · rw [lookM_put, lookM_put]
    by_cases h1 : (atI A k).2 = xi.2
    · rw [if_pos h1, atI_inj h.nd hk hi (by rw [hxi]; exact h1)]
    · rw [if_neg h1, if_neg h1]; exact hMi.1 k hk
  · rw [lookM_put, lookM_put] at hl
    by_cases h1 : id = xi.2
    · exact ⟨i, hi, by rw [hxi, h1]⟩
    · rw [if_neg h1, if_neg h1] at hl; exact hMi.2 id v hl

theorem Ent.init1 {W1 : World} {mb : Nat} {k1 : Int} {s1 : Nat} (h1 : HasEnt W1 mb k1 s1) : (∀ (a : Addr), W1.drew.cell? a = W1.cell? a) ∧ HasEnt W1.drew mb k1 s1 := ⟨fun _ => World.cell?_drew .., h1⟩
theorem Ent.keep1 {w' W1 : World} {mb : Nat} {k1 : Int} {s1 : Nat} (h : (∀ (a : Addr), w'.cell? a = W1.cell? a) ∧ HasEnt w' mb k1 s1) (s : Nat) (v : Value) :
    (∀ (a : Addr), (storeW w' mb s v).cell? a = W1.cell? a) ∧ HasEnt (storeW w' mb s v) mb k1 s1 := by
  have := Ent.keep (k2 := k1) (s2 := s1) ⟨h.1, h.2, h.2⟩ s v
  exact ⟨this.1, this.2.1⟩

set_option maxHeartbeats 4000000 in
theorem swap_eq (hb g cap mb : Nat) (A : List It) (i : Nat) (w : World) (h : HpAt w hb (some ⟨g, 0, none⟩) cap mb A) (hi : i < A.length) :
    Calls Try.prog 36 #[.pointer (some ⟨hb, 0, none⟩), .int .i64 i, .int .i64 i] w (fun e w' => e = .returned (.tuple #[]) ∧ HpAt w' hb (some ⟨g, 0, none⟩) cap mb A ∧ Upd [g, mb] w w') := by
  have HH := Lib.hid h
  have c0 := h.top.cell (j := 0) rfl
  have c1 := h.top.cell (j := 1) rfl
  obtain ⟨x0, x1⟩ := item_cells (g := g) h.row hi
  have f0 := Row.free (g := g) h.row (i * 2)
  have f1 := Row.free (g := g) h.row (i * 2 + 1)
  have n1 : hb ≠ g := by have := h.d1; simpa [blkO] using this
  have n2 : hb ≠ mb := h.d2
  have n3 : mb ≠ g := by have := h.d3; simpa [blkO] using this
  have small := h.small
  obtain ⟨xi, hxi⟩ : ∃ x, atI A i = x := ⟨_, rfl⟩
  rw [hxi] at x0 x1
  have HXI := Lib.hid hxi
  obtain ⟨n, hn⟩ : ∃ n, A.length = n := ⟨_, rfl⟩
  rw [hn] at c0 hi small
  have HN := Lib.hid hn
  clear hxi hn h
  go_enter Try.func36, Try.ntmps36
  go_wp2
  go_region
  go_wp2
  obtain ⟨W1, hW1⟩ : ∃ W1 : World, W1 = ((((w.setCell ⟨g, i * 2, none⟩ (.int .u64 xi.1)).setCell ⟨g, i * 2 + 1, none⟩ (.int .i64 xi.2)).setCell ⟨g, i * 2, none⟩ (.int .u64 xi.1)).setCell ⟨g, i * 2 + 1, none⟩ (.int .i64 xi.2)).drew := ⟨_, rfl⟩
  rw [← hW1]
  obtain ⟨hU1, hR1⟩ := self_cells HH.out (by rw [HN.out]; exact hi) HXI.out hW1
  have k0 : W1.cell? ⟨hb, 0, none⟩ = some (.slice (some ⟨g, 0, none⟩) n cap) := by rw [hU1.cell HH.out.top.lt (by simp [n1])]; exact c0
  have k1 : W1.cell? ⟨hb, 1, none⟩ = some (.map (some mb)) := by rw [hU1.cell HH.out.top.lt (by simp [n1])]; exact c1
  have k2 := (item_cells hR1 (i := i) (by rw [HN.out]; exact hi)).2
  rw [HXI.out] at k2
  obtain ⟨M, hM, hMn, hMi⟩ := HH.out.map
  have hl1 := hMi.1 i (by rw [HN.out]; exact hi)
  rw [HXI.out] at hl1
  obtain ⟨si, hsi⟩ := ent_of hM hl1
  have a1 := hsi.upd hU1 (by simp [n3])
  have hM1 := Lib.hid (hM.upd hU1 (by simp [n3]))
  have HMN := Lib.hid hMn
  have HMI := Lib.hid hMi
  have HU1 := Lib.hid hU1
  have HR1 := Lib.hid hR1
  have q2 := fun (W : World) (h : HasEnt W mb xi.2 si) => h.entry underlyingIntMap underlyingInt
  have q4 := fun (W : World) (h : HasEnt W mb xi.2 si) (v : Value) => h.store (P := Try.prog) (T := 52) v
  clear hW1 hU1 hR1 hM hMn hMi hl1 hsi c0 c1 x0 x1 f0 f1
  go_region_held3 (fun w' => (∀ (a : Addr), w'.cell? a = W1.cell? a) ∧ HasEnt w' mb xi.2 si)
    (first | exact Ent.init1 a1 | assumption | exact Ent.keep1 (by assumption) _ _) (fail)
  all_goals go_wp2
  go_end0
  exact ⟨rfl, self_done HH.out HN.out HXI.out hi HU1.out HR1.out hM1.out HMN.out HMI.out a1⟩
end Go.Proofs.Ytilibinmbmgedaa
