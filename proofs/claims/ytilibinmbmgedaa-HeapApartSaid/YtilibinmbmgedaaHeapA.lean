/-
  A heap in memory; the walk of its swap. No condition.
-/
import Derived.Test.YtilibinmbmgedaaHeapM
import Derived.Test.YtilibinmbmgedaaMapE
import Derived.Test.YtilibinmbmgedaaRowO
namespace Go.Proofs.Ytilibinmbmgedaa
open Go.RowKit

theorem underlyingIntMap : Try.prog.underlying 52 = some (.map 3 3) := by kernel_rfl
theorem underlyingInt : Try.prog.underlying 3 = some (.int .i64) := by kernel_rfl
theorem zeroInt (w : World) : (zeroValue 3).run Try.prog w = .ok (.int .i64 0) w := by kernel_rfl

/-- The map tells where each ID stands. -/
def IdxOf (A : List It) (M : AL) : Prop := (∀ j, j < A.length → lookM M (atI A j).2 = some (.int .i64 j)) ∧ ∀ id v, lookM M id = some v → ∃ j, j < A.length ∧ (atI A j).2 = id

/-- A heap in memory. -/
structure HpAt (w : World) (hb : Nat) (ao : Option Addr) (cap mb : Nat) (A : List It) : Prop where
  top : Blk w hb 54 [.slice ao A.length cap, .map (some mb)]
  row : RowO w 37 2 ao A.length cap (A.flatMap itVs)
  map : ∃ M, IMap w mb M ∧ NdM M ∧ IdxOf A M
  nd : NdI A
  small : A.length ≤ 1000
  d1 : hb ∉ blkO ao
  d2 : hb ≠ mb
  d3 : mb ∉ blkO ao

theorem HpAt.upd {S : List Nat} {w w' : World} {hb cap mb : Nat} {ao : Option Addr} {A : List It} (h : HpAt w hb ao cap mb A) (hu : Upd S w w') (h1 : hb ∉ S) (h2 : ∀ b ∈ blkO ao, b ∉ S) (h3 : mb ∉ S) : HpAt w' hb ao cap mb A := by
  obtain ⟨M, hM, r⟩ := h.map
  exact { h with top := h.top.upd hu h1, row := h.row.upd hu h2, map := ⟨M, hM.upd hu h3, r⟩ }

theorem atI_inj {A : List It} (h : NdI A) {i j : Nat} (hi : i < A.length) (hj : j < A.length) (e : (atI A i).2 = (atI A j).2) : i = j := by
  unfold NdI at h
  have hp := List.pairwise_iff_getElem.1 h
  rw [atI_get A i hi, atI_get A j hj] at e
  rcases Nat.lt_trichotomy i j with hij | rfl | hij
  · exact absurd (by rw [List.getElem_map, List.getElem_map]; exact e) (hp i j (by simpa using hi) (by simpa using hj) hij)
  · rfl
  · exact absurd (by rw [List.getElem_map, List.getElem_map]; exact e.symm) (hp j i (by simpa using hj) (by simpa using hi) hij)

theorem item_cells {w : World} {g n cap : Nat} {A : List It} (h : Row w 37 2 g n cap (A.flatMap itVs)) {i : Nat} (hi : i < A.length) :
    w.cell? ⟨g, i * 2, none⟩ = some (.int .u64 (atI A i).1) ∧ w.cell? ⟨g, i * 2 + 1, none⟩ = some (.int .i64 (atI A i).2) := by
  have hx : A[i]? = some (atI A i) := by rw [atI_get A i hi]; exact List.getElem?_eq_getElem hi
  exact ⟨h.cell (by rw [← Nat.add_zero (i * 2), flat_get itVs 2 itVs_len A i 0 (by omega) _ hx]; rfl), h.cell (by rw [flat_get itVs 2 itVs_len A i 1 (by omega) _ hx]; rfl)⟩

/-- The entry of an ID that is there. -/
theorem ent_of {w : World} {mb : Nat} {M : AL} (h : IMap w mb M) {k : Int} {v : Value} (hl : lookM M k = some v) : ∃ s, HasEnt w mb k s := by
  obtain ⟨es, clock, hb, hM, hS⟩ := h
  have := lookM_idx M k 0
  rw [hl] at this
  obtain ⟨⟨i, x⟩, hi, _⟩ := Option.map_eq_some_iff.1 this
  obtain ⟨_, e, he, _⟩ := idx_get hM hi
  exact ⟨e.born, es, clock, M, i, x, hb, hM, hS, hi, by rw [Nat.sub_zero] at he; rw [he]; rfl⟩

theorem swap_cells {w W1 : World} {hb g cap mb : Nat} {A : List It} (h : HpAt w hb (some ⟨g, 0, none⟩) cap mb A) {i j : Nat} (hi : i < A.length) (hj : j < A.length) {xi xj : It} (hxi : atI A i = xi) (hxj : atI A j = xj)
    (hW : W1 = ((((w.setCell ⟨g, i * 2, none⟩ (.int .u64 xj.1)).setCell ⟨g, i * 2 + 1, none⟩ (.int .i64 xj.2)).setCell ⟨g, j * 2, none⟩ (.int .u64 xi.1)).setCell ⟨g, j * 2 + 1, none⟩ (.int .i64 xi.2)).drew) :
    Upd [g] w W1 ∧ Row W1 37 2 g A.length cap ((swp A i j).flatMap itVs) := by
  subst hW
  refine ⟨((((Upd.refl _ w).setCell (by simp) _).setCell (by simp) _).setCell (by simp) _).setCell (by simp) _ |>.drew, ?_⟩
  have hr : Row w 37 2 g A.length cap (A.flatMap itVs) := h.row
  have h4 := (((hr.set (i * 2) (.int .u64 xj.1)).set (i * 2 + 1) (.int .i64 xj.2)).set (j * 2) (.int .u64 xi.1)).set (j * 2 + 1) (.int .i64 xi.2)
  rw [item_set A i hi xj, item_set (A.set i xj) j (by simpa using hj) xi] at h4
  unfold swp
  rw [hxi, hxj]
  exact h4.drew

theorem Ent.init {W1 : World} {mb : Nat} {k1 k2 : Int} {s1 s2 : Nat} (h1 : HasEnt W1 mb k1 s1) (h2 : HasEnt W1 mb k2 s2) :
    (∀ (a : Addr), W1.drew.cell? a = W1.cell? a) ∧ HasEnt W1.drew mb k1 s1 ∧ HasEnt W1.drew mb k2 s2 := ⟨fun _ => World.cell?_drew .., h1, h2⟩

theorem Ent.keep {w' W1 : World} {mb : Nat} {k1 k2 : Int} {s1 s2 : Nat} (h : (∀ (a : Addr), w'.cell? a = W1.cell? a) ∧ HasEnt w' mb k1 s1 ∧ HasEnt w' mb k2 s2) (s : Nat) (v : Value) :
    (∀ (a : Addr), (storeW w' mb s v).cell? a = W1.cell? a) ∧ HasEnt (storeW w' mb s v) mb k1 s1 ∧ HasEnt (storeW w' mb s v) mb k2 s2 := by
  obtain ⟨hc, h1, h2⟩ := h
  refine ⟨fun a => ?_, h1.stays s v, h2.stays s v⟩
  rw [← hc a]
  obtain ⟨es, clock, M, i, x, hb, hM, hS, _⟩ := h1
  rcases storeW_shape w' mb s v es clock hb with e | ⟨j, e⟩
  · rw [e]
  · rw [e]; exact setObjW_cell ⟨es, clock, hb, hM, hS⟩ _ _ a

theorem swap_idx {A : List It} {M : AL} {i j : Nat} {xi xj : It} (hA : NdI A) (hM : IdxOf A M) (hi : i < A.length) (hj : j < A.length) (hij : i ≠ j) (hxi : atI A i = xi) (hxj : atI A j = xj) :
    IdxOf (swp A i j) (putM (putM M xj.2 (.int .i64 i)) xi.2 (.int .i64 j)) := by
  have hne : xi.2 ≠ xj.2 := fun e => hij (atI_inj hA hi hj (by rw [hxi, hxj]; exact e))
  refine ⟨fun k hk => ?_, fun id v hl => ?_⟩
  · rw [swp_len] at hk
    rw [atI_swp A i j k hi hj, lookM_put, lookM_put]
    by_cases h1 : k = j
    · subst h1; rw [if_pos rfl, hxi, if_pos rfl]
    · rw [if_neg h1]
      by_cases h2 : k = i
      · subst h2; rw [if_pos rfl, hxj, if_neg (fun e => hne e.symm), if_pos rfl]
      · rw [if_neg h2, if_neg (fun e => h2 (atI_inj hA hk hi (by rw [hxi]; exact e))), if_neg (fun e => h1 (atI_inj hA hk hj (by rw [hxj]; exact e)))]
        exact hM.1 k hk
  · rw [lookM_put, lookM_put] at hl
    by_cases h1 : id = xi.2
    · subst h1; exact ⟨j, by rw [swp_len]; exact hj, by rw [atI_swp A i j j hi hj, if_pos rfl, hxi]⟩
    · rw [if_neg h1] at hl
      by_cases h2 : id = xj.2
      · subst h2; exact ⟨i, by rw [swp_len]; exact hi, by rw [atI_swp A i j i hi hj, if_neg hij, if_pos rfl, hxj]⟩
      · rw [if_neg h2] at hl
        obtain ⟨k, hk, e⟩ := hM.2 id v hl
        refine ⟨k, by rw [swp_len]; exact hk, ?_⟩
        rw [atI_swp A i j k hi hj, if_neg (fun h => h2 (by rw [← e, h, hxj])), if_neg (fun h => h1 (by rw [← e, h, hxi]))]
        exact e

theorem swap_done {w W1 : World} {hb g cap mb n : Nat} {A : List It} {i j : Nat} {xi xj : It} {M : AL} {si sj : Nat} (h : HpAt w hb (some ⟨g, 0, none⟩) cap mb A) (hn : A.length = n) (hxi : atI A i = xi) (hxj : atI A j = xj) (hi : i < n) (hj : j < n) (hij : i ≠ j)
    (hU : Upd [g] w W1) (hR : Row W1 37 2 g A.length cap ((swp A i j).flatMap itVs)) (hM : IMap W1 mb M) (hMn : NdM M) (hMi : IdxOf A M) (a1 : HasEnt W1 mb xi.2 si) (a2 : HasEnt W1 mb xj.2 sj) :
    HpAt (storeW (storeW W1.drew mb sj (.int .i64 i)) mb si (.int .i64 j)) hb (some ⟨g, 0, none⟩) cap mb (swp A i j) ∧ Upd [g, mb] w (storeW (storeW W1.drew mb sj (.int .i64 i)) mb si (.int .i64 j)) := by
  subst hn
  have n1 : hb ≠ g := by have := h.d1; simpa [blkO] using this
  have n3 : mb ≠ g := by have := h.d3; simpa [blkO] using this
  have u0 : Upd [mb] W1 W1.drew := (Upd.refl _ _).drew
  have t1 := storeW_to (a2.upd (Upd.refl [] W1).drew (by simp)) (hM.upd (Upd.refl [] W1).drew (by simp)) (.int .i64 i)
  have t2 := storeW_to ((a1.upd (Upd.refl [] W1).drew (by simp)).stays sj (.int .i64 i)) t1.map (.int .i64 j)
  have hu : Upd [mb] W1 _ := u0.trans (t1.upd.trans t2.upd)
  have hU2 : Upd [g, mb] w _ := (hU.mono (fun _ _ hm => by simp at hm ⊢; exact .inl hm)).trans (hu.mono (fun _ _ hm => by simp at hm ⊢; exact .inr hm))
  have hlen := swp_len A i j
  refine ⟨{ top := ?_, row := ?_, map := ⟨_, t2.map, (hMn.put _ _).put _ _, swap_idx h.nd hMi hi hj hij hxi hxj⟩, nd := h.nd.perm (swp_perm A i j hi hj).symm, small := by rw [hlen]; exact h.small, d1 := h.d1, d2 := h.d2, d3 := h.d3 }, hU2⟩
  · rw [hlen]; exact h.top.upd hU2 (by simp; exact ⟨n1, h.d2⟩)
  · rw [hlen]; exact (hR.upd hu (by simp; exact fun e => n3 e.symm)).o

set_option maxHeartbeats 4000000 in
theorem swap_ne (hb g cap mb : Nat) (A : List It) (i j : Nat) (w : World) (h : HpAt w hb (some ⟨g, 0, none⟩) cap mb A) (hi : i < A.length) (hj : j < A.length) (hij : i ≠ j) :
    Calls Try.prog 36 #[.pointer (some ⟨hb, 0, none⟩), .int .i64 i, .int .i64 j] w (fun e w' => e = .returned (.tuple #[]) ∧ HpAt w' hb (some ⟨g, 0, none⟩) cap mb (swp A i j) ∧ Upd [g, mb] w w') := by
  have HH := Lib.hid h
  have c0 := h.top.cell (j := 0) rfl
  have c1 := h.top.cell (j := 1) rfl
  obtain ⟨x0, x1⟩ := item_cells (g := g) h.row hi
  obtain ⟨y0, y1⟩ := item_cells (g := g) h.row hj
  have f0 := Row.free (g := g) h.row (i * 2)
  have f1 := Row.free (g := g) h.row (i * 2 + 1)
  have f2 := Row.free (g := g) h.row (j * 2)
  have f3 := Row.free (g := g) h.row (j * 2 + 1)
  have n1 : hb ≠ g := by have := h.d1; simpa [blkO] using this
  have n2 : hb ≠ mb := h.d2
  have n3 : mb ≠ g := by have := h.d3; simpa [blkO] using this
  have small := h.small
  obtain ⟨xi, hxi⟩ : ∃ x, atI A i = x := ⟨_, rfl⟩
  obtain ⟨xj, hxj⟩ : ∃ x, atI A j = x := ⟨_, rfl⟩
  rw [hxi] at x0 x1
  rw [hxj] at y0 y1
  have HXI := Lib.hid hxi
  have HXJ := Lib.hid hxj
  obtain ⟨n, hn⟩ : ∃ n, A.length = n := ⟨_, rfl⟩
  rw [hn] at c0 hi hj small
  have HN := Lib.hid hn
  have e1 : ¬ i * 2 = j * 2 := by omega
  have e2 : ¬ i * 2 = j * 2 + 1 := by omega
  have e3 : ¬ i * 2 + 1 = j * 2 := by omega
  have e4 : ¬ i * 2 + 1 = j * 2 + 1 := by omega
  have e5 : ¬ i = j := hij
  clear hxi hxj hn h hij
  go_enter Try.func36, Try.ntmps36
  go_wp2
  go_region
  go_wp2
  obtain ⟨W1, hW1⟩ : ∃ W1 : World, W1 = ((((w.setCell ⟨g, i * 2, none⟩ (.int .u64 xj.1)).setCell ⟨g, i * 2 + 1, none⟩ (.int .i64 xj.2)).setCell ⟨g, j * 2, none⟩ (.int .u64 xi.1)).setCell ⟨g, j * 2 + 1, none⟩ (.int .i64 xi.2)).drew := ⟨_, rfl⟩
  rw [← hW1]
  obtain ⟨hU1, hR1⟩ := swap_cells HH.out (by rw [HN.out]; exact hi) (by rw [HN.out]; exact hj) HXI.out HXJ.out hW1
  have k0 : W1.cell? ⟨hb, 0, none⟩ = some (.slice (some ⟨g, 0, none⟩) n cap) := by rw [hU1.cell HH.out.top.lt (by simp [n1])]; exact c0
  have k1 : W1.cell? ⟨hb, 1, none⟩ = some (.map (some mb)) := by rw [hU1.cell HH.out.top.lt (by simp [n1])]; exact c1
  have k2 := (item_cells hR1 (i := i) (by rw [swp_len, HN.out]; exact hi)).2
  have k3 := (item_cells hR1 (i := j) (by rw [swp_len, HN.out]; exact hj)).2
  rw [atI_swp A i j i (by rw [HN.out]; exact hi) (by rw [HN.out]; exact hj), if_neg e5, if_pos rfl, HXJ.out] at k2
  rw [atI_swp A i j j (by rw [HN.out]; exact hi) (by rw [HN.out]; exact hj), if_pos rfl, HXI.out] at k3
  obtain ⟨M, hM, hMn, hMi⟩ := HH.out.map
  have hl1 := hMi.1 i (by rw [HN.out]; exact hi)
  have hl2 := hMi.1 j (by rw [HN.out]; exact hj)
  rw [HXI.out] at hl1
  rw [HXJ.out] at hl2
  obtain ⟨si, hsi⟩ := ent_of hM hl1
  obtain ⟨sj, hsj⟩ := ent_of hM hl2
  have a1 := hsi.upd hU1 (by simp [n3])
  have a2 := hsj.upd hU1 (by simp [n3])
  have hM1 := Lib.hid (hM.upd hU1 (by simp [n3]))
  have HMN := Lib.hid hMn
  have HMI := Lib.hid hMi
  have HU1 := Lib.hid hU1
  have HR1 := Lib.hid hR1
  have q1 := fun (W : World) (h : HasEnt W mb xj.2 sj) => h.entry underlyingIntMap underlyingInt
  have q2 := fun (W : World) (h : HasEnt W mb xi.2 si) => h.entry underlyingIntMap underlyingInt
  have q3 := fun (W : World) (h : HasEnt W mb xj.2 sj) (v : Value) => h.store (P := Try.prog) (T := 52) v
  have q4 := fun (W : World) (h : HasEnt W mb xi.2 si) (v : Value) => h.store (P := Try.prog) (T := 52) v
  clear hW1 hU1 hR1 hM hMn hMi hl1 hl2 hsi hsj c0 c1 x0 x1 y0 y1 f0 f1 f2 f3
  go_region_held3 (fun w' => (∀ (a : Addr), w'.cell? a = W1.cell? a) ∧ HasEnt w' mb xj.2 sj ∧ HasEnt w' mb xi.2 si)
    (first | exact Ent.init a2 a1 | assumption | exact Ent.keep (by assumption) _ _) (fail)
  all_goals go_wp2
  go_end0
  exact ⟨rfl, swap_done HH.out HN.out HXI.out HXJ.out hi hj e5 HU1.out HR1.out hM1.out HMN.out HMI.out a1 a2⟩
end Go.Proofs.Ytilibinmbmgedaa
