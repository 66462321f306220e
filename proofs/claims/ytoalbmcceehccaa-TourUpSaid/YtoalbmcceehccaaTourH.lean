/-
  The walks of the statements' own helpers over a tour and the reference's: won, step, made. No condition.
-/
import Derived.Test.YtoalbmcceehccaaTourG
import Derived.Test.YtoalbmcceehccaaTourD
import Derived.Test.YtoalbmcceehccaaTourE
import Derived.BigRegion
namespace Go.Proofs.Ytoalbmcceehccaa
open Go.RowKit

/-- A tour and the reference's that tell the same. -/
structure St (w : World) (t : Tr) (r : Rf) : Prop where
  ta : TourAt w t
  ra : RTAt w r
  rel : RelL t.L r.has r.xs
  good : Good t.L t.size t.N
  size : t.size = sizeOf2 t.L.length
  a1 : t.bt ≠ r.p ∧ t.bt ≠ r.hb ∧ t.bt ≠ r.xb
  a2 : t.bl ≠ r.p ∧ t.bl ≠ r.hb ∧ t.bl ≠ r.xb
  a3 : t.bn ≠ r.p ∧ t.bn ≠ r.hb ∧ t.bn ≠ r.xb

theorem St.upd {w w' : World} {t : Tr} {r : Rf} (h : St w t r) (hu : Upd [] w w') : St w' t r := { h with ta := h.ta.upd hu (by simp) (by simp) (by simp), ra := h.ra.upd hu (by simp) (by simp) (by simp) }
theorem St.len {w : World} {t : Tr} {r : Rf} (h : St w t r) : r.has.length = t.L.length := h.rel.1
theorem St.pow {w : World} {t : Tr} {r : Rf} (h : St w t r) : Pow t.size := by rw [h.size]; exact pow_sizeOf2 _

/-- The reference's Node at a node that there is. -/
theorem St.rnode {w : World} {t : Tr} {r : Rf} (h : St w t r) (k : Nat) (h1 : 1 ≤ k) (h2 : k < 2 * t.size) :
    Calls Try.prog 15 #[.pointer (some ⟨r.p, 0, none⟩), .int .i64 k] w (RetUpd [] w (.int .i64 (t.N.getD k (-1)))) := by
  have hl := h.len
  have := rnode_in r k w h.ra h1 (by rw [hl, ← h.size]; exact h2)
  rw [hl, ← h.size, scan_is h.good h.pow h.ta.fits h.rel h1 h2] at this
  exact this

theorem twin_none (t : Tr) (w : World) (ht : TourAt w t) (h : t.N.getD 1 (-1) < 0) : Calls Try.prog 17 #[.pointer (some ⟨t.bt, 0, none⟩)] w (RetUpd [] w (.tuple #[.int .i64 0, .agg #[.int .u64 0, .int .i64 0], .bool false])) :=
  (twin_any t w ht).mono fun _ _ hp => by
    rcases hp with ⟨hU, ⟨_, rfl⟩ | ⟨hg, _⟩⟩
    · exact ⟨rfl, hU⟩
    · omega
theorem twin_some (t : Tr) (w : World) (ht : TourAt w t) (v : Int) (hv : t.N.getD 1 (-1) = v) (h : 0 ≤ v) (x : It) (hx : (leafAt t.L v).1 = x) : Calls Try.prog 17 #[.pointer (some ⟨t.bt, 0, none⟩)] w (RetUpd [] w (.tuple #[.int .i64 v, .agg #[.int .u64 x.1, .int .i64 x.2], .bool true])) :=
  (twin_any t w ht).mono fun _ _ hp => by
    subst hv hx
    rcases hp with ⟨hU, ⟨hg, _⟩ | ⟨_, rfl⟩⟩
    · omega
    · exact ⟨rfl, hU⟩

set_option maxHeartbeats 4000000 in
theorem won_any (t : Tr) (r : Rf) (w : World) (h : St w t r) : Calls Try.prog 12 #[.pointer (some ⟨t.bt, 0, none⟩), .pointer (some ⟨r.p, 0, none⟩)] w (RetUpd [] w (.bool true)) := by
  have HS := Lib.hid h
  have h2 : 1 < 2 * t.size := by have := h.ta.one; have := h.ta.fits; omega
  have lp := h.ra.top.lt
  have lx := h.ra.xrow.lt
  obtain ⟨v, hv⟩ : ∃ v, t.N.getD 1 (-1) = v := ⟨_, rfl⟩
  have HV := Lib.hid hv
  have HW := Lib.hid (good_wins h.good h.pow h.ta.fits _ 1 rfl (Nat.le_refl _) h2)
  have c1 := h.ra.top.cell (j := 1) rfl
  clear hv h
  by_cases hn : v < 0
  · have d1 : decide (v < 0) = true := by simp; omega
    have hn1 : Hid (t.N.getD 1 (-1) < 0) := by unfold Hid; rw [HV.out]; exact hn
    go_enter Try.func12, Try.ntmps12
    go_wp2_with (first
      | (go_at_call 17; refine (twin_none t _ HS.out.ta hn1.out).mono ?_; rintro e w1 ⟨rfl, hU1⟩)
      | (go_at_call 15; refine ((HS.out.upd (hU1.alloc _)).rnode 1 (Nat.le_refl _) h2).mono ?_; rintro e w2 ⟨rfl, hU2⟩; rw [HV.out]; have hc2 := hU2.cells))
    go_ret
    exact ⟨rfl, (hU1.alloc _).trans hU2⟩
  · have d1 : decide (v < 0) = false := by simp; omega
    have hw := HW.out
    rw [HV.out] at hw
    obtain ⟨j, hjv, hjL, hjh⟩ : ∃ j : Nat, v = j ∧ j < t.L.length ∧ (t.L.getD j zLeaf).2 = true := by
      rcases hw with ⟨h, _⟩ | ⟨j, h, hj, _, hh, _⟩
      · omega
      · exact ⟨j, h, hj, hh⟩
    subst hjv
    obtain ⟨x, hx⟩ : ∃ x, (leafAt t.L j).1 = x := ⟨_, rfl⟩
    have hxx : xAt r.xs j = x := by
      rw [← hx]; unfold xAt leafAt; rw [Int.toNat_natCast]; exact HS.out.rel.2.2 j hjL hjh
    have hr := item_rows HS.out.ra.xrow (j : Int) (by omega) (by rw [HS.out.len]; omega)
    rw [hxx, Int.toNat_natCast] at hr
    have x0 := hr.1
    have x1 := hr.2
    have hjn : j < r.has.length := by rw [HS.out.len]; exact hjL
    have HX := Lib.hid hx
    clear hw hx hxx hr HW hn
    go_enter Try.func12, Try.ntmps12
    go_wp2_with (first
      | (go_at_call 17; refine (twin_some t _ HS.out.ta j HV.out (by omega) x HX.out).mono ?_; rintro e w1 ⟨rfl, hU1⟩)
      | (go_at_call 15; refine ((HS.out.upd (hU1.alloc _)).rnode 1 (Nat.le_refl _) h2).mono ?_; rintro e w2 ⟨rfl, hU2⟩; rw [HV.out]; have hc2 := hU2.cells))
    have hUU : Upd [] w w2 := (hU1.alloc _).trans hU2
    have k1 : w2.cell? ⟨r.p, 1, none⟩ = some (.slice (some ⟨r.xb, 0, none⟩) r.has.length r.has.length) := by rw [hUU.cell lp (by simp)]; exact c1
    have k2 : w2.cell? ⟨r.xb, j * 2, none⟩ = some (.int .u64 x.1) := by rw [hUU.cell lx (by simp)]; exact x0
    have k3 : w2.cell? ⟨r.xb, j * 2 + 1, none⟩ = some (.int .i64 x.2) := by rw [hUU.cell lx (by simp)]; exact x1
    have k4 : w2.cell? ⟨w1.heap.size, 0, none⟩ = some (.int .u64 x.1) := (hU2.cell (by simp) (by simp) 0).trans (by simp)
    have k5 : w2.cell? ⟨w1.heap.size, 1, none⟩ = some (.int .i64 x.2) := (hU2.cell (by simp) (by simp) 1).trans (by simp)
    have HU := Lib.hid hUU
    clear hU1 hU2 hUU hc2 c1 x0 x1
    go_quiet (fail)
    go_wp2
    go_ret
    exact ⟨rfl, HU.out.drewN _⟩

/-- One step done to both. -/
def StepPost (t : Tr) (r : Rf) (w : World) (e : Ending) (w' : World) : Prop :=
  e = .returned (.bool true) ∧ Upd [t.bl, t.bn, r.hb, r.xb] w w' ∧ ∃ t' r', St w' t' r' ∧ t'.bt = t.bt ∧ t'.bl = t.bl ∧ t'.bn = t.bn ∧ r'.p = r.p ∧ r'.hb = r.hb ∧ r'.xb = r.xb ∧ t'.L.length = t.L.length

theorem has_spot {w : World} {b n : Nat} {l : List Bool} (h : Row w 4 1 b n n (l.map Value.bool)) {i : Nat} (hi : i < n) : w.cell? ⟨b, i, none⟩ = some (.bool (l.getD i false)) := has_row h hi
theorem St.ra_after {w w' : World} {t : Tr} {r : Rf} (h : St w t r) (hU : Upd [t.bl, t.bn] w w') : RTAt w' r := by
  have := h.a2; have := h.a3
  exact h.ra.upd hU (by simp; omega) (by simp; omega) (by simp; omega)
theorem unset_done {w w' : World} {t : Tr} {r : Rf} (h : St w t r) (hU : Upd [t.bl, t.bn] w w') {j : Nat} (hT : TourAt w' { t with L := t.L.set (j : Int).toNat zLeaf, N := playN (t.L.set (j : Int).toNat zLeaf) t.size (j : Int).toNat zLeaf.2 t.N }) (hj : j < t.L.length) :
    StepPost t r w (.returned (.bool true)) (w'.setCell ⟨r.hb, j, none⟩ (.bool false)) := by
  rw [Int.toNat_natCast] at hT
  have hra := h.ra_after hU
  refine ⟨rfl, (hU.mono (by intro i _; simp; omega)).setCell (by simp) _, { t with L := t.L.set j zLeaf, N := playN (t.L.set j zLeaf) t.size j zLeaf.2 t.N }, { r with has := r.has.set j false }, ?_, rfl, rfl, rfl, rfl, rfl, rfl, by simp⟩
  have hu : Upd [r.hb] w' (w'.setCell ⟨r.hb, j, none⟩ (.bool false)) := (Upd.refl _ _).setCell (by simp) _
  refine { ta := hT.upd hu (by simp; exact h.a1.2.1) (by simp; exact h.a2.2.1) (by simp; exact h.a3.2.1), ra := ?_, rel := unset_rel h.rel hj, good := play_good zLeaf h.good h.pow h.ta.fits hj, size := by simp [h.size], a1 := h.a1, a2 := h.a2, a3 := h.a3 }
  refine { top := ?_, hrow := ?_, xrow := ?_, xlen := by simpa using hra.xlen, one := by simpa using hra.one, small := by simpa using hra.small, ph := hra.ph, px := hra.px, hx := hra.hx }
  · simp only [List.length_set]; exact hra.top.upd hu (by simp; exact hra.ph)
  · simp only [List.length_set, List.map_set]; exact hra.hrow.set j _
  · simp only [List.length_set]; exact hra.xrow.upd hu (by simp; exact fun e => hra.hx e.symm)
theorem same_done {w w' : World} {t : Tr} {r : Rf} (h : St w t r) (hU : Upd [] w w') : StepPost t r w (.returned (.bool true)) w' :=
  ⟨rfl, hU.nil, t, r, h.upd hU, rfl, rfl, rfl, rfl, rfl, rfl, rfl⟩

set_option maxHeartbeats 8000000 in
theorem step_unset (t : Tr) (r : Rf) (k key id : Int) (w : World) (h : St w t r) (hk : modI k 4 = 3) : Calls Try.prog 13 #[.pointer (some ⟨t.bt, 0, none⟩), .pointer (some ⟨r.p, 0, none⟩), .agg #[.int .i64 k, .int .u64 key, .int .i64 id]] w (StepPost t r w) := by
  have HS := Lib.hid h
  have lp := h.ra.top.lt
  have lh := h.ra.hrow.lt
  have c0 := h.ra.top.cell (j := 0) rfl
  have hsm := h.ra.small
  have HK := Lib.hid hk
  obtain ⟨n, hn⟩ : ∃ n, r.has.length = n := ⟨_, rfl⟩
  rw [hn] at c0 hsm
  have HN := Lib.hid hn
  obtain ⟨i, hi⟩ : ∃ i, leafI k id n = i := ⟨_, rfl⟩
  have HI := Lib.hid hi
  clear h hk hn hi
  have hg : ((3 : Int) == 3) = true := rfl
  by_cases hin : 0 ≤ i ∧ i < n
  · obtain ⟨j, rfl⟩ := Int.eq_ofNat_of_zero_le hin.1
    have hj : j < n := by omega
    clear hin
    go_enter Try.func13, Try.ntmps13
    go_wp2_with fail
    go_region_held3 (fun w' => Upd [] (w.alloc (.cells #[.int .i64 k, .int .u64 key, .int .i64 id] 37)) w' ∧ ∀ (b o : Nat), b < (w.alloc (.cells #[.int .i64 k, .int .u64 key, .int .i64 id] 37)).heap.size → b ∉ ([] : List Nat) → w'.cell? ⟨b, o, none⟩ = (w.alloc (.cells #[.int .i64 k, .int .u64 key, .int .i64 id] 37)).cell? ⟨b, o, none⟩)
      (first | exact Held.init _ _ | exact Held.step (by assumption) hB) (first | (go_at_call 23; refine (leaf_any _ _ _ n hsm _).mono ?_; rintro e w' ⟨rfl, hB⟩; rw [HI.out]))
    have hU1 : Upd [] w w' := (((Upd.refl _ w).alloc _).drew).trans hB
    have HU1 := Lib.hid hU1
    have hd0 : w'.cell? ⟨w.heap.size, 0, none⟩ = some (.int .i64 k) := (hB.cell (b := w.heap.size) (by simp) (by simp) 0).trans (by simp)
    clear hU1 hB c0
    go_wp2_with (first
      | (go_at_call 21; refine (mod_any _ _ (by omega) (by omega) _).mono ?_; rintro e w2 ⟨rfl, rfl⟩; rw [HK.out])
      | (go_at_call 19; refine (tunset_in t j _ (HS.out.ta.upd HU1.out (by simp) (by simp) (by simp)) (by rw [← HS.out.len, HN.out]; exact hj)).mono ?_; rintro e w2 ⟨rfl, hU2, hT2⟩; have hra := HS.out.ra_after (HU1.out.nil.trans hU2); have HT2 := Lib.hid hT2; have HU2 := Lib.hid (HU1.out.nil.trans hU2); have q0 := hra.top.cell (j := 0) rfl; rw [HN.out] at q0; have qs := has_spot hra.hrow (by rw [HN.out]; exact hj); have qz := hra.hrow.free j; have Hra := Lib.hid hra; clear hU2 hT2 hra)
      | (go_at_call 24; refine (rleaf_in r.p n _ j _ q0 hj).mono ?_; rintro e w3 ⟨rfl, rfl⟩))
    go_ret
    exact unset_done HS.out HU2.out HT2.out (by rw [← HS.out.len, HN.out]; exact hj)
  · have ho : Hid (i < 0 ∨ n ≤ i) := by unfold Hid; omega
    clear hin
    go_enter Try.func13, Try.ntmps13
    go_wp2_with fail
    go_region_held3 (fun w' => Upd [] (w.alloc (.cells #[.int .i64 k, .int .u64 key, .int .i64 id] 37)) w' ∧ ∀ (b o : Nat), b < (w.alloc (.cells #[.int .i64 k, .int .u64 key, .int .i64 id] 37)).heap.size → b ∉ ([] : List Nat) → w'.cell? ⟨b, o, none⟩ = (w.alloc (.cells #[.int .i64 k, .int .u64 key, .int .i64 id] 37)).cell? ⟨b, o, none⟩)
      (first | exact Held.init _ _ | exact Held.step (by assumption) hB) (first | (go_at_call 23; refine (leaf_any _ _ _ n hsm _).mono ?_; rintro e w' ⟨rfl, hB⟩; rw [HI.out]))
    have hU1 : Upd [] w w' := (((Upd.refl _ w).alloc _).drew).trans hB
    have HU1 := Lib.hid hU1
    have hd0 : w'.cell? ⟨w.heap.size, 0, none⟩ = some (.int .i64 k) := (hB.cell (b := w.heap.size) (by simp) (by simp) 0).trans (by simp)
    have c0' : w'.cell? ⟨r.p, 0, none⟩ = some (.slice (some ⟨r.hb, 0, none⟩) n n) := by have := (HS.out.ra.upd hU1 (by simp) (by simp) (by simp)).top.cell (j := 0) rfl; rw [HN.out] at this; exact this
    clear hU1 hB c0
    go_wp2_with (first
      | (go_at_call 21; refine (mod_any _ _ (by omega) (by omega) _).mono ?_; rintro e w2 ⟨rfl, rfl⟩; rw [HK.out])
      | (go_at_call 19; refine (tunset_out t i _ (HS.out.ta.upd HU1.out (by simp) (by simp) (by simp)) (by rw [← HS.out.len, HN.out]; exact ho.out)).mono ?_; rintro e w2 ⟨rfl, hU2⟩; have HU2 := Lib.hid (HU1.out.trans hU2); have q0 := (HS.out.ra.upd HU2.out (by simp) (by simp) (by simp)).top.cell (j := 0) rfl; rw [HN.out] at q0; clear hU2)
      | (go_at_call 24; refine (rleaf_out r.p n _ i _ q0 ho.out).mono ?_; rintro e w3 ⟨rfl, rfl⟩))
    go_ret
    exact same_done HS.out HU2.out

def ItemVar (w' : World) (a b : Int) (s : Value) (wx : World) : Prop :=
  ∃ g : Nat, s = .pointer (some ⟨g, 0, none⟩) ∧ w'.heap.size ≤ g ∧ g < wx.heap.size ∧ wx.cell? ⟨g, 0, none⟩ = some (.int .u64 a) ∧ wx.cell? ⟨g, 1, none⟩ = some (.int .i64 b) ∧ Upd [] w' wx

theorem two_set {w w0 : World} {g : Nat} {x y : Value} (h0 : w.cell? ⟨g, 0, none⟩ = w0.cell? ⟨g, 0, none⟩) (h1 : w.cell? ⟨g, 1, none⟩ = w0.cell? ⟨g, 1, none⟩) (k0 : w0.cell? ⟨g, 0, none⟩ = some x) (k1 : w0.cell? ⟨g, 1, none⟩ = some y) (a b : Value) :
    ((w.setCell ⟨g, 0, none⟩ a).setCell ⟨g, 1, none⟩ b).cell? ⟨g, 0, none⟩ = some a ∧ ((w.setCell ⟨g, 0, none⟩ a).setCell ⟨g, 1, none⟩ b).cell? ⟨g, 1, none⟩ = some b := by
  have e0 : (w.setCell ⟨g, 0, none⟩ a).cell? ⟨g, 0, none⟩ = some a := World.cell?_setCell_same _ _ _ (h0.trans k0)
  have e1 : (w.setCell ⟨g, 0, none⟩ a).cell? ⟨g, 1, none⟩ = some y := by rw [World.cell?_setCell_other _ _ _ _ (by simp)]; exact h1.trans k1
  exact ⟨by rw [World.cell?_setCell_other _ _ _ _ (by simp)]; exact e0, World.cell?_setCell_same _ _ _ e1⟩

theorem item_set (xs : List It) (i : Nat) (hi : i < xs.length) (x : It) : ((xs.flatMap itVs).set (i * 2) (.int .u64 x.1)).set (i * 2 + 1) (.int .i64 x.2) = (xs.set i x).flatMap itVs := by
  have h0 := flat_set itVs 2 itVs_len xs i xs[i] (x.1, xs[i].2) (List.getElem?_eq_getElem hi) 0 (.int .u64 x.1) (by omega) rfl
  rw [Nat.add_zero] at h0
  rw [h0, flat_set itVs 2 itVs_len _ i (x.1, xs[i].2) x (by simp [hi]) 1 (.int .i64 x.2) (by omega) rfl]
  simp

theorem set_done {w w' : World} {t : Tr} {r : Rf} (h : St w t r) (hU : Upd [t.bl, t.bn] w w') {j : Nat} {sk m3 : Int} (hT : TourAt w' { t with L := t.L.set (j : Int).toNat ((sk, m3), true), N := playN (t.L.set (j : Int).toNat ((sk, m3), true)) t.size (j : Int).toNat true t.N }) (hj : j < t.L.length) :
    StepPost t r w (.returned (.bool true)) ((((w'.setCell ⟨r.hb, j, none⟩ (.bool true)).setCell ⟨r.xb, j * 2, none⟩ (.int .u64 sk)).setCell ⟨r.xb, j * 2 + 1, none⟩ (.int .i64 m3)).drew) := by
  rw [Int.toNat_natCast] at hT
  have hra := h.ra_after hU
  have hhx := hra.hx
  have hjx : j < r.xs.length := by rw [hra.xlen, h.len]; exact hj
  refine ⟨rfl, ((((hU.mono (by intro i _; simp; omega)).setCell (by simp) _).setCell (by simp) _).setCell (by simp) _).drew, { t with L := t.L.set j ((sk, m3), true), N := playN (t.L.set j ((sk, m3), true)) t.size j true t.N }, { r with has := r.has.set j true, xs := r.xs.set j (sk, m3) }, ?_, rfl, rfl, rfl, rfl, rfl, rfl, by simp⟩
  have hu : Upd [r.hb, r.xb] w' ((((w'.setCell ⟨r.hb, j, none⟩ (.bool true)).setCell ⟨r.xb, j * 2, none⟩ (.int .u64 sk)).setCell ⟨r.xb, j * 2 + 1, none⟩ (.int .i64 m3)).drew) :=
    ((((Upd.refl _ _).setCell (by simp) _).setCell (by simp) _).setCell (by simp) _).drew
  refine { ta := hT.upd hu (by simp; exact h.a1.2) (by simp; exact h.a2.2) (by simp; exact h.a3.2), ra := ?_, rel := set_rel h.rel hra.xlen hj (sk, m3), good := play_good ((sk, m3), true) h.good h.pow h.ta.fits hj, size := by simp [h.size], a1 := h.a1, a2 := h.a2, a3 := h.a3 }
  refine { top := ?_, hrow := ?_, xrow := ?_, xlen := by simpa using hra.xlen, one := by simpa using hra.one, small := by simpa using hra.small, ph := hra.ph, px := hra.px, hx := hra.hx }
  · simp only [List.length_set]; exact hra.top.upd hu (by simp; exact ⟨hra.ph, hra.px⟩)
  · simp only [List.length_set, List.map_set]
    exact (((hra.hrow.set j (.bool true)).setFar (a := ⟨r.xb, j * 2, none⟩) (fun e => hhx e.symm) _).setFar (a := ⟨r.xb, j * 2 + 1, none⟩) (fun e => hhx e.symm) _).drew
  · simp only [List.length_set]
    rw [← item_set r.xs j hjx (sk, m3)]
    exact (((hra.xrow.setFar (a := ⟨r.hb, j, none⟩) (fun e => hhx e) (.bool true)).set (j * 2) (.int .u64 sk)).set (j * 2 + 1) (.int .i64 m3)).drew

theorem Held.far {S : List Nat} {W w : World} (h : Upd S W w ∧ ∀ b o, b < W.heap.size → b ∉ S → w.cell? ⟨b, o, none⟩ = W.cell? ⟨b, o, none⟩) {p : Addr} (hp : W.heap.size ≤ p.block) (u : Value) :
    Upd S W (w.setCell p u) ∧ ∀ b o, b < W.heap.size → b ∉ S → (w.setCell p u).cell? ⟨b, o, none⟩ = W.cell? ⟨b, o, none⟩ := ⟨h.1.setCell (.inr hp) u, (h.1.setCell (.inr hp) u).cells⟩
theorem Held.new {S : List Nat} {W w : World} (h : Upd S W w ∧ ∀ b o, b < W.heap.size → b ∉ S → w.cell? ⟨b, o, none⟩ = W.cell? ⟨b, o, none⟩) (x : Obj) :
    Upd S W (w.alloc x) ∧ ∀ b o, b < W.heap.size → b ∉ S → (w.alloc x).cell? ⟨b, o, none⟩ = W.cell? ⟨b, o, none⟩ := ⟨h.1.alloc x, (h.1.alloc x).cells⟩

set_option maxHeartbeats 16000000 in
theorem step_set (t : Tr) (r : Rf) (k key id : Int) (h0 : 0 ≤ key) (w : World) (h : St w t r) (hk : modI k 4 ≠ 3) : Calls Try.prog 13 #[.pointer (some ⟨t.bt, 0, none⟩), .pointer (some ⟨r.p, 0, none⟩), .agg #[.int .i64 k, .int .u64 key, .int .i64 id]] w (StepPost t r w) := by
  have HS := Lib.hid h
  have lp := h.ra.top.lt
  have lh := h.ra.hrow.lt
  have c0 := h.ra.top.cell (j := 0) rfl
  have hsm := h.ra.small
  obtain ⟨m4, hm4⟩ : ∃ m, modI k 4 = m := ⟨_, rfl⟩
  have hg : (m4 == 3) = false := by rw [← hm4]; simpa using hk
  have HK := Lib.hid hm4
  obtain ⟨n, hn⟩ : ∃ n, r.has.length = n := ⟨_, rfl⟩
  rw [hn] at c0 hsm
  have HN := Lib.hid hn
  obtain ⟨i, hi⟩ : ∃ i, leafI k id n = i := ⟨_, rfl⟩
  have HI := Lib.hid hi
  obtain ⟨sk, hsk⟩ : ∃ x, smallK key = x := ⟨_, rfl⟩
  have HSK := Lib.hid hsk
  obtain ⟨m3, hm3⟩ : ∃ x, modI k 3 = x := ⟨_, rfl⟩
  have HM3 := Lib.hid hm3
  clear h hk hn hi hm4 hsk hm3
  go_enter Try.func13, Try.ntmps13
  go_wp2_with fail
  go_region_held3 (fun w' => Upd [] (w.alloc (.cells #[.int .i64 k, .int .u64 key, .int .i64 id] 37)) w' ∧ ∀ (b o : Nat), b < (w.alloc (.cells #[.int .i64 k, .int .u64 key, .int .i64 id] 37)).heap.size → b ∉ ([] : List Nat) → w'.cell? ⟨b, o, none⟩ = (w.alloc (.cells #[.int .i64 k, .int .u64 key, .int .i64 id] 37)).cell? ⟨b, o, none⟩)
    (first | exact Held.init _ _ | exact Held.step (by assumption) hB) (first | (go_at_call 23; refine (leaf_any _ _ _ n hsm _).mono ?_; rintro e w' ⟨rfl, hB⟩; rw [HI.out]))
  have hU1 : Upd [] w w' := (((Upd.refl _ w).alloc _).drew).trans hB
  have HU1 := Lib.hid hU1
  have hd0 : w'.cell? ⟨w.heap.size, 0, none⟩ = some (.int .i64 k) := (hB.cell (b := w.heap.size) (by simp) (by simp) 0).trans (by simp)
  have hd1 : w'.cell? ⟨w.heap.size, 1, none⟩ = some (.int .u64 key) := (hB.cell (b := w.heap.size) (by simp) (by simp) 1).trans (by simp)
  have hd2 : w'.cell? ⟨w.heap.size, 2, none⟩ = some (.int .i64 id) := (hB.cell (b := w.heap.size) (by simp) (by simp) 2).trans (by simp)
  have ldw : w.heap.size < w'.heap.size := by have := hB.size; simp at this; omega
  clear hU1 hB c0
  go_upto_region 8 with (first
    | (go_at_call 21; refine (mod_any _ _ (by omega) (by omega) _).mono ?_; rintro e w2 ⟨rfl, rfl⟩; rw [HK.out]))
  go_cut [8] (fun s8 wx => ItemVar w' sk m3 s8 wx)
  case first =>
    go_region_held3 (fun w2 => Upd [] w' w2 ∧ ∀ (b o : Nat), b < w'.heap.size → b ∉ ([] : List Nat) → w2.cell? ⟨b, o, none⟩ = w'.cell? ⟨b, o, none⟩)
      (first | exact Held.init _ _ | assumption | exact Held.step (by assumption) hB | exact Held.new (by assumption) _ | exact Held.new (Held.init [] w') _ | exact Held.new (Held.step (Held.init [] w') hB) _ | exact Held.far (Held.far (by assumption) (by first | omega | simp | (simp; omega)) _) (by first | omega | simp | (simp; omega)) _)
      (first | (go_at_call 25; refine (small_any _ _ _ h0 _).mono ?_; rintro e w3 ⟨rfl, hB⟩; rw [HSK.out]; have hcs := hB.cells; have hfs := hB.frozens) | (go_at_call 21; refine (mod_any _ _ (by omega) (by omega) _).mono ?_; rintro e w3 ⟨rfl, rfl⟩; rw [HM3.out]))
    all_goals
      have hsz := hB.size
      go_wp2_with fail
      go_meet
      refine ⟨_, rfl, ?_, ?_, ?_, ?_, ‹Upd [] w' _ ∧ _›.1⟩
      · simp at hsz ⊢; try omega
      · simp at hsz ⊢; try omega
      · first | (simp; done) | exact (two_set (x := .int .u64 0) (y := .int .i64 0) (hcs _ 0 (by simp) (by simp)) (hcs _ 1 (by simp) (by simp)) (by simp) (by simp) _ _).1
      · first | (simp; done) | exact (two_set (x := .int .u64 0) (y := .int .i64 0) (hcs _ 0 (by simp) (by simp)) (hcs _ 1 (by simp) (by simp)) (by simp) (by simp) _ _).2
  case rest =>
    obtain ⟨g, rfl, hg1, hg2, hx0, hx1, hU4⟩ := hcut
    have HU4 := Lib.hid (HU1.out.trans hU4)
    have hgl : g ≠ t.bl ∧ g ≠ t.bn ∧ g ≠ r.hb ∧ g ≠ r.xb := by
      have := HS.out.ta.leaves.lt; have := HS.out.ta.nodes.lt; have := HS.out.ra.hrow.lt; have := HS.out.ra.xrow.lt; have := HU1.out.size
      omega
    have ng1 := hgl.1
    have ng2 := hgl.2.1
    have ng3 := hgl.2.2.1
    have ng4 := hgl.2.2.2
    clear hU4 hgl hd0 hd1 hd2
    by_cases hin : 0 ≤ i ∧ i < n
    · obtain ⟨j, rfl⟩ := Int.eq_ofNat_of_zero_le hin.1
      have hj : j < n := by omega
      clear hin
      go_wp2_with (first
        | (go_at_call 18; refine (tset_in t j (sk, m3) _ (HS.out.ta.upd HU4.out (by simp) (by simp) (by simp)) (by rw [← HS.out.len, HN.out]; exact hj)).mono ?_; rintro e w5 ⟨rfl, hU5, hT5⟩; have hra := HS.out.ra_after (HU4.out.nil.trans hU5); have HT5 := Lib.hid hT5; have HU5 := Lib.hid (HU4.out.nil.trans hU5); have q0 := hra.top.cell (j := 0) rfl; have q1 := hra.top.cell (j := 1) rfl; rw [HN.out] at q0 q1; have qs := has_spot hra.hrow (by rw [HN.out]; exact hj); have qz := hra.hrow.free j; obtain ⟨v0, qx0⟩ := hra.xrow.spot (j := j * 2) (by rw [HN.out]; omega); obtain ⟨v1, qx1⟩ := hra.xrow.spot (j := j * 2 + 1) (by rw [HN.out]; omega); have z0 := hra.xrow.free (j * 2); have z1 := hra.xrow.free (j * 2 + 1); have nhx := hra.hx; have y0 := (hU5.cell hg2 (by simp [ng1, ng2]) 0).trans hx0; have y1 := (hU5.cell hg2 (by simp [ng1, ng2]) 1).trans hx1; clear hU5 hT5 hra)
        | (go_at_call 24; refine (rleaf_in r.p n _ j _ q0 hj).mono ?_; rintro e w3 ⟨rfl, rfl⟩))
      go_region
      go_wp2
      go_ret
      exact set_done HS.out HU5.out HT5.out (by rw [← HS.out.len, HN.out]; exact hj)
    · have ho : Hid (i < 0 ∨ n ≤ i) := by unfold Hid; omega
      clear hin
      go_wp2_with (first
        | (go_at_call 18; refine (tset_out t i (sk, m3) _ (HS.out.ta.upd HU4.out (by simp) (by simp) (by simp)) (by rw [← HS.out.len, HN.out]; exact ho.out)).mono ?_; rintro e w5 ⟨rfl, hU5⟩; have HU5 := Lib.hid (HU4.out.trans hU5); have q0 := (HS.out.ra.upd HU5.out (by simp) (by simp) (by simp)).top.cell (j := 0) rfl; rw [HN.out] at q0; clear hU5)
        | (go_at_call 24; refine (rleaf_out r.p n _ i _ q0 ho.out).mono ?_; rintro e w3 ⟨rfl, rfl⟩))
      go_ret
      exact same_done HS.out HU5.out

/-- One deed done to both. -/
theorem step_any (t : Tr) (r : Rf) (k key id : Int) (h0 : 0 ≤ key) (w : World) (h : St w t r) : Calls Try.prog 13 #[.pointer (some ⟨t.bt, 0, none⟩), .pointer (some ⟨r.p, 0, none⟩), .agg #[.int .i64 k, .int .u64 key, .int .i64 id]] w (StepPost t r w) := by
  by_cases hk : modI k 4 = 3
  · exact step_unset t r k key id w h hk
  · exact step_set t r k key id h0 w h hk

def MadePost (w : World) (e : Ending) (w' : World) : Prop :=
  ∃ t r, e = .returned (.tuple #[.pointer (some ⟨t.bt, 0, none⟩), .pointer (some ⟨r.p, 0, none⟩)]) ∧ St w' t r ∧ Upd [] w w' ∧ w.heap.size ≤ t.bt ∧ w.heap.size ≤ t.bl ∧ w.heap.size ≤ t.bn ∧ w.heap.size ≤ r.p ∧ w.heap.size ≤ r.hb ∧ w.heap.size ≤ r.xb

theorem made_done {n : Int} {w w1 w2 : World} {bt bl bn cap p hb xb : Nat} (hT : TourAt w1 (newTr bt bl bn cap (leavesOf n))) (hU1 : Upd [] w w1) (a : w.heap.size ≤ bt ∧ w.heap.size ≤ bl ∧ w.heap.size ≤ bn)
    (hR : RTAt w2 (newRf p hb xb (leavesOf n))) (hU2 : Upd [] w1 w2) (b : w1.heap.size ≤ p ∧ w1.heap.size ≤ hb ∧ w1.heap.size ≤ xb) :
    MadePost w (.returned (.tuple #[.pointer (some ⟨bt, 0, none⟩), .pointer (some ⟨p, 0, none⟩)])) w2 := by
  have h1 := hT.top.lt
  have h2 := hT.leaves.lt
  have h3 := hT.nodes.lt
  have h4 := hU1.size
  have h5 := leavesOf_bd n
  simp only [newTr] at h1 h2 h3
  refine ⟨newTr bt bl bn cap (leavesOf n), newRf p hb xb (leavesOf n), rfl, ?_, hU1.trans hU2, a.1, a.2.1, a.2.2, by simp only [newRf]; omega, by simp only [newRf]; omega, by simp only [newRf]; omega⟩
  exact { ta := hT.upd hU2 (by simp) (by simp) (by simp), ra := hR, rel := new_rel _, good := new_good _ h5.1 h5.2, size := by simp [newTr], a1 := by simp only [newTr, newRf]; omega, a2 := by simp only [newTr, newRf]; omega, a3 := by simp only [newTr, newRf]; omega }

set_option maxHeartbeats 4000000 in
theorem made_any (n : Int) (w : World) : Calls Try.prog 9 #[.int .i64 n] w (MadePost w) := by
  have hq := modI_bd n 5 (by omega) (by omega)
  obtain ⟨q, hqq⟩ : ∃ q, modI n 5 = q := ⟨_, rfl⟩
  rw [hqq] at hq
  have HQ := Lib.hid hqq
  have q0 := hq.1
  clear hqq hq
  by_cases h : 0 < q
  · go_enter Try.func9, Try.ntmps9
    go_wp2_with (first
      | (go_at_call_of 21 (Value.int .i64 5); refine (mod_any _ _ (by omega) (by omega) _).mono ?_; rintro e w2 ⟨rfl, rfl⟩; rw [HQ.out])
      | (go_at_call_of 21 (Value.int .i64 19); refine (mod_any _ _ (by omega) (by omega) _).mono ?_; rintro e w2 ⟨rfl, rfl⟩)
      | (go_at_call 20; refine (tnew_any _ _).mono ?_; rintro e w3 ⟨bt, bl, bn, cap, rfl, hT, hU1, a1, a2, a3⟩; have HT := Lib.hid hT; have HU1 := Lib.hid hU1; clear hT hU1)
      | (go_at_call 22; refine (rtnew_any _ _).mono ?_; rintro e w4 ⟨p, hb, xb, rfl, hR, hU2, b1, b2, b3⟩; have HR := Lib.hid hR; have HU2 := Lib.hid hU2; clear hR hU2))
    go_ret2
    exact made_done HT.out HU1.out ⟨a1, a2, a3⟩ HR.out HU2.out ⟨b1, b2, b3⟩
  · go_enter Try.func9, Try.ntmps9
    go_wp2_with (first
      | (go_at_call_of 21 (Value.int .i64 5); refine (mod_any _ _ (by omega) (by omega) _).mono ?_; rintro e w2 ⟨rfl, rfl⟩; rw [HQ.out])
      | (go_at_call 20; refine (tnew_any _ _).mono ?_; rintro e w3 ⟨bt, bl, bn, cap, rfl, hT, hU1, a1, a2, a3⟩; have HT := Lib.hid hT; have HU1 := Lib.hid hU1; clear hT hU1)
      | (go_at_call 22; refine (rtnew_any _ _).mono ?_; rintro e w4 ⟨p, hb, xb, rfl, hR, hU2, b1, b2, b3⟩; have HR := Lib.hid hR; have HU2 := Lib.hid hU2; clear hR hU2))
    go_ret2
    exact made_done HT.out HU1.out ⟨a1, a2, a3⟩ HR.out HU2.out ⟨b1, b2, b3⟩
end Go.Proofs.Ytoalbmcceehccaa
