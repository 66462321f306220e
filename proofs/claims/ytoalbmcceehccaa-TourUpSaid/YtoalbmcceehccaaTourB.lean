/-
  The walk of the tour's play. No condition.
-/
import Derived.Test.YtoalbmcceehccaaTourA
namespace Go.Proofs.Ytoalbmcceehccaa
open Go.RowKit

structure Tr where
  bt : Nat
  bl : Nat
  bn : Nat
  cap : Nat
  size : Nat
  L : List Leaf
  N : List Int

/-- A tour in memory. -/
structure TourAt (w : World) (t : Tr) : Prop where
  top : Blk w t.bt 57 [.slice (some ⟨t.bl, 0, none⟩) t.L.length t.L.length, .int .i64 t.size, .slice (some ⟨t.bn, 0, none⟩) (2 * t.size) t.cap]
  leaves : Row w 61 3 t.bl t.L.length t.L.length (t.L.flatMap leafVs)
  nodes : Row w 3 1 t.bn (2 * t.size) t.cap (t.N.map (Value.int .i64))
  tl : t.bt ≠ t.bl
  tn : t.bt ≠ t.bn
  ln : t.bl ≠ t.bn
  nlen : t.N.length = 2 * t.size
  one : 1 ≤ t.L.length
  fits : t.L.length ≤ t.size
  small : t.size ≤ 16
  inr : InR t.L.length t.N

theorem TourAt.upd {S : List Nat} {w w' : World} {t : Tr} (h : TourAt w t) (hu : Upd S w w') (h1 : t.bt ∉ S) (h2 : t.bl ∉ S) (h3 : t.bn ∉ S) : TourAt w' t :=
  { h with top := h.top.upd hu h1, leaves := h.leaves.upd hu h2, nodes := h.nodes.upd hu h3 }

def PlayOut (w : World) (e : Ending) (w' : World) : Prop := e = .returned (.bool false) ∧ Upd [] w w'

set_option maxHeartbeats 800000 in
theorem play_out (t : Tr) (i : Int) (f : Leaf) (w : World) (ht : TourAt w t) (hi : i < 0 ∨ t.L.length ≤ i) :
    Calls Try.prog 26 #[.pointer (some ⟨t.bt, 0, none⟩), .int .i64 i, .agg #[.int .u64 f.1.1, .int .i64 f.1.2, .bool f.2]] w (PlayOut w) := by
  have hc0 := ht.top.cell (j := 0) rfl
  have lt := ht.top.lt
  have small := ht.small
  have fits := ht.fits
  generalize t.L.length = n at *
  clear ht
  by_cases h0 : i < 0
  · have h1 : decide (i < 0) = true := by simp; omega
    go_enter Try.func26, Try.ntmps26
    go_wp2
    go_ret
    exact ⟨rfl, (Upd.refl [] w).alloc _⟩
  · have h1 : decide (i < 0) = false := by simp; omega
    have h2 : decide ((n : Int) ≤ i) = true := by simp; omega
    go_enter Try.func26, Try.ntmps26
    go_wp2
    go_ret
    exact ⟨rfl, (Upd.refl [] w).alloc _⟩

theorem leaf_set (L : List Leaf) (i : Nat) (hi : i < L.length) (k d : Int) (b : Bool) :
    (((L.flatMap leafVs).set (i * 3) (.int .u64 k)).set (i * 3 + 1) (.int .i64 d)).set (i * 3 + 2) (.bool b) = (L.set i ((k, d), b)).flatMap leafVs := by
  have h0 := flat_set leafVs 3 leafVs_len L i L[i] ((k, L[i].1.2), L[i].2) (List.getElem?_eq_getElem hi) 0 (.int .u64 k) (by omega) rfl
  rw [Nat.add_zero] at h0
  rw [h0]
  rw [flat_set leafVs 3 leafVs_len _ i ((k, L[i].1.2), L[i].2) ((k, d), L[i].2) (by simp [hi]) 1 (.int .i64 d) (by omega) rfl]
  rw [flat_set leafVs 3 leafVs_len _ i ((k, d), L[i].2) ((k, d), b) (by simp [hi]) 2 (.bool b) (by omega) rfl]
  simp

/-- Behind the stores, ahead of the climb. -/
theorem play_mid {t : Tr} {w : World} (ht : TourAt w t) {i : Nat} (hi : i < t.L.length) (k d : Int) (b : Bool) (u : Int) (o : Obj) {W : World}
    (hW : W = (((((w.setCell ⟨t.bl, i * 3, none⟩ (.int .u64 k)).setCell ⟨t.bl, i * 3 + 1, none⟩ (.int .i64 d)).setCell ⟨t.bl, i * 3 + 2, none⟩ (.bool b)).setCell ⟨t.bn, t.size + i, none⟩ (.int .i64 u)).alloc o).drew) :
    Upd [t.bl, t.bn] w W ∧ Row W 61 3 t.bl t.L.length t.L.length ((t.L.set i ((k, d), b)).flatMap leafVs) ∧ Row W 3 1 t.bn (2 * t.size) t.cap ((t.N.set (t.size + i) u).map (Value.int .i64)) := by
  subst hW
  refine ⟨?_, ?_, ?_⟩
  · exact ((((((Upd.refl _ w).setCell (by simp) _).setCell (by simp) _).setCell (by simp) _).setCell (by simp) _).alloc _).drew
  · have h := (((ht.leaves.set (i * 3) (.int .u64 k)).set (i * 3 + 1) (.int .i64 d)).set (i * 3 + 2) (.bool b))
    rw [leaf_set t.L i hi] at h
    exact (((h.setFar (a := ⟨t.bn, t.size + i, none⟩) (fun e => ht.ln e.symm) _).alloc o).drew)
  · have h := ((((ht.nodes.setFar (a := ⟨t.bl, i * 3, none⟩) (fun e => ht.ln e) (.int .u64 k)).setFar (a := ⟨t.bl, i * 3 + 1, none⟩) (fun e => ht.ln e) (.int .i64 d)).setFar (a := ⟨t.bl, i * 3 + 2, none⟩) (fun e => ht.ln e) (.bool b)).set (t.size + i) (.int .i64 u))
    rw [← List.map_set] at h
    exact (h.alloc o).drew


theorem play_mid2 {t : Tr} {w : World} (ht : TourAt w t) {i : Nat} (hi : i < t.L.length) (k d : Int) (b : Bool) (u0 u : Int) (o : Obj) {W : World}
    (hW : W = ((((((w.setCell ⟨t.bl, i * 3, none⟩ (.int .u64 k)).setCell ⟨t.bl, i * 3 + 1, none⟩ (.int .i64 d)).setCell ⟨t.bl, i * 3 + 2, none⟩ (.bool b)).setCell ⟨t.bn, t.size + i, none⟩ (.int .i64 u0)).setCell ⟨t.bn, t.size + i, none⟩ (.int .i64 u)).alloc o).drew) :
    Upd [t.bl, t.bn] w W ∧ Row W 61 3 t.bl t.L.length t.L.length ((t.L.set i ((k, d), b)).flatMap leafVs) ∧ Row W 3 1 t.bn (2 * t.size) t.cap ((t.N.set (t.size + i) u).map (Value.int .i64)) := by
  subst hW
  refine ⟨?_, ?_, ?_⟩
  · exact (((((((Upd.refl _ w).setCell (by simp) _).setCell (by simp) _).setCell (by simp) _).setCell (by simp) _).setCell (by simp) _).alloc _).drew
  · have h := (((ht.leaves.set (i * 3) (.int .u64 k)).set (i * 3 + 1) (.int .i64 d)).set (i * 3 + 2) (.bool b))
    rw [leaf_set t.L i hi] at h
    exact ((((h.setFar (a := ⟨t.bn, t.size + i, none⟩) (fun e => ht.ln e.symm) _).setFar (a := ⟨t.bn, t.size + i, none⟩) (fun e => ht.ln e.symm) _).alloc o).drew)
  · have h := ((((ht.nodes.setFar (a := ⟨t.bl, i * 3, none⟩) (fun e => ht.ln e) (.int .u64 k)).setFar (a := ⟨t.bl, i * 3 + 1, none⟩) (fun e => ht.ln e) (.int .i64 d)).setFar (a := ⟨t.bl, i * 3 + 2, none⟩) (fun e => ht.ln e) (.bool b)).set (t.size + i) (.int .i64 u0)).set (t.size + i) (.int .i64 u)
    rw [List.set_set, ← List.map_set] at h
    exact (h.alloc o).drew

def ClimbAt (t : Tr) (L : List Leaf) (fin : List Int) (w : World) (kv : Value) (wr : World) : Prop :=
  ∃ (k : Nat) (N : List Int), kv = .int .i64 k ∧ k < t.size ∧ N.length = 2 * t.size ∧ InR L.length N ∧ L.length = t.L.length ∧ Upd [t.bl, t.bn] w wr ∧
    Row wr 61 3 t.bl t.L.length t.L.length (L.flatMap leafVs) ∧ Row wr 3 1 t.bn (2 * t.size) t.cap (N.map (Value.int .i64)) ∧ climb L t.size k N = fin

theorem node_cell {w : World} {bn n cap : Nat} {N : List Int} (h : Row w 3 1 bn n cap (N.map (Value.int .i64))) {j : Nat} (hj : j < n) : w.cell? ⟨bn, j, none⟩ = some (.int .i64 (N.getD j (-1))) := by
  have hl : N.length = n := by have := h.len; simpa using this
  refine h.cell ?_
  rw [List.getElem?_map, List.getD_eq_getElem?_getD, List.getElem?_eq_getElem (by omega)]; rfl

theorem climb_held1 {wr w' : World} {bn k : Nat} {va vb : Value} (lnW : bn < wr.heap.size) (n0 : wr.cell? ⟨bn, 2 * k, none⟩ = some va) (n1 : wr.cell? ⟨bn, 2 * k + 1, none⟩ = some vb) (hB : Upd [] wr.drew w') :
    (∀ (b o : Nat), b < wr.heap.size → b ≠ bn → w'.cell? ⟨b, o, none⟩ = wr.cell? ⟨b, o, none⟩) ∧ w'.cell? ⟨bn, 2 * k, none⟩ = some va ∧ w'.cell? ⟨bn, 2 * k + 1, none⟩ = some vb :=
  ⟨fun b o hb _ => hB.cell (w := wr.drew) hb (by simp) o, (hB.cell (w := wr.drew) lnW (by simp) _).trans n0, (hB.cell (w := wr.drew) lnW (by simp) _).trans n1⟩

theorem climb_held2 {wr w' : World} {bn k : Nat} {va vb u : Value} (lnW : bn < wr.heap.size) (n0 : wr.cell? ⟨bn, 2 * k, none⟩ = some va) (n1 : wr.cell? ⟨bn, 2 * k + 1, none⟩ = some vb) (hB : Upd [] wr.drew w') (hk : 0 < k) :
    (∀ (b o : Nat), b < wr.heap.size → b ≠ bn → (w'.setCell ⟨bn, k, none⟩ u).cell? ⟨b, o, none⟩ = wr.cell? ⟨b, o, none⟩) ∧ (w'.setCell ⟨bn, k, none⟩ u).cell? ⟨bn, 2 * k, none⟩ = some va ∧ (w'.setCell ⟨bn, k, none⟩ u).cell? ⟨bn, 2 * k + 1, none⟩ = some vb := by
  obtain ⟨h1, h2, h3⟩ := climb_held1 lnW n0 n1 hB
  refine ⟨fun b o hb hn => ?_, ?_, ?_⟩
  · rw [World.cell?_setCell_other _ _ _ _ (fun e => hn (by have := congrArg Addr.block e; exact this.symm))]; exact h1 b o hb hn
  · rw [World.cell?_setCell_other _ _ _ _ (fun e => by have := congrArg Addr.off e; simp at this; omega)]; exact h2
  · rw [World.cell?_setCell_other _ _ _ _ (fun e => by have := congrArg Addr.off e; simp at this; omega)]; exact h3

theorem ClimbAt.start {t : Tr} {w : World} (ht : TourAt w t) {i : Nat} (hi : i < t.L.length) {k d : Int} {b : Bool} {u : Int} {W : World}
    (hU : Upd [t.bl, t.bn] w W) (hl : Row W 61 3 t.bl t.L.length t.L.length ((t.L.set i ((k, d), b)).flatMap leafVs)) (hn : Row W 3 1 t.bn (2 * t.size) t.cap ((t.N.set (t.size + i) u).map (Value.int .i64)))
    {L' : List Leaf} {fin : List Int} (hL : L' = t.L.set i ((k, d), b)) (hF : fin = playN L' t.size i b t.N) (hu : u = if b then (i : Int) else -1) :
    ClimbAt t L' fin w (.int .i64 (((t.size : Int) + i) / 2)) W := by
  have := ht.fits
  subst hL hu
  refine ⟨(t.size + i) / 2, t.N.set (t.size + i) (if b then (i : Int) else -1), ?_, by omega, by simp [ht.nlen], ?_, by simp, hU, hl, hn, ?_⟩
  · congr 1
  · simp only [List.length_set]
    refine ht.inr.set _ _ ?_ ?_ <;> split <;> omega
  · rw [hF, playN]
    exact climb_fuel _ _ _ _ _ (by omega) (by omega)

def PlayIn (t : Tr) (i : Int) (f : Leaf) (w : World) (e : Ending) (w' : World) : Prop :=
  e = .returned (.bool true) ∧ Upd [t.bl, t.bn] w w' ∧ TourAt w' { t with L := t.L.set i.toNat f, N := playN (t.L.set i.toNat f) t.size i.toNat f.2 t.N }

theorem climb_done {t : Tr} {w wr : World} (ht : TourAt w t) {i : Nat} {k d : Int} {b : Bool} {L' : List Leaf} {fin N1 : List Int} (hU : Upd [t.bl, t.bn] w wr)
    (hR : Row wr 61 3 t.bl t.L.length t.L.length (L'.flatMap leafVs)) (hN : Row wr 3 1 t.bn (2 * t.size) t.cap (N1.map (Value.int .i64))) (hI : InR L'.length N1) (hF : climb L' t.size 0 N1 = fin)
    (hl : L'.length = t.L.length) (hL : L' = t.L.set i ((k, d), b)) (hf : fin = playN L' t.size i b t.N) : PlayIn t i ((k, d), b) w (.returned (.bool true)) wr := by
  rw [climb_zero] at hF
  subst hF
  refine ⟨rfl, hU, ?_⟩
  rw [Int.toNat_natCast]
  dsimp only
  rw [← hL, ← hf]
  have hlen : N1.length = 2 * t.size := by have := hN.len; simpa using this
  exact { top := by dsimp only; rw [hl]; exact ht.top.upd hU (by simp [ht.tl, ht.tn]), leaves := by dsimp only; rw [hl]; exact hR, nodes := hN, tl := ht.tl, tn := ht.tn, ln := ht.ln, nlen := hlen, one := by dsimp only; rw [hl]; exact ht.one, fits := by dsimp only; rw [hl]; exact ht.fits, small := ht.small, inr := hI }

theorem climb_round {t : Tr} {w wr w' : World} {L' : List Leaf} {fin N1 : List Int} {k : Nat} {va vb : Int} (hlb : t.bl ≠ t.bn) (hU : Upd [t.bl, t.bn] w wr)
    (hR : Row wr 61 3 t.bl t.L.length t.L.length (L'.flatMap leafVs)) (hN : Row wr 3 1 t.bn (2 * t.size) t.cap (N1.map (Value.int .i64))) (hI : InR L'.length N1) (hF : climb L' t.size k N1 = fin)
    (hl : L'.length = t.L.length) (hk : k < t.size) (hk1 : 0 < k) (_small : t.size ≤ 16) (ha : N1.getD (2 * k) (-1) = va) (hb : N1.getD (2 * k + 1) (-1) = vb) (hB : Upd [] wr.drew w') :
    ClimbAt t L' fin w (.int .i64 ((k : Int) / 2)) (w'.setCell ⟨t.bn, k, none⟩ (.int .i64 (betterF L' va vb))) := by
  have hB' : Upd [t.bl, t.bn] wr w' := (Upd.refl _ wr).drew.trans hB.nil
  have hlen : N1.length = 2 * t.size := by have := hN.len; simpa using this
  refine ⟨k / 2, N1.set k (betterF L' va vb), by congr 1, by omega, by simp [hlen], ?_, hl, ?_, ?_, ?_, ?_⟩
  · have := hI.better L' (2 * k) (2 * k + 1)
    rw [ha, hb] at this
    exact hI.set _ _ this.1 this.2
  · exact (hU.trans hB').setCell (by simp) _
  · exact (hR.drew.upd hB (by simp)).setFar (fun e => hlb e.symm) _
  · have h := (hN.drew.upd hB (by simp)).set k (.int .i64 (betterF L' va vb))
    rw [← List.map_set] at h
    exact h
  · rw [← hF, climb_step L' t.size k N1 hk1 (by omega), ha, hb]
    exact climb_fuel _ _ _ _ _ (by omega) (by omega)

set_option maxHeartbeats 8000000 in
theorem play_in (t : Tr) (i : Nat) (f : Leaf) (w : World) (ht : TourAt w t) (hi : i < t.L.length) :
    Calls Try.prog 26 #[.pointer (some ⟨t.bt, 0, none⟩), .int .i64 i, .agg #[.int .u64 f.1.1, .int .i64 f.1.2, .bool f.2]] w (PlayIn t i f w) := by
  have hc0 := ht.top.cell (j := 0) rfl
  have hc1 := ht.top.cell (j := 1) rfl
  have hc2 := ht.top.cell (j := 2) rfl
  have lt := ht.top.lt
  have lb := ht.leaves.lt
  have ln := ht.nodes.lt
  have small := ht.small
  have fits := ht.fits
  have hT := Lib.hid ht
  obtain ⟨⟨fk, fi⟩, fb⟩ := f
  obtain ⟨bt, bl, bn, cap, size, L, N⟩ := t
  dsimp only at *
  have tl := ht.tl
  have tn := ht.tn
  have hlb := ht.ln
  dsimp only at tl tn hlb
  obtain ⟨u0, q0⟩ := ht.leaves.spot (j := i * 3) (by dsimp only; omega)
  obtain ⟨u1, q1⟩ := ht.leaves.spot (j := i * 3 + 1) (by dsimp only; omega)
  obtain ⟨u2, q2⟩ := ht.leaves.spot (j := i * 3 + 2) (by dsimp only; omega)
  obtain ⟨u3, q3⟩ := ht.nodes.spot (j := size + i) (by dsimp only; omega)
  have z3 := ht.nodes.free (size + i)
  have z0 := ht.leaves.free (i * 3)
  have z1 := ht.leaves.free (i * 3 + 1)
  have z2 := ht.leaves.free (i * 3 + 2)
  clear ht
  dsimp only at *
  have h1 : decide ((i : Int) < 0) = false := by simp
  have h2 : decide (L.length ≤ i) = false := by simp; omega
  obtain ⟨L', hL⟩ : ∃ L', L' = L.set i ((fk, fi), fb) := ⟨_, rfl⟩
  obtain ⟨fin, hF⟩ : ∃ fin, fin = playN L' size i fb N := ⟨_, rfl⟩
  have HL := Lib.hid hL
  have HF := Lib.hid hF
  clear hL hF
  cases fb
  all_goals go_enter Try.func26, Try.ntmps26
  go_wp2
  all_goals go_region
  all_goals go_wp2
  all_goals clear q0 q1 q2 q3 z0 z1 z2 z3
  all_goals generalize hW : World.drew _ = W
  rotate_left
  obtain ⟨hU, hl, hn⟩ := play_mid2 hT.out hi fk fi _ _ _ _ hW.symm
  clear hW
  rotate_left
  obtain ⟨hU, hl, hn⟩ := play_mid hT.out hi fk fi _ _ _ hW.symm
  clear hW
  all_goals
    have HU := Lib.hid hU
    have HR := Lib.hid hl
    have HN := Lib.hid hn
    clear hU hl hn
    go_loopw [7] (fun k wr => ClimbAt ⟨bt, bl, bn, cap, size, L, N⟩ L' fin w k wr) (fun k _ => (intOf k).toNat)
    case atStart => exact ClimbAt.start (hT.out) hi HU.out HR.out HN.out HL.out HF.out rfl
    case round =>
      obtain ⟨k, N1, rfl, hk, hlen, hin, hLl, hU, hR, hN, hfin⟩ := hrel
      clear HU HR HN
      dsimp only at hk hlen hLl hU hR hN hfin
      have hU0 := Lib.hid hU
      have hR0 := Lib.hid hR
      have hN0 := Lib.hid hN
      have hI0 := Lib.hid hin
      have hF0 := Lib.hid hfin
      have hl0 := Lib.hid hLl
      have hcs := hU.cells
      have ltW := Nat.lt_of_lt_of_le lt hU.size
      have lbW := hR.lt
      have lnW := hN.lt
      clear hin hfin hLl hlen hU hR hN
      by_cases hk0 : k = 0
      · subst hk0
        go_wp2
        go_ret
        exact climb_done hT.out hU0.out hR0.out hN0.out hI0.out hF0.out hl0.out HL.out HF.out
      · have hk1 : 0 < k := by omega
        have ct0 : wr.cell? ⟨bt, 0, none⟩ = some (.slice (some ⟨bl, 0, none⟩) L.length L.length) := by rw [hU0.out.cell lt (by simp [tl, tn])]; exact hc0
        have ct2 : wr.cell? ⟨bt, 2, none⟩ = some (.slice (some ⟨bn, 0, none⟩) (2 * size) cap) := by rw [hU0.out.cell lt (by simp [tl, tn])]; exact hc2
        have n0 : wr.cell? ⟨bn, 2 * k, none⟩ = some (.int .i64 (N1.getD (2 * k) (-1))) := node_cell hN0.out (by omega)
        have n1 : wr.cell? ⟨bn, 2 * k + 1, none⟩ = some (.int .i64 (N1.getD (2 * k + 1) (-1))) := node_cell hN0.out (by omega)
        have nk : wr.cell? ⟨bn, k, none⟩ = some (.int .i64 (N1.getD k (-1))) := node_cell hN0.out (by omega)
        have zk := hN0.out.free k
        obtain ⟨va, ha⟩ : ∃ v, N1.getD (2 * k) (-1) = v := ⟨_, rfl⟩
        obtain ⟨vb, hb⟩ : ∃ v, N1.getD (2 * k + 1) (-1) = v := ⟨_, rfl⟩
        obtain ⟨vk, hvk⟩ : ∃ v, N1.getD k (-1) = v := ⟨_, rfl⟩
        rw [ha] at n0
        rw [hb] at n1
        rw [hvk] at nk
        have ha2 : va < L.length := by have := (hI0.out.getD (2 * k)).2; rw [ha, hl0.out] at this; exact this
        have hb2 : vb < L.length := by have := (hI0.out.getD (2 * k + 1)).2; rw [hb, hl0.out] at this; exact this
        have Ha := Lib.hid ha
        have Hb := Lib.hid hb
        have HtW : Hid (Blk wr bt 57 [.slice (some ⟨bl, 0, none⟩) L.length L.length, .int .i64 size, .slice (some ⟨bn, 0, none⟩) (2 * size) cap]) := hT.out.top.upd hU0.out (by simp [tl, tn])
        clear ha hb hvk hcs hc0 hc1 hc2
        have p1 : (0 : Int) ≤ 2 * (k : Int) := by omega
        have p2 : (0 : Int) ≤ 2 * (k : Int) + 1 := by omega
        have p3 : 2 * (k : Int) < 2 * (size : Int) := by omega
        have p4 : 2 * (k : Int) + 1 < 2 * (size : Int) := by omega
        have p5 : (k : Int) < 2 * (size : Int) := by omega
        have e1 : (2 * (k : Int)).toNat = 2 * k := by omega
        have e2 : (2 * (k : Int) + 1).toNat = 2 * k + 1 := by omega
        have w1 : IntKind.i64.wrap (2 * (k : Int)) = 2 * (k : Int) := IntWalk.i64_in _ (by omega)
        have w2 : IntKind.i64.wrap (2 * (k : Int) + 1) = 2 * (k : Int) + 1 := IntWalk.i64_in _ (by omega)
        have m1 : ¬ (k = 2 * k) := by omega
        have m2 : ¬ (k = 2 * k + 1) := by omega
        go_wp2_with fail
        go_region_held3 (fun w' => (∀ (b o : Nat), b < wr.heap.size → b ≠ bn → w'.cell? ⟨b, o, none⟩ = wr.cell? ⟨b, o, none⟩) ∧ w'.cell? ⟨bn, 2 * k, none⟩ = some (.int .i64 va) ∧ w'.cell? ⟨bn, 2 * k + 1, none⟩ = some (.int .i64 vb))
          (first | exact ⟨fun _ _ _ _ => rfl, n0, n1⟩ | exact climb_held1 lnW n0 n1 hB | exact climb_held2 lnW n0 n1 hB (by omega))
          (first | (go_at_call 27; refine (better_any bt bl L.length size _ L' va vb _ (HtW.out.upd (Upd.refl [] wr).drew (by simp)) (hl0.out ▸ hR0.out.drew) ha2 hb2).mono ?_; rintro e w' ⟨rfl, hB⟩; have nk' := (hB.cell (w := wr.drew) lnW (by simp) k).trans nk; have zk' := (hB.frozen (w := wr.drew) lnW (by simp) k).trans zk))
        go_wp2
        exact ⟨climb_round (t := ⟨bt, bl, bn, cap, size, L, N⟩) hlb hU0.out hR0.out hN0.out hI0.out hF0.out hl0.out hk hk1 small Ha.out Hb.out hB, by simp [intOf]; omega⟩
end Go.Proofs.Ytoalbmcceehccaa
