/-
  Texts of this claim, joined: TourM, TourA, TourB, TourC, TourD, TourU, TourG. No condition.
-/
import Derived.Test.YtolohheflbmfaaaGreatDoorPB
import Derived.Lib.MinMax
set_option linter.unusedVariables false
set_option linter.unusedSimpArgs false
/-! TourM -/
namespace Go.Proofs.YtolohheflbmfaaaGreatDoor

abbrev Leaf := It × Bool
def zLeaf : Leaf := (zIt, false)
def leafVs (l : Leaf) : List Value := [.int .u64 l.1.1, .int .i64 l.1.2, .bool l.2]
theorem leafVs_len (l : Leaf) : (leafVs l).length = 3 := rfl
def leafAt (L : List Leaf) (a : Int) : Leaf := L.getD a.toNat zLeaf
def betterF (L : List Leaf) (a b : Int) : Int :=
  if a < 0 then b else if 0 ≤ b ∧ ahead (leafAt L b).1 (leafAt L a).1 = true then b else a

theorem betterF_neg (L : List Leaf) (a b : Int) (h : a < 0) : betterF L a b = b := by simp [betterF, h]
theorem betterF_bneg (L : List Leaf) (a b : Int) (h : 0 ≤ a) (hb : b < 0) : betterF L a b = a := by
  unfold betterF; rw [if_neg (by omega), if_neg (by omega)]
theorem betterF_both (L : List Leaf) (a b : Int) (h : 0 ≤ a) (hb : 0 ≤ b) : betterF L a b = if ahead (leafAt L b).1 (leafAt L a).1 = true then b else a := by
  unfold betterF; rw [if_neg (by omega)]; simp [hb]
theorem betterF_or (L : List Leaf) (a b : Int) : betterF L a b = a ∨ betterF L a b = b := by
  unfold betterF; split
  · exact .inr rfl
  · split
    · exact .inr rfl
    · exact .inl rfl


/-- From node k up: each one anew. -/
def climb (L : List Leaf) : Nat → Nat → List Int → List Int
  | 0, _, N => N
  | f + 1, k, N => if k = 0 then N else climb L f (k / 2) (N.set k (betterF L (N.getD (2 * k) (-1)) (N.getD (2 * k + 1) (-1))))

def playN (L : List Leaf) (size i : Nat) (b : Bool) (N : List Int) : List Int :=
  climb L (size + i) ((size + i) / 2) (N.set (size + i) (if b then (i : Int) else -1))

theorem climb_len (L : List Leaf) (f k : Nat) (N : List Int) : (climb L f k N).length = N.length := by
  induction f generalizing k N with
  | zero => rfl
  | succ f ih => unfold climb; split
                 · rfl
                 · rw [ih, List.length_set]
theorem climb_zero (L : List Leaf) (f : Nat) (N : List Int) : climb L f 0 N = N := by cases f <;> simp [climb]
theorem climb_step (L : List Leaf) (f k : Nat) (N : List Int) (hk : 0 < k) (hf : k ≤ f) :
    climb L f k N = climb L (f - 1) (k / 2) (N.set k (betterF L (N.getD (2 * k) (-1)) (N.getD (2 * k + 1) (-1)))) := by
  obtain ⟨g, rfl⟩ : ∃ g, f = g + 1 := ⟨f - 1, by omega⟩
  simp only [climb, Nat.add_sub_cancel]; rw [if_neg (by omega)]
theorem climb_fuel (L : List Leaf) : ∀ (k f g : Nat) (N : List Int), k ≤ f → k ≤ g → climb L f k N = climb L g k N := by
  intro k
  induction k using Nat.strongRecOn with
  | ind k ih =>
    intro f g N hf hg
    rcases Nat.eq_zero_or_pos k with rfl | hk
    · rw [climb_zero, climb_zero]
    · rw [climb_step L f k N hk hf, climb_step L g k N hk hg]
      exact ih (k / 2) (by omega) _ _ _ (by omega) (by omega)

def InR (n : Nat) (N : List Int) : Prop := ∀ v ∈ N, -1 ≤ v ∧ v < n
theorem InR.set {n : Nat} {N : List Int} (h : InR n N) (k : Nat) (v : Int) (h1 : -1 ≤ v) (h2 : v < n) : InR n (N.set k v) := by
  intro u hu
  rcases List.mem_or_eq_of_mem_set hu with hu | rfl
  · exact h u hu
  · exact ⟨h1, h2⟩
theorem InR.getD {n : Nat} {N : List Int} (h : InR n N) (k : Nat) : -1 ≤ N.getD k (-1) ∧ N.getD k (-1) < n := by
  rw [List.getD_eq_getElem?_getD]
  cases hk : N[k]? with
  | none => simp; omega
  | some v => simp only [Option.getD_some]; exact h v (List.mem_of_getElem? hk)
theorem InR.better {n : Nat} {N : List Int} (h : InR n N) (L : List Leaf) (k j : Nat) : -1 ≤ betterF L (N.getD k (-1)) (N.getD j (-1)) ∧ betterF L (N.getD k (-1)) (N.getD j (-1)) < n := by
  rcases betterF_or L (N.getD k (-1)) (N.getD j (-1)) with e | e <;> rw [e]
  · exact h.getD k
  · exact h.getD j


/-- Nodes that tell who wins below. -/
structure Good (L : List Leaf) (size : Nat) (N : List Int) : Prop where
  len : N.length = 2 * size
  leaf : ∀ i, i < size → N.getD (size + i) (-1) = if (L.getD i zLeaf).2 = true then (i : Int) else -1
  node : ∀ k, 1 ≤ k → k < size → N.getD k (-1) = betterF L (N.getD (2 * k) (-1)) (N.getD (2 * k + 1) (-1))

end Go.Proofs.YtolohheflbmfaaaGreatDoor

/-! TourA -/
namespace Go.Proofs.YtolohheflbmfaaaGreatDoor
open Go.RowKit

theorem leaf_rows {w : World} {bl n : Nat} {L : List Leaf} (h : Row w 146 3 bl n n (L.flatMap leafVs)) (a : Int) (h0 : 0 ≤ a) (h1 : a < n) :
    w.cell? ⟨bl, a.toNat * 3, none⟩ = some (.int .u64 (leafAt L a).1.1) ∧ w.cell? ⟨bl, a.toNat * 3 + 1, none⟩ = some (.int .i64 (leafAt L a).1.2) := by
  have hl : L.length = n := by have := h.len; rw [flat_len leafVs 3 leafVs_len] at this; omega
  have ha : a.toNat < L.length := by omega
  have hx : L[a.toNat]? = some (leafAt L a) := by
    unfold leafAt; rw [List.getD_eq_getElem?_getD, List.getElem?_eq_getElem ha]; rfl
  exact ⟨h.cell (by rw [← Nat.add_zero (a.toNat * 3), flat_get leafVs 3 leafVs_len L a.toNat 0 (by omega) _ hx]; rfl),
    h.cell (by rw [flat_get leafVs 3 leafVs_len L a.toNat 1 (by omega) _ hx]; rfl)⟩


set_option maxHeartbeats 800000 in
theorem better_any (bt bl n : Nat) (sz : Int) (nd : Value) (L : List Leaf) (a b : Int) (w : World)
    (ht : Blk w bt 136 [.slice (some ⟨bl, 0, none⟩) n n, .int .i64 sz, nd]) (hl : Row w 146 3 bl n n (L.flatMap leafVs)) (ha : a < n) (hb : b < n) :
    Calls Tryz.prog 129 #[.pointer (some ⟨bt, 0, none⟩), .int .i64 a, .int .i64 b] w (RetUpd [] w (.int .i64 (betterF L a b))) := by
  have hc0 := ht.cell (j := 0) rfl
  have lt := ht.lt
  have ll := hl.lt
  clear ht
  by_cases ha0 : a < 0
  · rw [betterF_neg L a b ha0]
    clear hl
    have h1 : decide (a < 0) = true := by simp; omega
    go_enter Tryz.func129, Tryz.ntmps129
    go_wp2
    go_quiet (fail)
    go_wp2
    go_ret
    exact ⟨rfl, (Upd.refl _ _).drewN _⟩
  · have h1 : decide (a < 0) = false := by simp; omega
    by_cases hb0 : b < 0
    · rw [betterF_bneg L a b (by omega) hb0]
      have h2 : decide (0 ≤ b) = false := by simp; omega
      clear hl
      go_enter Tryz.func129, Tryz.ntmps129
      go_wp2
      go_quiet (fail)
      go_wp2
      go_ret
      exact ⟨rfl, (Upd.refl _ _).drewN _⟩
    · have HB := Lib.hid (betterF_both L a b (by omega) (by omega))
      generalize betterF L a b = r at *
      have h2 : decide (0 ≤ b) = true := by simp; omega
      obtain ⟨hka, hia⟩ := leaf_rows hl a (by omega) ha
      obtain ⟨hkb, hib⟩ := leaf_rows hl b (by omega) hb
      clear hl
      generalize hx : (leafAt L a).1 = xa at *
      generalize hy : (leafAt L b).1 = xb at *
      clear hx hy
      have e1 : 0 ≤ a := by omega
      have e2 : 0 ≤ b := by omega
      clear ha0 hb0
      go_enter Tryz.func129, Tryz.ntmps129
      go_wp2
      go_region_held3 (fun w' => Upd [] w w' ∧ ∀ (b o : Nat), b < w.heap.size → b ∉ ([] : List Nat) → w'.cell? ⟨b, o, none⟩ = w.cell? ⟨b, o, none⟩)
        (first | exact Held.init _ _ | exact Held.step (by assumption) hB) (first | (go_at_call 72; refine (ahead_any xb xa _).mono ?_; rintro e w' ⟨rfl, hB⟩))
      have HT := HB.out
      cases ht : ahead xb xa <;> (rw [ht] at HT; simp at HT; subst HT; go_wp2; go_ret; exact ⟨rfl, (Upd.refl [] w).drew.trans hB⟩)
end Go.Proofs.YtolohheflbmfaaaGreatDoor

/-! TourB -/
namespace Go.Proofs.YtolohheflbmfaaaGreatDoor
open Go.RowKit

structure Tr where
  bt : Nat
  bl : Nat
  bn : Nat
  cap : Nat
  size : Nat
  L : List Leaf
  N : List Int


/-- A tour in memory. -/
structure TourAt (w : World) (t : Tr) : Prop where
  top : Blk w t.bt 136 [.slice (some ⟨t.bl, 0, none⟩) t.L.length t.L.length, .int .i64 t.size, .slice (some ⟨t.bn, 0, none⟩) (2 * t.size) t.cap]
  leaves : Row w 146 3 t.bl t.L.length t.L.length (t.L.flatMap leafVs)
  nodes : Row w 3 1 t.bn (2 * t.size) t.cap (t.N.map (Value.int .i64))
  tl : t.bt ≠ t.bl
  tn : t.bt ≠ t.bn
  ln : t.bl ≠ t.bn
  nlen : t.N.length = 2 * t.size
  one : 1 ≤ t.L.length
  fits : t.L.length ≤ t.size
  small : t.size ≤ 16
  inr : InR t.L.length t.N

theorem TourAt.upd {S : List Nat} {w w' : World} {t : Tr} (h : TourAt w t) (hu : Upd S w w') (h1 : t.bt ∉ S) (h2 : t.bl ∉ S) (h3 : t.bn ∉ S) : TourAt w' t :=
  { h with top := h.top.upd hu h1, leaves := h.leaves.upd hu h2, nodes := h.nodes.upd hu h3 }

def PlayOut (w : World) (e : Ending) (w' : World) : Prop := e = .returned (.bool false) ∧ Upd [] w w'


set_option maxHeartbeats 800000 in
theorem play_out (t : Tr) (i : Int) (f : Leaf) (w : World) (ht : TourAt w t) (hi : i < 0 ∨ t.L.length ≤ i) :
    Calls Tryz.prog 105 #[.pointer (some ⟨t.bt, 0, none⟩), .int .i64 i, .agg #[.int .u64 f.1.1, .int .i64 f.1.2, .bool f.2]] w (PlayOut w) := by
  have hc0 := ht.top.cell (j := 0) rfl
  have lt := ht.top.lt
  have small := ht.small
  have fits := ht.fits
  generalize t.L.length = n at *
  clear ht
  by_cases h0 : i < 0
  · have h1 : decide (i < 0) = true := by simp; omega
    go_enter Tryz.func105, Tryz.ntmps105
    go_wp2
    go_ret
    exact ⟨rfl, (Upd.refl [] w).alloc _⟩
  · have h1 : decide (i < 0) = false := by simp; omega
    have h2 : decide ((n : Int) ≤ i) = true := by simp; omega
    go_enter Tryz.func105, Tryz.ntmps105
    go_wp2
    go_ret
    exact ⟨rfl, (Upd.refl [] w).alloc _⟩

theorem leaf_set (L : List Leaf) (i : Nat) (hi : i < L.length) (k d : Int) (b : Bool) :
    (((L.flatMap leafVs).set (i * 3) (.int .u64 k)).set (i * 3 + 1) (.int .i64 d)).set (i * 3 + 2) (.bool b) = (L.set i ((k, d), b)).flatMap leafVs := by
  have h0 := flat_set leafVs 3 leafVs_len L i L[i] ((k, L[i].1.2), L[i].2) (List.getElem?_eq_getElem hi) 0 (.int .u64 k) (by omega) rfl
  rw [Nat.add_zero] at h0
  rw [h0]
  rw [flat_set leafVs 3 leafVs_len _ i ((k, L[i].1.2), L[i].2) ((k, d), L[i].2) (by simp [hi]) 1 (.int .i64 d) (by omega) rfl]
  rw [flat_set leafVs 3 leafVs_len _ i ((k, d), L[i].2) ((k, d), b) (by simp [hi]) 2 (.bool b) (by omega) rfl]
  simp


/-- Behind the stores, ahead of the climb. -/
theorem play_mid {t : Tr} {w : World} (ht : TourAt w t) {i : Nat} (hi : i < t.L.length) (k d : Int) (b : Bool) (u : Int) (o : Obj) {W : World}
    (hW : W = (((((w.setCell ⟨t.bl, i * 3, none⟩ (.int .u64 k)).setCell ⟨t.bl, i * 3 + 1, none⟩ (.int .i64 d)).setCell ⟨t.bl, i * 3 + 2, none⟩ (.bool b)).setCell ⟨t.bn, t.size + i, none⟩ (.int .i64 u)).alloc o).drew) :
    Upd [t.bl, t.bn] w W ∧ Row W 146 3 t.bl t.L.length t.L.length ((t.L.set i ((k, d), b)).flatMap leafVs) ∧ Row W 3 1 t.bn (2 * t.size) t.cap ((t.N.set (t.size + i) u).map (Value.int .i64)) := by
  subst hW
  refine ⟨?_, ?_, ?_⟩
  · exact ((((((Upd.refl _ w).setCell (by simp) _).setCell (by simp) _).setCell (by simp) _).setCell (by simp) _).alloc _).drew
  · have h := (((ht.leaves.set (i * 3) (.int .u64 k)).set (i * 3 + 1) (.int .i64 d)).set (i * 3 + 2) (.bool b))
    rw [leaf_set t.L i hi] at h
    exact (((h.setFar (a := ⟨t.bn, t.size + i, none⟩) (fun e => ht.ln e.symm) _).alloc o).drew)
  · have h := ((((ht.nodes.setFar (a := ⟨t.bl, i * 3, none⟩) (fun e => ht.ln e) (.int .u64 k)).setFar (a := ⟨t.bl, i * 3 + 1, none⟩) (fun e => ht.ln e) (.int .i64 d)).setFar (a := ⟨t.bl, i * 3 + 2, none⟩) (fun e => ht.ln e) (.bool b)).set (t.size + i) (.int .i64 u))
    rw [← List.map_set] at h
    exact (h.alloc o).drew


theorem play_mid2 {t : Tr} {w : World} (ht : TourAt w t) {i : Nat} (hi : i < t.L.length) (k d : Int) (b : Bool) (u0 u : Int) (o : Obj) {W : World}
    (hW : W = ((((((w.setCell ⟨t.bl, i * 3, none⟩ (.int .u64 k)).setCell ⟨t.bl, i * 3 + 1, none⟩ (.int .i64 d)).setCell ⟨t.bl, i * 3 + 2, none⟩ (.bool b)).setCell ⟨t.bn, t.size + i, none⟩ (.int .i64 u0)).setCell ⟨t.bn, t.size + i, none⟩ (.int .i64 u)).alloc o).drew) :
    Upd [t.bl, t.bn] w W ∧ Row W 146 3 t.bl t.L.length t.L.length ((t.L.set i ((k, d), b)).flatMap leafVs) ∧ Row W 3 1 t.bn (2 * t.size) t.cap ((t.N.set (t.size + i) u).map (Value.int .i64)) := by
  subst hW
  refine ⟨?_, ?_, ?_⟩
  · exact (((((((Upd.refl _ w).setCell (by simp) _).setCell (by simp) _).setCell (by simp) _).setCell (by simp) _).setCell (by simp) _).alloc _).drew
  · have h := (((ht.leaves.set (i * 3) (.int .u64 k)).set (i * 3 + 1) (.int .i64 d)).set (i * 3 + 2) (.bool b))
    rw [leaf_set t.L i hi] at h
    exact ((((h.setFar (a := ⟨t.bn, t.size + i, none⟩) (fun e => ht.ln e.symm) _).setFar (a := ⟨t.bn, t.size + i, none⟩) (fun e => ht.ln e.symm) _).alloc o).drew)
  · have h := ((((ht.nodes.setFar (a := ⟨t.bl, i * 3, none⟩) (fun e => ht.ln e) (.int .u64 k)).setFar (a := ⟨t.bl, i * 3 + 1, none⟩) (fun e => ht.ln e) (.int .i64 d)).setFar (a := ⟨t.bl, i * 3 + 2, none⟩) (fun e => ht.ln e) (.bool b)).set (t.size + i) (.int .i64 u0)).set (t.size + i) (.int .i64 u)
    rw [List.set_set, ← List.map_set] at h
    exact (h.alloc o).drew

def ClimbAt (t : Tr) (L : List Leaf) (fin : List Int) (w : World) (kv : Value) (wr : World) : Prop :=
  ∃ (k : Nat) (N : List Int), kv = .int .i64 k ∧ k < t.size ∧ N.length = 2 * t.size ∧ InR L.length N ∧ L.length = t.L.length ∧ Upd [t.bl, t.bn] w wr ∧
    Row wr 146 3 t.bl t.L.length t.L.length (L.flatMap leafVs) ∧ Row wr 3 1 t.bn (2 * t.size) t.cap (N.map (Value.int .i64)) ∧ climb L t.size k N = fin

theorem node_cell {w : World} {bn n cap : Nat} {N : List Int} (h : Row w 3 1 bn n cap (N.map (Value.int .i64))) {j : Nat} (hj : j < n) : w.cell? ⟨bn, j, none⟩ = some (.int .i64 (N.getD j (-1))) := by
  have hl : N.length = n := by have := h.len; simpa using this
  refine h.cell ?_
  rw [List.getElem?_map, List.getD_eq_getElem?_getD, List.getElem?_eq_getElem (by omega)]; rfl

theorem climb_held1 {wr w' : World} {bn k : Nat} {va vb : Value} (lnW : bn < wr.heap.size) (n0 : wr.cell? ⟨bn, 2 * k, none⟩ = some va) (n1 : wr.cell? ⟨bn, 2 * k + 1, none⟩ = some vb) (hB : Upd [] wr.drew w') :
    (∀ (b o : Nat), b < wr.heap.size → b ≠ bn → w'.cell? ⟨b, o, none⟩ = wr.cell? ⟨b, o, none⟩) ∧ w'.cell? ⟨bn, 2 * k, none⟩ = some va ∧ w'.cell? ⟨bn, 2 * k + 1, none⟩ = some vb :=
  ⟨fun b o hb _ => hB.cell (w := wr.drew) hb (by simp) o, (hB.cell (w := wr.drew) lnW (by simp) _).trans n0, (hB.cell (w := wr.drew) lnW (by simp) _).trans n1⟩

theorem climb_held2 {wr w' : World} {bn k : Nat} {va vb u : Value} (lnW : bn < wr.heap.size) (n0 : wr.cell? ⟨bn, 2 * k, none⟩ = some va) (n1 : wr.cell? ⟨bn, 2 * k + 1, none⟩ = some vb) (hB : Upd [] wr.drew w') (hk : 0 < k) :
    (∀ (b o : Nat), b < wr.heap.size → b ≠ bn → (w'.setCell ⟨bn, k, none⟩ u).cell? ⟨b, o, none⟩ = wr.cell? ⟨b, o, none⟩) ∧ (w'.setCell ⟨bn, k, none⟩ u).cell? ⟨bn, 2 * k, none⟩ = some va ∧ (w'.setCell ⟨bn, k, none⟩ u).cell? ⟨bn, 2 * k + 1, none⟩ = some vb := by
  obtain ⟨h1, h2, h3⟩ := climb_held1 lnW n0 n1 hB
  refine ⟨fun b o hb hn => ?_, ?_, ?_⟩
  · rw [World.cell?_setCell_other _ _ _ _ (fun e => hn (by have := congrArg Addr.block e; exact this.symm))]; exact h1 b o hb hn
  · rw [World.cell?_setCell_other _ _ _ _ (fun e => by have := congrArg Addr.off e; simp at this; omega)]; exact h2
  · rw [World.cell?_setCell_other _ _ _ _ (fun e => by have := congrArg Addr.off e; simp at this; omega)]; exact h3

theorem ClimbAt.start {t : Tr} {w : World} (ht : TourAt w t) {i : Nat} (hi : i < t.L.length) {k d : Int} {b : Bool} {u : Int} {W : World}
    (hU : Upd [t.bl, t.bn] w W) (hl : Row W 146 3 t.bl t.L.length t.L.length ((t.L.set i ((k, d), b)).flatMap leafVs)) (hn : Row W 3 1 t.bn (2 * t.size) t.cap ((t.N.set (t.size + i) u).map (Value.int .i64)))
    {L' : List Leaf} {fin : List Int} (hL : L' = t.L.set i ((k, d), b)) (hF : fin = playN L' t.size i b t.N) (hu : u = if b then (i : Int) else -1) :
    ClimbAt t L' fin w (.int .i64 (((t.size : Int) + i) / 2)) W := by
  have := ht.fits
  subst hL hu
  refine ⟨(t.size + i) / 2, t.N.set (t.size + i) (if b then (i : Int) else -1), ?_, by omega, by simp [ht.nlen], ?_, by simp, hU, hl, hn, ?_⟩
  · congr 1
  · simp only [List.length_set]
    refine ht.inr.set _ _ ?_ ?_ <;> split <;> omega
  · rw [hF, playN]
    exact climb_fuel _ _ _ _ _ (by omega) (by omega)

def PlayIn (t : Tr) (i : Int) (f : Leaf) (w : World) (e : Ending) (w' : World) : Prop :=
  e = .returned (.bool true) ∧ Upd [t.bl, t.bn] w w' ∧ TourAt w' { t with L := t.L.set i.toNat f, N := playN (t.L.set i.toNat f) t.size i.toNat f.2 t.N }

theorem climb_done {t : Tr} {w wr : World} (ht : TourAt w t) {i : Nat} {k d : Int} {b : Bool} {L' : List Leaf} {fin N1 : List Int} (hU : Upd [t.bl, t.bn] w wr)
    (hR : Row wr 146 3 t.bl t.L.length t.L.length (L'.flatMap leafVs)) (hN : Row wr 3 1 t.bn (2 * t.size) t.cap (N1.map (Value.int .i64))) (hI : InR L'.length N1) (hF : climb L' t.size 0 N1 = fin)
    (hl : L'.length = t.L.length) (hL : L' = t.L.set i ((k, d), b)) (hf : fin = playN L' t.size i b t.N) : PlayIn t i ((k, d), b) w (.returned (.bool true)) wr := by
  rw [climb_zero] at hF
  subst hF
  refine ⟨rfl, hU, ?_⟩
  rw [Int.toNat_natCast]
  dsimp only
  rw [← hL, ← hf]
  have hlen : N1.length = 2 * t.size := by have := hN.len; simpa using this
  exact { top := by dsimp only; rw [hl]; exact ht.top.upd hU (by simp [ht.tl, ht.tn]), leaves := by dsimp only; rw [hl]; exact hR, nodes := hN, tl := ht.tl, tn := ht.tn, ln := ht.ln, nlen := hlen, one := by dsimp only; rw [hl]; exact ht.one, fits := by dsimp only; rw [hl]; exact ht.fits, small := ht.small, inr := hI }

theorem climb_round {t : Tr} {w wr w' : World} {L' : List Leaf} {fin N1 : List Int} {k : Nat} {va vb : Int} (hlb : t.bl ≠ t.bn) (hU : Upd [t.bl, t.bn] w wr)
    (hR : Row wr 146 3 t.bl t.L.length t.L.length (L'.flatMap leafVs)) (hN : Row wr 3 1 t.bn (2 * t.size) t.cap (N1.map (Value.int .i64))) (hI : InR L'.length N1) (hF : climb L' t.size k N1 = fin)
    (hl : L'.length = t.L.length) (hk : k < t.size) (hk1 : 0 < k) (_small : t.size ≤ 16) (ha : N1.getD (2 * k) (-1) = va) (hb : N1.getD (2 * k + 1) (-1) = vb) (hB : Upd [] wr.drew w') :
    ClimbAt t L' fin w (.int .i64 ((k : Int) / 2)) (w'.setCell ⟨t.bn, k, none⟩ (.int .i64 (betterF L' va vb))) := by
  have hB' : Upd [t.bl, t.bn] wr w' := (Upd.refl _ wr).drew.trans hB.nil
  have hlen : N1.length = 2 * t.size := by have := hN.len; simpa using this
  refine ⟨k / 2, N1.set k (betterF L' va vb), by congr 1, by omega, by simp [hlen], ?_, hl, ?_, ?_, ?_, ?_⟩
  · have := hI.better L' (2 * k) (2 * k + 1)
    rw [ha, hb] at this
    exact hI.set _ _ this.1 this.2
  · exact (hU.trans hB').setCell (by simp) _
  · exact (hR.drew.upd hB (by simp)).setFar (fun e => hlb e.symm) _
  · have h := (hN.drew.upd hB (by simp)).set k (.int .i64 (betterF L' va vb))
    rw [← List.map_set] at h
    exact h
  · rw [← hF, climb_step L' t.size k N1 hk1 (by omega), ha, hb]
    exact climb_fuel _ _ _ _ _ (by omega) (by omega)


set_option maxHeartbeats 8000000 in
theorem play_in (t : Tr) (i : Nat) (f : Leaf) (w : World) (ht : TourAt w t) (hi : i < t.L.length) :
    Calls Tryz.prog 105 #[.pointer (some ⟨t.bt, 0, none⟩), .int .i64 i, .agg #[.int .u64 f.1.1, .int .i64 f.1.2, .bool f.2]] w (PlayIn t i f w) := by
  have hc0 := ht.top.cell (j := 0) rfl
  have hc1 := ht.top.cell (j := 1) rfl
  have hc2 := ht.top.cell (j := 2) rfl
  have lt := ht.top.lt
  have lb := ht.leaves.lt
  have ln := ht.nodes.lt
  have small := ht.small
  have fits := ht.fits
  have hT := Lib.hid ht
  obtain ⟨⟨fk, fi⟩, fb⟩ := f
  obtain ⟨bt, bl, bn, cap, size, L, N⟩ := t
  dsimp only at *
  have tl := ht.tl
  have tn := ht.tn
  have hlb := ht.ln
  dsimp only at tl tn hlb
  obtain ⟨u0, q0⟩ := ht.leaves.spot (j := i * 3) (by dsimp only; omega)
  obtain ⟨u1, q1⟩ := ht.leaves.spot (j := i * 3 + 1) (by dsimp only; omega)
  obtain ⟨u2, q2⟩ := ht.leaves.spot (j := i * 3 + 2) (by dsimp only; omega)
  obtain ⟨u3, q3⟩ := ht.nodes.spot (j := size + i) (by dsimp only; omega)
  have z3 := ht.nodes.free (size + i)
  have z0 := ht.leaves.free (i * 3)
  have z1 := ht.leaves.free (i * 3 + 1)
  have z2 := ht.leaves.free (i * 3 + 2)
  clear ht
  dsimp only at *
  have h1 : decide ((i : Int) < 0) = false := by simp
  have h2 : decide (L.length ≤ i) = false := by simp; omega
  obtain ⟨L', hL⟩ : ∃ L', L' = L.set i ((fk, fi), fb) := ⟨_, rfl⟩
  obtain ⟨fin, hF⟩ : ∃ fin, fin = playN L' size i fb N := ⟨_, rfl⟩
  have HL := Lib.hid hL
  have HF := Lib.hid hF
  clear hL hF
  cases fb
  all_goals go_enter Tryz.func105, Tryz.ntmps105
  go_wp2
  all_goals go_region
  all_goals go_wp2
  all_goals clear q0 q1 q2 q3 z0 z1 z2 z3
  all_goals generalize hW : World.drew _ = W
  rotate_left
  obtain ⟨hU, hl, hn⟩ := play_mid2 hT.out hi fk fi _ _ _ _ hW.symm
  clear hW
  rotate_left
  obtain ⟨hU, hl, hn⟩ := play_mid hT.out hi fk fi _ _ _ hW.symm
  clear hW
  all_goals
    have HU := Lib.hid hU
    have HR := Lib.hid hl
    have HN := Lib.hid hn
    clear hU hl hn
    go_loopw [7] (fun k wr => ClimbAt ⟨bt, bl, bn, cap, size, L, N⟩ L' fin w k wr) (fun k _ => (intOf k).toNat)
    case atStart => exact ClimbAt.start (hT.out) hi HU.out HR.out HN.out HL.out HF.out rfl
    case round =>
      obtain ⟨k, N1, rfl, hk, hlen, hin, hLl, hU, hR, hN, hfin⟩ := hrel
      clear HU HR HN
      dsimp only at hk hlen hLl hU hR hN hfin
      have hU0 := Lib.hid hU
      have hR0 := Lib.hid hR
      have hN0 := Lib.hid hN
      have hI0 := Lib.hid hin
      have hF0 := Lib.hid hfin
      have hl0 := Lib.hid hLl
      have hcs := hU.cells
      have ltW := Nat.lt_of_lt_of_le lt hU.size
      have lbW := hR.lt
      have lnW := hN.lt
      clear hin hfin hLl hlen hU hR hN
      by_cases hk0 : k = 0
      · subst hk0
        go_wp2
        go_ret
        exact climb_done hT.out hU0.out hR0.out hN0.out hI0.out hF0.out hl0.out HL.out HF.out
      · have hk1 : 0 < k := by omega
        have ct0 : wr.cell? ⟨bt, 0, none⟩ = some (.slice (some ⟨bl, 0, none⟩) L.length L.length) := by rw [hU0.out.cell lt (by simp [tl, tn])]; exact hc0
        have ct2 : wr.cell? ⟨bt, 2, none⟩ = some (.slice (some ⟨bn, 0, none⟩) (2 * size) cap) := by rw [hU0.out.cell lt (by simp [tl, tn])]; exact hc2
        have n0 : wr.cell? ⟨bn, 2 * k, none⟩ = some (.int .i64 (N1.getD (2 * k) (-1))) := node_cell hN0.out (by omega)
        have n1 : wr.cell? ⟨bn, 2 * k + 1, none⟩ = some (.int .i64 (N1.getD (2 * k + 1) (-1))) := node_cell hN0.out (by omega)
        have nk : wr.cell? ⟨bn, k, none⟩ = some (.int .i64 (N1.getD k (-1))) := node_cell hN0.out (by omega)
        have zk := hN0.out.free k
        obtain ⟨va, ha⟩ : ∃ v, N1.getD (2 * k) (-1) = v := ⟨_, rfl⟩
        obtain ⟨vb, hb⟩ : ∃ v, N1.getD (2 * k + 1) (-1) = v := ⟨_, rfl⟩
        obtain ⟨vk, hvk⟩ : ∃ v, N1.getD k (-1) = v := ⟨_, rfl⟩
        rw [ha] at n0
        rw [hb] at n1
        rw [hvk] at nk
        have ha2 : va < L.length := by have := (hI0.out.getD (2 * k)).2; rw [ha, hl0.out] at this; exact this
        have hb2 : vb < L.length := by have := (hI0.out.getD (2 * k + 1)).2; rw [hb, hl0.out] at this; exact this
        have Ha := Lib.hid ha
        have Hb := Lib.hid hb
        have HtW : Hid (Blk wr bt 136 [.slice (some ⟨bl, 0, none⟩) L.length L.length, .int .i64 size, .slice (some ⟨bn, 0, none⟩) (2 * size) cap]) := hT.out.top.upd hU0.out (by simp [tl, tn])
        clear ha hb hvk hcs hc0 hc1 hc2
        have p1 : (0 : Int) ≤ 2 * (k : Int) := by omega
        have p2 : (0 : Int) ≤ 2 * (k : Int) + 1 := by omega
        have p3 : 2 * (k : Int) < 2 * (size : Int) := by omega
        have p4 : 2 * (k : Int) + 1 < 2 * (size : Int) := by omega
        have p5 : (k : Int) < 2 * (size : Int) := by omega
        have e1 : (2 * (k : Int)).toNat = 2 * k := by omega
        have e2 : (2 * (k : Int) + 1).toNat = 2 * k + 1 := by omega
        have w1 : IntKind.i64.wrap (2 * (k : Int)) = 2 * (k : Int) := IntWalk.i64_in _ (by omega)
        have w2 : IntKind.i64.wrap (2 * (k : Int) + 1) = 2 * (k : Int) + 1 := IntWalk.i64_in _ (by omega)
        have m1 : ¬ (k = 2 * k) := by omega
        have m2 : ¬ (k = 2 * k + 1) := by omega
        go_wp2_with fail
        go_region_held3 (fun w' => (∀ (b o : Nat), b < wr.heap.size → b ≠ bn → w'.cell? ⟨b, o, none⟩ = wr.cell? ⟨b, o, none⟩) ∧ w'.cell? ⟨bn, 2 * k, none⟩ = some (.int .i64 va) ∧ w'.cell? ⟨bn, 2 * k + 1, none⟩ = some (.int .i64 vb))
          (first | exact ⟨fun _ _ _ _ => rfl, n0, n1⟩ | exact climb_held1 lnW n0 n1 hB | exact climb_held2 lnW n0 n1 hB (by omega))
          (first | (go_at_call 129; refine (better_any bt bl L.length size _ L' va vb _ (HtW.out.upd (Upd.refl [] wr).drew (by simp)) (hl0.out ▸ hR0.out.drew) ha2 hb2).mono ?_; rintro e w' ⟨rfl, hB⟩; have nk' := (hB.cell (w := wr.drew) lnW (by simp) k).trans nk; have zk' := (hB.frozen (w := wr.drew) lnW (by simp) k).trans zk))
        go_wp2
        exact ⟨climb_round (t := ⟨bt, bl, bn, cap, size, L, N⟩) hlb hU0.out hR0.out hN0.out hI0.out hF0.out hl0.out hk hk1 small Ha.out Hb.out hB, by simp [intOf]; omega⟩
end Go.Proofs.YtolohheflbmfaaaGreatDoor

/-! TourC -/
namespace Go.Proofs.YtolohheflbmfaaaGreatDoor
open Go.RowKit

theorem underlyingLeaves : Tryz.prog.underlying 134 = some (.slice 146) := by kernel_rfl
theorem underlyingInts : Tryz.prog.underlying 89 = some (.slice 3) := by kernel_rfl
theorem infoLeaf : (Tryz.prog.info? 146).map (fun i => (i.zero, i.size, i.bytes)) = some (some (.agg #[.int .u64 0, .int .i64 0, .bool false]), 3, 24) := by kernel_rfl
theorem infoInt : (Tryz.prog.info? 3).map (fun i => (i.zero, i.size, i.bytes)) = some (some (.int .i64 0), 1, 8) := by kernel_rfl
theorem made_flat {α : Type} (f : α → List Value) (m : Nat) (hf : ∀ x, (f x).length = m) (x : α) (n : Nat) : (madeCells (f x).toArray (n * m)).toList = (List.replicate n x).flatMap f := by
  apply List.ext_getElem?
  intro j
  by_cases hj : j < n * m
  · have hm : 0 < m := by rcases Nat.eq_zero_or_pos m with rfl | h; simp at hj; exact h
    have hq : j / m < n := Nat.div_lt_of_lt_mul (by rw [Nat.mul_comm]; exact hj)
    have hr : j % m < m := Nat.mod_lt _ hm
    have e : j = j / m * m + j % m := by rw [Nat.mul_comm]; exact (Nat.div_add_mod j m).symm
    rw [show ((List.replicate n x).flatMap f)[j]? = ((List.replicate n x).flatMap f)[j / m * m + j % m]? by rw [← e], flat_get f m hf _ (j / m) (j % m) hr x (by simp [hq])]
    have : (j % (f x).toArray.size) < (f x).length := by simp [hf, hr]
    simp [madeCells, hj, hf, hr]
  · rw [List.getElem?_eq_none (by simp [madeCells]; omega), List.getElem?_eq_none (by rw [flat_len f m hf]; simp; omega)]


/-- How many leaves there are, of any number that was asked for. -/
def leavesOf (n : Int) : Nat := (min (max n 1) 16).toNat
theorem leavesOf_cast (n : Int) : ((leavesOf n : Nat) : Int) = min (max n 1) 16 := by unfold leavesOf; omega
theorem leavesOf_bd (n : Int) : 1 ≤ leavesOf n ∧ leavesOf n ≤ 16 := by unfold leavesOf; omega
def sizeOf2 (m : Nat) : Nat := if m ≤ 1 then 1 else if m ≤ 2 then 2 else if m ≤ 4 then 4 else if m ≤ 8 then 8 else 16
def Pow (s : Nat) : Prop := s = 1 ∨ s = 2 ∨ s = 4 ∨ s = 8 ∨ s = 16
theorem Pow.step {s m : Nat} (h : Pow s) (hm : m ≤ 16) (hs : s < m) : Pow (2 * s) := by unfold Pow at *; omega
theorem Pow.done {s m : Nat} (h : Pow s) (hb : s = 1 ∨ s / 2 < m) (hs : m ≤ s) (hm : m ≤ 16) : s = sizeOf2 m := by unfold Pow at h; unfold sizeOf2; (repeat' split) <;> omega
theorem sizeOf2_ge (m : Nat) (h : m ≤ 16) : m ≤ sizeOf2 m := by unfold sizeOf2; (repeat' split) <;> omega
theorem sizeOf2_le (m : Nat) : sizeOf2 m ≤ 16 := by unfold sizeOf2; (repeat' split) <;> omega

def newTr (bt bl bn cap m : Nat) : Tr := ⟨bt, bl, bn, cap, sizeOf2 m, List.replicate m zLeaf, List.replicate (2 * sizeOf2 m) (-1)⟩

def NewPost (n : Int) (w : World) (e : Ending) (w' : World) : Prop :=
  ∃ bt bl bn cap, e = .returned (.pointer (some ⟨bt, 0, none⟩)) ∧ TourAt w' (newTr bt bl bn cap (leavesOf n)) ∧ Upd [] w w' ∧ w.heap.size ≤ bt ∧ w.heap.size ≤ bl ∧ w.heap.size ≤ bn


/-- While the size is found. -/
def SizeAt (w : World) (m bt bl : Nat) (wr : World) : Prop :=
  ∃ s : Nat, Pow s ∧ (s = 1 ∨ s / 2 < m) ∧ Blk wr bt 136 [.slice (some ⟨bl, 0, none⟩) m m, .int .i64 s, .slice none 0 0] ∧ Row wr 146 3 bl m m ((List.replicate m zLeaf).flatMap leafVs) ∧ Upd [] w wr


/-- While the nodes are made. -/
def FillAt (w : World) (m s bt bl : Nat) (iv : Value) (wr : World) : Prop :=
  ∃ (i : Nat) (ao : Option Addr) (cp : Nat), iv = .int .i64 i ∧ i ≤ 2 * s ∧ Blk wr bt 136 [.slice (some ⟨bl, 0, none⟩) m m, .int .i64 s, .slice ao i cp] ∧ Row wr 146 3 bl m m ((List.replicate m zLeaf).flatMap leafVs) ∧ Upd [] w wr ∧
    wr.ownsRow (w.heap.size + 2) 3 1 (.slice ao i cp) i (List.replicate i (.int .i64 (-1)))

theorem new_start {w w1 : World} {m : Nat} (hown : w1.ownsRow 0 146 3 (.slice (some ⟨w.heap.size, 0, none⟩) m m) m (madeCells (Value.agg #[.int .u64 0, .int .i64 0, .bool false]).cells (m * 3)).toList) (hg : w.grownBy w1 none) :
    SizeAt w m w1.heap.size w.heap.size (w1.alloc (.cells #[.slice (some ⟨w.heap.size, 0, none⟩) m m, .int .i64 1, .slice none 0 0] 136)) := by
  have hr : Row w1 146 3 w.heap.size m m ((List.replicate m zLeaf).flatMap leafVs) := by
    have := made_flat leafVs 3 leafVs_len zLeaf m
    rw [← this]; exact hown
  refine ⟨1, .inl rfl, .inl rfl, ?_, hr.alloc _, ((Upd.refl _ w).grown hg (by simp)).alloc _⟩
  exact Blk.new w1 _ [.slice (some ⟨w.heap.size, 0, none⟩) m m, .int .i64 1, .slice none 0 0]

theorem size_round {w wr : World} {m bt bl s : Nat} (hB : Blk wr bt 136 [.slice (some ⟨bl, 0, none⟩) m m, .int .i64 s, .slice none 0 0]) (hR : Row wr 146 3 bl m m ((List.replicate m zLeaf).flatMap leafVs)) (hU : Upd [] w wr)
    (hp : Pow s) (hm : m ≤ 16) (hs : s < m) (hbt : w.heap.size ≤ bt ∧ bl ≠ bt) :
    SizeAt w m bt bl (wr.setCell ⟨bt, 1, none⟩ (.int .i64 ((s : Int) * 2))) ∧
      m - cellNat (wr.setCell ⟨bt, 1, none⟩ (.int .i64 ((s : Int) * 2))) bt 1 < m - cellNat wr bt 1 := by
  have h2 := hB.set 1 (.int .i64 ((s : Int) * 2))
  constructor
  · refine ⟨2 * s, hp.step hm hs, .inr (by omega), ?_, hR.setFar (fun e => hbt.2 e.symm) _, hU.setCell (.inr hbt.1) _⟩
    rw [show ((2 * s : Nat) : Int) = (s : Int) * 2 by omega]
    exact h2
  · unfold cellNat
    rw [h2.cell (j := 1) rfl, hB.cell (j := 1) rfl]
    unfold Pow at hp
    simp [intOf]; omega

theorem fill_start {w wr : World} {m bt bl s : Nat} (hB : Blk wr bt 136 [.slice (some ⟨bl, 0, none⟩) m m, .int .i64 s, .slice none 0 0]) (hR : Row wr 146 3 bl m m ((List.replicate m zLeaf).flatMap leafVs)) (hU : Upd [] w wr) :
    FillAt w m s bt bl (.int .i64 0) wr := ⟨0, none, 0, rfl, by omega, hB, hR, hU, World.ownsRow_nil _ _ _ _⟩

theorem fill_keep {w wr w2 : World} {m bt bl s i g cap : Nat} {v : Value} (hB : Blk wr bt 136 [.slice (some ⟨bl, 0, none⟩) m m, .int .i64 s, v]) (hR : Row wr 146 3 bl m m ((List.replicate m zLeaf).flatMap leafVs)) (hU : Upd [] w wr)
    (ho : wr.ownsRow (w.heap.size + 2) 3 1 v i (List.replicate i (.int .i64 (-1)))) (ho2 : w2.ownsRow (w.heap.size + 2) 3 1 (.slice (some ⟨g, 0, none⟩) (i + 1) cap) (i + 1) (List.replicate i (.int .i64 (-1)) ++ [.int .i64 (-1)]))
    (hg : (wr.alloc (.cells #[.int .i64 (-1)] 3)).grownBy w2 v.ownBlock) (hbt : bt = w.heap.size + 1 ∧ bl = w.heap.size) :
    Blk w2 bt 136 [.slice (some ⟨bl, 0, none⟩) m m, .int .i64 s, v] ∧ Row w2 146 3 bl m m ((List.replicate m zLeaf).flatMap leafVs) ∧ Upd [] w w2 ∧ w.heap.size + 2 ≤ g ∧ Row w2 3 1 g (i + 1) cap (List.replicate (i + 1) (.int .i64 (-1))) := by
  have hv := ho.lt
  have hgg : w.heap.size + 2 ≤ g := by
    rcases ho2.2 with ⟨h, _⟩ | ⟨g', _, _, h, hb, _⟩
    · simp at h
    · simp only [Value.slice.injEq, Option.some.injEq, Addr.mk.injEq, and_true, true_and] at h
      omega
  have hu : Upd (match v.ownBlock with | some k => [k] | none => []) wr w2 := by
    refine ((Upd.refl _ wr).alloc _).grown hg (fun k hk => .inl ?_)
    rw [hk]; simp
  have hne : ∀ k, v.ownBlock = some k → w.heap.size + 2 ≤ k := fun k hk => (hv k hk).1
  have hnb : ∀ b, b < w.heap.size + 2 → b ∉ (match v.ownBlock with | some k => [k] | none => []) := by
    intro b hb
    cases hk : v.ownBlock with
    | none => simp
    | some k => simp only [List.mem_singleton]; have := hne k hk; omega
  refine ⟨hB.upd hu (hnb _ (by omega)), hR.upd hu (hnb _ (by omega)), hU.then hu (fun _ _ h => h) (fun j hj h => absurd h (hnb j (by omega))), hgg, ?_⟩
  have : List.replicate (i + 1) (Value.int .i64 (-1)) = List.replicate i (.int .i64 (-1)) ++ [.int .i64 (-1)] := by rw [List.replicate_succ']
  rw [this]
  exact ⟨ho2.1, by
    rcases ho2.2 with ⟨h, _⟩ | ⟨g', c', cur, h, _, r⟩
    · simp at h
    · exact .inr ⟨g', c', cur, h, Nat.zero_le _, r⟩⟩

theorem fill_round {w w2 : World} {m s i g cap : Nat} {v : Value} (h : Blk w2 (w.heap.size + 1) 136 [.slice (some ⟨w.heap.size, 0, none⟩) m m, .int .i64 s, v] ∧ Row w2 146 3 w.heap.size m m ((List.replicate m zLeaf).flatMap leafVs) ∧ Upd [] w w2 ∧ w.heap.size + 2 ≤ g ∧ Row w2 3 1 g (i + 1) cap (List.replicate (i + 1) (.int .i64 (-1))))
    (hi : i < 2 * s) :
    FillAt w m s (w.heap.size + 1) w.heap.size (.int .i64 ((i : Int) + 1)) (w2.setCell ⟨w.heap.size + 1, 2, none⟩ (.slice (some ⟨g, 0, none⟩) (i + 1) cap)) ∧
      2 * s - (intOf (.int .i64 ((i : Int) + 1))).toNat < 2 * s - (intOf (.int .i64 (i : Int))).toNat := by
  obtain ⟨hB, hR, hU, hg, hN⟩ := h
  refine ⟨⟨i + 1, some ⟨g, 0, none⟩, cap, by congr 1, by omega, hB.set 2 _, hR.setFar (by simp) _, hU.setCell (.inr (by simp)) _, ?_⟩, by simp [intOf]; omega⟩
  have hN' := hN.setFar (a := ⟨w.heap.size + 1, 2, none⟩) (by simp; omega) (.slice (some ⟨g, 0, none⟩) (i + 1) cap)
  obtain ⟨h1, cur, h2, r⟩ := hN'.parts
  exact ⟨h1, .inr ⟨g, cap, cur, rfl, hg, h2, r⟩⟩

theorem newTr_inr (bt bl bn cap m : Nat) : InR (newTr bt bl bn cap m).L.length (newTr bt bl bn cap m).N := by
  intro v hv
  simp only [newTr, List.mem_replicate] at hv
  simp only [newTr, List.length_replicate]
  omega

theorem new_done {n : Int} {w wr : World} {m s cp : Nat} {ao : Option Addr} (hB : Blk wr (w.heap.size + 1) 136 [.slice (some ⟨w.heap.size, 0, none⟩) m m, .int .i64 s, .slice ao (2 * s) cp]) (hR : Row wr 146 3 w.heap.size m m ((List.replicate m zLeaf).flatMap leafVs)) (hU : Upd [] w wr)
    (ho : wr.ownsRow (w.heap.size + 2) 3 1 (.slice ao (2 * s) cp) (2 * s) (List.replicate (2 * s) (.int .i64 (-1)))) (hs : s = sizeOf2 m) (hm : leavesOf n = m) (h1 : 1 ≤ m) (h2 : m ≤ 16) :
    NewPost n w (.returned (.pointer (some ⟨w.heap.size + 1, 0, none⟩))) wr := by
  subst hs hm
  have hge := sizeOf2_ge (leavesOf n) h2
  rcases ho.2 with ⟨_, h⟩ | ⟨g, cap, cur, h, hg, r⟩
  · omega
  · simp only [Value.slice.injEq, true_and] at h
    obtain ⟨rfl, rfl⟩ := h
    refine ⟨w.heap.size + 1, w.heap.size, g, cp, rfl, ?_, hU, by omega, by omega, by omega⟩
    exact { top := by simpa [newTr] using hB, leaves := by simpa [newTr] using hR, nodes := by simp only [newTr, List.map_replicate]; exact ⟨ho.1, .inr ⟨g, cp, cur, rfl, Nat.zero_le _, r⟩⟩, tl := by simp [newTr], tn := by simp only [newTr]; omega, ln := by simp only [newTr]; omega, nlen := by simp [newTr], one := by simpa [newTr] using h1, fits := by simpa [newTr] using hge, small := sizeOf2_le _, inr := newTr_inr _ _ _ _ _ }


set_option maxHeartbeats 4000000 in
theorem tnew_any (n : Int) (w : World) : Calls Tryz.prog 63 #[.int .i64 n] w (NewPost n w) := by
  obtain ⟨il, hil, hzl, hsl, hbl⟩ := info_parts infoLeaf
  obtain ⟨ii, hii, hzi, hsi, hbi⟩ := info_parts infoInt
  have hm := leavesOf_bd n
  have hc := leavesOf_cast n
  obtain ⟨m, hmm⟩ : ∃ m, leavesOf n = m := ⟨_, rfl⟩
  rw [hmm] at hm hc
  have HM := Lib.hid hmm
  have HC := Lib.hid hc
  clear hmm hc
  have hm1 := hm.1
  have hm2 := hm.2
  clear hm
  go_enter Tryz.func63, Tryz.ntmps63
  go_wp2_with (at_make; refine wpList_make_full' _ rfl (.tmp 7) (.tmp 7) 134 rfl 0 146 il _ 3 underlyingLeaves hil hzl hsl .i64 .i64 (min (max n 1) 16) (min (max n 1) 16) m rfl rfl HC.out.symm HC.out.symm (by rw [hbl]; omega) (by unfold maxLen; omega) (Nat.zero_le _) ?_; intro w1 hown hgrow hsize)
  rw [← HC.out]
  have hst := new_start hown hgrow
  rw [hsize] at hst
  generalize hW : World.alloc w1 _ = W1 at *
  have HS := Lib.hid hst
  clear hown hgrow hst hsize
  clear hW
  go_loopw [] (fun wr => SizeAt w m (w.heap.size + 1) w.heap.size wr) (fun wr => m - cellNat wr (w.heap.size + 1) 1)
  case atStart => exact HS.out
  case round =>
    clear HS
    obtain ⟨s, hp, hs, hB, hR, hU⟩ := hrel
    have b0 := hB.cell (j := 0) rfl
    have b1 := hB.cell (j := 1) rfl
    have b2 := hB.cell (j := 2) rfl
    have z1 := hB.free 1
    have z2 := hB.free 2
    have HB := Lib.hid hB
    have HR := Lib.hid hR
    have HU := Lib.hid hU
    have HP := Lib.hid hp
    have Hs := Lib.hid hs
    clear hB hR hU hp hs
    by_cases hsm : s < m
    · go_wp2
      exact size_round HB.out HR.out HU.out HP.out hm2 hsm ⟨by omega, by omega⟩
    · have h16 : s ≤ 16 := by have := HP.out; unfold Pow at this; omega
      go_wp2
      have hsz : s = sizeOf2 m := HP.out.done Hs.out (by omega) hm2
      have hF := fill_start HB.out HR.out HU.out
      have HZ := Lib.hid hsz
      have HF := Lib.hid hF
      clear b0 b1 b2 z1 z2 HB HR HU HP Hs hsz hF
      go_loopw [29] (fun i wr => FillAt w m s (w.heap.size + 1) w.heap.size i wr) (fun i _ => 2 * s - (intOf i).toNat)
      case atStart => exact HF.out
      case round =>
        clear HF
        obtain ⟨i, ao, cp, rfl, hi, hB, hR, hU, hown⟩ := hrel
        have b0 := hB.cell (j := 0) rfl
        have b1 := hB.cell (j := 1) rfl
        have b2 := hB.cell (j := 2) rfl
        have z2 := hB.free 2
        have HB := Lib.hid hB
        have HR := Lib.hid hR
        have HU := Lib.hid hU
        have hbs := hU.size
        have ltb := hB.lt
        have HO := Lib.hid hown
        clear hB hR hU hown
        by_cases hsm : i < 2 * s
        · have hd : decide ((i : Int) < 2 * (s : Int)) = true := by simp; omega
          go_wp2_with (at_builtin; refine wpList_append_lies _ rfl (.tmp 35) (.tmp 36) 89 rfl (w.heap.size + 2) 3 ii _ 1 8 underlyingInts hii hzi hsi hbi rfl (by omega) (.slice ao i cp) i _ rfl (HO.out.alloc _) ⟨wr.heap.size, 0, none⟩ 1 1 [.int .i64 (-1)] rfl rfl (World.news_of_block (cs := #[.int .i64 (-1)]) (t := 3) (fr := (0, 0)) (heap_alloc_new wr _)) (by simp [Value.oneCell']) (by omega) (by unfold maxLen; omega) (by omega) (by simp; omega) (wr.heap.size + 1) (by simp) ?_; intro g cap w2 hown2 hgrow hat hgl; have hK := fill_keep HB.out HR.out HU.out HO.out hown2 hgrow ⟨rfl, rfl⟩; have HK := Lib.hid hK; have b0 := hK.1.cell (j := 0) rfl; have b2 := hK.1.cell (j := 2) rfl; have z2 := hK.1.free 2; clear hK hown2 hgrow HB HR HU HO)
          exact fill_round HK.out hsm
        · have hd : decide ((i : Int) < 2 * (s : Int)) = false := by simp; omega
          go_wp2
          go_ret
          have e : i = 2 * s := by omega
          subst e
          exact new_done HB.out HR.out HU.out HO.out HZ.out HM.out hm1 hm2
end Go.Proofs.YtolohheflbmfaaaGreatDoor

/-! TourD -/
namespace Go.Proofs.YtolohheflbmfaaaGreatDoor
open Go.RowKit

/-- What Win answers. -/
def WinPost (t : Tr) (w : World) (e : Ending) (w' : World) : Prop :=
  Upd [] w w' ∧ ((t.N.getD 1 (-1) < 0 ∧ e = .returned (.tuple #[.int .i64 0, .agg #[.int .u64 0, .int .i64 0], .bool false])) ∨
    (0 ≤ t.N.getD 1 (-1) ∧ e = .returned (.tuple #[.int .i64 (t.N.getD 1 (-1)), .agg #[.int .u64 (leafAt t.L (t.N.getD 1 (-1))).1.1, .int .i64 (leafAt t.L (t.N.getD 1 (-1))).1.2], .bool true])))


set_option maxHeartbeats 1600000 in
theorem twin_any (t : Tr) (w : World) (ht : TourAt w t) : Calls Tryz.prog 67 #[.pointer (some ⟨t.bt, 0, none⟩)] w (WinPost t w) := by
  have h0 := ht.top.cell (j := 0) rfl
  have h2 := ht.top.cell (j := 2) rfl
  have lt := ht.top.lt
  have lb := ht.leaves.lt
  have hs : 1 ≤ t.size := Nat.le_trans ht.one ht.fits
  have c := node_cell ht.nodes (j := 1) (by omega)
  have ln := ht.nodes.lt
  obtain ⟨v, hv⟩ : ∃ v, t.N.getD 1 (-1) = v := ⟨_, rfl⟩
  have hin := ht.inr.getD 1
  rw [hv] at c hin
  have hi2 := hin.2
  have HV := Lib.hid hv
  have e1 : 1 < 2 * t.size := by omega
  by_cases hn : v < 0
  · have d1 : decide (v < 0) = true := by simp; omega
    clear hv hin ht
    go_enter Tryz.func67, Tryz.ntmps67
    go_wp2
    exact bodyPost_ret (v := .tuple #[.int .i64 0, .agg #[.int .u64 0, .int .i64 0], .bool false]) (by simp [results, Tryz.results67, go_sem]) rfl ⟨(Upd.refl [] w).alloc _, .inl ⟨by rw [HV.out]; omega, rfl⟩⟩
  · have d1 : decide (v < 0) = false := by simp; omega
    have p0 : 0 ≤ v := by omega
    obtain ⟨ck, ci⟩ := leaf_rows ht.leaves v p0 hi2
    obtain ⟨x, hx⟩ : ∃ x, (leafAt t.L v).1 = x := ⟨_, rfl⟩
    rw [hx] at ck ci
    have HX := Lib.hid hx
    clear hv hin ht hx hn
    go_enter Tryz.func67, Tryz.ntmps67
    go_wp2
    go_region
    go_wp2
    refine bodyPost_ret (v := .tuple #[.int .i64 v, .agg #[.int .u64 x.1, .int .i64 x.2], .bool true]) (by simp [results, Tryz.results67, go_sem]) rfl ⟨?_, .inr ⟨by rw [HV.out]; omega, by rw [HV.out, HX.out]⟩⟩
    exact ((Upd.refl [] w).alloc _).drew


set_option maxHeartbeats 800000 in
theorem tset_in (t : Tr) (i : Nat) (x : It) (w : World) (ht : TourAt w t) (hi : i < t.L.length) :
    Calls Tryz.prog 85 #[.pointer (some ⟨t.bt, 0, none⟩), .int .i64 i, .agg #[.int .u64 x.1, .int .i64 x.2]] w (PlayIn t i (x, true) w) := by
  have HT := Lib.hid ht
  clear ht
  go_enter Tryz.func85, Tryz.ntmps85
  go_wp2_with (go_at_call 105; refine (play_in t i (x, true) _ (HT.out.upd ((Upd.refl [] w).alloc _) (by simp) (by simp) (by simp)) hi).mono ?_; rintro e w' ⟨rfl, hU, hT⟩)
  go_ret
  exact ⟨rfl, (((Upd.refl [] w).alloc _).nil).trans hU, hT⟩


set_option maxHeartbeats 800000 in
theorem tset_out (t : Tr) (i : Int) (x : It) (w : World) (ht : TourAt w t) (hi : i < 0 ∨ t.L.length ≤ i) :
    Calls Tryz.prog 85 #[.pointer (some ⟨t.bt, 0, none⟩), .int .i64 i, .agg #[.int .u64 x.1, .int .i64 x.2]] w (PlayOut w) := by
  have HT := Lib.hid ht
  have HI := Lib.hid hi
  clear ht hi
  go_enter Tryz.func85, Tryz.ntmps85
  go_wp2_with (go_at_call 105; refine (play_out t i (x, true) _ (HT.out.upd ((Upd.refl [] w).alloc _) (by simp) (by simp) (by simp)) HI.out).mono ?_; rintro e w' ⟨rfl, hU⟩)
  go_ret
  exact ⟨rfl, ((Upd.refl [] w).alloc _).trans hU⟩


set_option maxHeartbeats 800000 in
theorem tunset_in (t : Tr) (i : Nat) (w : World) (ht : TourAt w t) (hi : i < t.L.length) :
    Calls Tryz.prog 86 #[.pointer (some ⟨t.bt, 0, none⟩), .int .i64 i] w (PlayIn t i zLeaf w) := by
  have HT := Lib.hid ht
  clear ht
  go_enter Tryz.func86, Tryz.ntmps86
  go_wp2_with (go_at_call 105; refine (play_in t i zLeaf _ HT.out hi).mono ?_; rintro e w' ⟨rfl, hU, hT⟩)
  go_ret
  exact ⟨rfl, hU, hT⟩


set_option maxHeartbeats 800000 in
theorem tunset_out (t : Tr) (i : Int) (w : World) (ht : TourAt w t) (hi : i < 0 ∨ t.L.length ≤ i) :
    Calls Tryz.prog 86 #[.pointer (some ⟨t.bt, 0, none⟩), .int .i64 i] w (PlayOut w) := by
  have HT := Lib.hid ht
  have HI := Lib.hid hi
  clear ht hi
  go_enter Tryz.func86, Tryz.ntmps86
  go_wp2_with (go_at_call 105; refine (play_out t i zLeaf _ HT.out HI.out).mono ?_; rintro e w' ⟨rfl, hU⟩)
  go_ret
  exact ⟨rfl, hU⟩
end Go.Proofs.YtolohheflbmfaaaGreatDoor

/-! TourU -/
namespace Go.Proofs.YtolohheflbmfaaaGreatDoor

/-- From m up till it is no more beyond k. -/
def upF : Nat → Nat → Nat → Nat
  | 0, m, _ => m
  | f + 1, m, k => if k < m then upF f (m / 2) k else m
theorem upF_le (f m k : Nat) (h : m ≤ k) : upF f m k = m := by cases f <;> simp [upF, Nat.not_lt.2 h]
theorem upF_fuel (k : Nat) (hk : 1 ≤ k) : ∀ (m f g : Nat), m ≤ f → m ≤ g → upF f m k = upF g m k := by
  intro m
  induction m using Nat.strongRecOn with
  | ind m ih =>
    intro f g hf hg
    by_cases h : m ≤ k
    · rw [upF_le f m k h, upF_le g m k h]
    · obtain ⟨f', rfl⟩ : ∃ x, f = x + 1 := ⟨f - 1, by omega⟩
      obtain ⟨g', rfl⟩ : ∃ x, g = x + 1 := ⟨g - 1, by omega⟩
      simp only [upF]
      rw [if_pos (by omega), if_pos (by omega)]
      exact ih (m / 2) (by omega) f' g' (by omega) (by omega)
def up (m k : Nat) : Nat := upF m m k
theorem up_le (m k : Nat) (h : m ≤ k) : up m k = m := upF_le _ _ _ h
theorem up_half (m k : Nat) (hk : 1 ≤ k) (h : k < m) : up m k = up (m / 2) k := by
  unfold up
  obtain ⟨f, rfl⟩ : ∃ x, m = x + 1 := ⟨m - 1, by omega⟩
  rw [show upF (f + 1) (f + 1) k = upF f ((f + 1) / 2) k by simp only [upF]; rw [if_pos h]]
  exact upF_fuel k hk _ _ _ (by omega) (Nat.le_refl _)


/-- Leaf i takes the lead. -/
def takesF (has : List Bool) (xs : List It) (size k i : Nat) (best : Int) : Bool :=
  decide (up (size + i) k = k) && has.getD i false && (decide (best < 0) || ahead (xAt xs i) (xAt xs best))
def scanF (has : List Bool) (xs : List It) (size k : Nat) : Nat → Nat → Int → Int
  | 0, _, best => best
  | m + 1, i, best => scanF has xs size k m (i + 1) (if takesF has xs size k i best = true then (i : Int) else best)
theorem scanF_step (has : List Bool) (xs : List It) (size k n i : Nat) (best : Int) (h : i < n) :
    scanF has xs size k (n - i) i best = scanF has xs size k (n - (i + 1)) (i + 1) (if takesF has xs size k i best = true then (i : Int) else best) := by
  rw [show n - i = (n - (i + 1)) + 1 by omega]; rfl
theorem takes_no1 {has : List Bool} {xs : List It} {size k i : Nat} {best : Int} (h : up (size + i) k ≠ k) : takesF has xs size k i best = false := by simp [takesF, h]
theorem takes_no2 {has : List Bool} {xs : List It} {size k i : Nat} {best : Int} (h : has.getD i false = false) : takesF has xs size k i best = false := by unfold takesF; rw [h]; simp
theorem takes_yes {has : List Bool} {xs : List It} {size k i : Nat} {best : Int} (h : up (size + i) k = k) (h2 : has.getD i false = true) (h3 : best < 0) : takesF has xs size k i best = true := by unfold takesF; rw [h2]; simp [h, h3]
theorem takes_as {has : List Bool} {xs : List It} {size k i : Nat} {best : Int} (h : up (size + i) k = k) (h2 : has.getD i false = true) (h3 : ¬ best < 0) : takesF has xs size k i best = ahead (xAt xs i) (xAt xs best) := by unfold takesF; rw [h2]; simp [h, h3]

end Go.Proofs.YtolohheflbmfaaaGreatDoor

/-! TourG -/
namespace Go.Proofs.YtolohheflbmfaaaGreatDoor

/-- b is who wins of the first n leaves below node k. -/
def IsWin (L : List Leaf) (size k n : Nat) (b : Int) : Prop :=
  (b = -1 ∧ ∀ i, i < n → up (size + i) k = k → (L.getD i zLeaf).2 = false) ∨
  (∃ j : Nat, b = j ∧ j < n ∧ up (size + j) k = k ∧ (L.getD j zLeaf).2 = true ∧
    ∀ i, i < n → up (size + i) k = k → (L.getD i zLeaf).2 = true → ahead (L.getD i zLeaf).1 (L.getD j zLeaf).1 = false ∧ (ahead (L.getD j zLeaf).1 (L.getD i zLeaf).1 = true ∨ j ≤ i))

theorem IsWin.one {L : List Leaf} {size k n : Nat} {b c : Int} (h : IsWin L size k n b) (g : IsWin L size k n c) : b = c := by
  rcases h with ⟨rfl, h⟩ | ⟨j, rfl, hj, hu, hh, h⟩ <;> rcases g with ⟨rfl, g⟩ | ⟨j', rfl, gj, gu, gh, g⟩
  · rfl
  · have := h j' gj gu; rw [gh] at this; cases this
  · have := g j hj hu; rw [hh] at this; cases this
  · have a := h j' gj gu gh
    have c := g j hj hu hh
    rw [c.1] at a
    rw [a.1] at c
    simp at a c
    omega

def RelL (L : List Leaf) (has : List Bool) (xs : List It) : Prop :=
  has.length = L.length ∧ (∀ i, i < L.length → has.getD i false = (L.getD i zLeaf).2) ∧ ∀ i, i < L.length → (L.getD i zLeaf).2 = true → xs.getD i zIt = (L.getD i zLeaf).1

theorem scan_wins {L : List Leaf} {has : List Bool} {xs : List It} (hr : RelL L has xs) (size k : Nat) : ∀ (m i : Nat) (best : Int), i + m = L.length → IsWin L size k i best → IsWin L size k L.length (scanF has xs size k m i best) := by
  intro m
  induction m with
  | zero => intro i best hi h; simp only [scanF]; rw [← hi]; exact h
  | succ m ih =>
    intro i best hi h
    simp only [scanF]
    refine ih (i + 1) _ (by omega) ?_
    have hil : i < L.length := by omega
    have hhas := hr.2.1 i hil
    by_cases hup : up (size + i) k = k
    · cases hL : (L.getD i zLeaf).2 with
      | false =>
        rw [takes_no2 (by rw [hhas, hL])]
        simp only [Bool.false_eq_true, if_false]
        rcases h with ⟨rfl, h⟩ | ⟨j, rfl, hj, hu, hh, h⟩
        · refine .inl ⟨rfl, fun i' hi' hu' => ?_⟩
          rcases Nat.lt_succ_iff_lt_or_eq.1 hi' with hlt | rfl
          · exact h i' hlt hu'
          · exact hL
        · refine .inr ⟨j, rfl, by omega, hu, hh, fun i' hi' hu' hh' => ?_⟩
          rcases Nat.lt_succ_iff_lt_or_eq.1 hi' with hlt | rfl
          · exact h i' hlt hu' hh'
          · rw [hL] at hh'; cases hh'
      | true =>
        have hxi : xAt xs i = (L.getD i zLeaf).1 := by unfold xAt; rw [Int.toNat_natCast]; exact hr.2.2 i hil hL
        rcases h with ⟨rfl, h⟩ | ⟨j, rfl, hj, hu, hh, h⟩
        · rw [takes_yes hup (by rw [hhas, hL]) (by omega), if_pos rfl]
          refine .inr ⟨i, rfl, by omega, hup, hL, fun i' hi' hu' hh' => ?_⟩
          rcases Nat.lt_succ_iff_lt_or_eq.1 hi' with hlt | rfl
          · have := h i' hlt hu'; rw [hh'] at this; cases this
          · exact ⟨by rw [ahead_no]; omega, .inr (Nat.le_refl _)⟩
        · have hxj : xAt xs j = (L.getD j zLeaf).1 := by unfold xAt; rw [Int.toNat_natCast]; exact hr.2.2 j (by omega) hh
          rw [takes_as hup (by rw [hhas, hL]) (by omega), hxi, hxj]
          cases ha : ahead (L.getD i zLeaf).1 (L.getD j zLeaf).1 with
          | false =>
            simp only [Bool.false_eq_true, if_false]
            refine .inr ⟨j, rfl, by omega, hu, hh, fun i' hi' hu' hh' => ?_⟩
            rcases Nat.lt_succ_iff_lt_or_eq.1 hi' with hlt | rfl
            · exact h i' hlt hu' hh'
            · exact ⟨ha, .inr (by omega)⟩
          | true =>
            rw [if_pos rfl]
            refine .inr ⟨i, rfl, by omega, hup, hL, fun i' hi' hu' hh' => ?_⟩
            rcases Nat.lt_succ_iff_lt_or_eq.1 hi' with hlt | rfl
            · have := (h i' hlt hu' hh').1
              rw [ahead_no] at this
              rw [ahead_iff] at ha
              exact ⟨by rw [ahead_no]; omega, .inl (by rw [ahead_iff]; omega)⟩
            · exact ⟨by rw [ahead_no]; omega, .inr (Nat.le_refl _)⟩
    · rw [takes_no1 hup]
      simp only [Bool.false_eq_true, if_false]
      rcases h with ⟨rfl, h⟩ | ⟨j, rfl, hj, hu, hh, h⟩
      · refine .inl ⟨rfl, fun i' hi' hu' => ?_⟩
        rcases Nat.lt_succ_iff_lt_or_eq.1 hi' with hlt | rfl
        · exact h i' hlt hu'
        · exact absurd hu' hup
      · refine .inr ⟨j, rfl, by omega, hu, hh, fun i' hi' hu' hh' => ?_⟩
        rcases Nat.lt_succ_iff_lt_or_eq.1 hi' with hlt | rfl
        · exact h i' hlt hu' hh'
        · exact absurd hu' hup

/-! ### What lies below a node -/
set_option maxRecDepth 100000 in
theorem split16 : ∀ a, a < 16 → ∀ k, k < 16 → 1 ≤ k → (up (16 + a) k = k ↔ (up (16 + a) (2 * k) = 2 * k ∨ up (16 + a) (2 * k + 1) = 2 * k + 1)) := by decide


set_option maxRecDepth 100000 in
theorem split8 : ∀ a, a < 8 → ∀ k, k < 8 → 1 ≤ k → (up (8 + a) k = k ↔ (up (8 + a) (2 * k) = 2 * k ∨ up (8 + a) (2 * k + 1) = 2 * k + 1)) := by decide


set_option maxRecDepth 100000 in
theorem split4 : ∀ a, a < 4 → ∀ k, k < 4 → 1 ≤ k → (up (4 + a) k = k ↔ (up (4 + a) (2 * k) = 2 * k ∨ up (4 + a) (2 * k + 1) = 2 * k + 1)) := by decide
theorem split2 : ∀ a, a < 2 → ∀ k, k < 2 → 1 ≤ k → (up (2 + a) k = k ↔ (up (2 + a) (2 * k) = 2 * k ∨ up (2 + a) (2 * k + 1) = 2 * k + 1)) := by decide
def ordOk (n : Nat) : Bool := (List.range n).all fun k => (List.range n).all fun a => (List.range n).all fun b =>
  !(decide (1 ≤ k) && decide (up (n + a) (2 * k) = 2 * k) && decide (up (n + b) (2 * k + 1) = 2 * k + 1)) || decide (a < b)
theorem order_of {n : Nat} (h : ordOk n = true) : ∀ k, k < n → ∀ a, a < n → ∀ b, b < n → 1 ≤ k → up (n + a) (2 * k) = 2 * k → up (n + b) (2 * k + 1) = 2 * k + 1 → a < b := by
  intro k hk a ha b hb hk1 h1 h2
  have := List.all_eq_true.1 (List.all_eq_true.1 (List.all_eq_true.1 h k (List.mem_range.2 hk)) a (List.mem_range.2 ha)) b (List.mem_range.2 hb)
  simpa [hk1, h1, h2] using this
theorem order16 : ordOk 16 = true := by decide +kernel
theorem order8 : ordOk 8 = true := by decide +kernel
theorem order4 : ordOk 4 = true := by decide +kernel
theorem order2 : ordOk 2 = true := by decide +kernel

theorem below_split {size : Nat} (hp : Pow size) {a k : Nat} (ha : a < size) (hk : k < size) (hk1 : 1 ≤ k) : up (size + a) k = k ↔ (up (size + a) (2 * k) = 2 * k ∨ up (size + a) (2 * k + 1) = 2 * k + 1) := by
  rcases hp with rfl | rfl | rfl | rfl | rfl
  · omega
  · exact split2 a ha k hk hk1
  · exact split4 a ha k hk hk1
  · exact split8 a ha k hk hk1
  · exact split16 a ha k hk hk1
theorem below_order {size : Nat} (hp : Pow size) {a b k : Nat} (ha : a < size) (hb : b < size) (hk : k < size) (hk1 : 1 ≤ k) (h1 : up (size + a) (2 * k) = 2 * k) (h2 : up (size + b) (2 * k + 1) = 2 * k + 1) : a < b := by
  rcases hp with rfl | rfl | rfl | rfl | rfl
  · omega
  · exact order_of order2 k hk a ha b hb hk1 h1 h2
  · exact order_of order4 k hk a ha b hb hk1 h1 h2
  · exact order_of order8 k hk a ha b hb hk1 h1 h2
  · exact order_of order16 k hk a ha b hb hk1 h1 h2

theorem win_leaf {L : List Leaf} {size i : Nat} (hL : L.length ≤ size) (hi : i < size) : IsWin L size (size + i) L.length (if (L.getD i zLeaf).2 = true then (i : Int) else -1) := by
  have hup : ∀ j, j < size → (up (size + j) (size + i) = size + i ↔ j = i) := by
    intro j hj
    by_cases h : j ≤ i
    · rw [up_le _ _ (by omega)]; omega
    · rw [up_half _ _ (by omega) (by omega), up_le _ _ (by omega)]; omega
  by_cases hiL : i < L.length
  · cases h : (L.getD i zLeaf).2 with
    | false =>
      rw [if_neg (by simp)]
      refine .inl ⟨rfl, fun j hj hu => ?_⟩
      rw [(hup j (by omega)).1 hu]; exact h
    | true =>
      rw [if_pos rfl]
      refine .inr ⟨i, rfl, hiL, (hup i hi).2 rfl, h, fun j hj hu _ => ?_⟩
      rw [(hup j (by omega)).1 hu]
      exact ⟨by rw [ahead_no]; omega, .inr (Nat.le_refl _)⟩
  · have h : (L.getD i zLeaf).2 = false := by rw [List.getD_eq_getElem?_getD, List.getElem?_eq_none (by omega)]; rfl
    rw [if_neg (by rw [h]; simp)]
    refine .inl ⟨rfl, fun j hj hu => ?_⟩
    rw [(hup j (by omega)).1 hu]; exact h

theorem win_node {L : List Leaf} {size k : Nat} (hp : Pow size) (hL : L.length ≤ size) (hk : k < size) (hk1 : 1 ≤ k) {a b : Int} (ha : IsWin L size (2 * k) L.length a) (hb : IsWin L size (2 * k + 1) L.length b) : IsWin L size k L.length (betterF L a b) := by
  have hs : ∀ i, i < L.length → (up (size + i) k = k ↔ (up (size + i) (2 * k) = 2 * k ∨ up (size + i) (2 * k + 1) = 2 * k + 1)) := fun i hi => below_split hp (by omega) hk hk1
  rcases ha with ⟨rfl, ha⟩ | ⟨j, rfl, hj, hu, hh, ha⟩ <;> rcases hb with ⟨rfl, hb⟩ | ⟨j', rfl, gj, gu, gh, hb⟩
  · rw [betterF_neg _ _ _ (by omega)]
    refine .inl ⟨rfl, fun i hi h => ?_⟩
    rcases (hs i hi).1 h with h | h
    · exact ha i hi h
    · exact hb i hi h
  · rw [betterF_neg _ _ _ (by omega)]
    refine .inr ⟨j', rfl, gj, (hs j' gj).2 (.inr gu), gh, fun i hi h hh' => ?_⟩
    rcases (hs i hi).1 h with h | h
    · have := ha i hi h; rw [hh'] at this; cases this
    · exact hb i hi h hh'
  · rw [betterF_bneg _ _ _ (by omega) (by omega)]
    refine .inr ⟨j, rfl, hj, (hs j hj).2 (.inl hu), hh, fun i hi h hh' => ?_⟩
    rcases (hs i hi).1 h with h | h
    · exact ha i hi h hh'
    · have := hb i hi h; rw [hh'] at this; cases this
  · rw [betterF_both _ _ _ (by omega) (by omega)]
    unfold leafAt
    simp only [Int.toNat_natCast]
    by_cases hab : ahead (L.getD j' zLeaf).1 (L.getD j zLeaf).1 = true
    · rw [if_pos hab]
      rw [ahead_iff] at hab
      refine .inr ⟨j', rfl, gj, (hs j' gj).2 (.inr gu), gh, fun i hi h hh' => ?_⟩
      rcases (hs i hi).1 h with h | h
      · have := (ha i hi h hh').1
        rw [ahead_no] at this
        exact ⟨by rw [ahead_no]; omega, .inl (by rw [ahead_iff]; omega)⟩
      · exact hb i hi h hh'
    · rw [if_neg hab]
      rw [ahead_iff] at hab
      refine .inr ⟨j, rfl, hj, (hs j hj).2 (.inl hu), hh, fun i hi h hh' => ?_⟩
      rcases (hs i hi).1 h with h | h
      · exact ha i hi h hh'
      · have hb1 := (hb i hi h hh').1
        have hlt := below_order hp (by omega) (by omega) hk hk1 hu h
        rw [ahead_no] at hb1
        exact ⟨by rw [ahead_no]; omega, .inr (by omega)⟩

theorem good_wins {L : List Leaf} {size : Nat} {N : List Int} (hg : Good L size N) (hp : Pow size) (hL : L.length ≤ size) : ∀ (d k : Nat), 2 * size - k = d → 1 ≤ k → k < 2 * size → IsWin L size k L.length (N.getD k (-1)) := by
  intro d
  induction d using Nat.strongRecOn with
  | ind d ih =>
    intro k hd hk1 hk2
    by_cases h : k < size
    · rw [hg.node k hk1 h]
      exact win_node hp hL h hk1 (ih (2 * size - 2 * k) (by omega) (2 * k) rfl (by omega) (by omega)) (ih (2 * size - (2 * k + 1)) (by omega) (2 * k + 1) rfl (by omega) (by omega))
    · obtain ⟨i, rfl⟩ : ∃ i, k = size + i := ⟨k - size, by omega⟩
      rw [hg.leaf i (by omega)]
      exact win_leaf hL (by omega)


/-- The reference's Node is the tour's. -/
theorem scan_is {L : List Leaf} {size : Nat} {N : List Int} {has : List Bool} {xs : List It} (hg : Good L size N) (hp : Pow size) (hL : L.length ≤ size) (hr : RelL L has xs) {k : Nat} (hk1 : 1 ≤ k) (hk2 : k < 2 * size) :
    scanF has xs size k L.length 0 (-1) = N.getD k (-1) :=
  (scan_wins hr size k L.length 0 (-1) (by omega) (.inl ⟨rfl, fun i hi => absurd hi (by omega)⟩)).one (good_wins hg hp hL _ k rfl hk1 hk2)

/-! ### A play keeps the nodes good -/

/-- All nodes are good but those on the way up from k. -/
structure GoodBut (L : List Leaf) (size k : Nat) (N : List Int) : Prop where
  len : N.length = 2 * size
  leaf : ∀ i, i < size → N.getD (size + i) (-1) = if (L.getD i zLeaf).2 = true then (i : Int) else -1
  node : ∀ j, 1 ≤ j → j < size → up k j ≠ j → N.getD j (-1) = betterF L (N.getD (2 * j) (-1)) (N.getD (2 * j + 1) (-1))

theorem up_lt (m : Nat) : ∀ k, 1 ≤ k → up m k ≤ k := by
  induction m using Nat.strongRecOn with
  | ind m ih =>
    intro k hk
    by_cases h : m ≤ k
    · rw [up_le _ _ h]; exact h
    · rw [up_half _ _ hk (by omega)]; exact ih (m / 2) (by omega) k hk

theorem climb_good (L : List Leaf) (size : Nat) : ∀ (k f : Nat) (N : List Int), k < size → k ≤ f → GoodBut L size k N → Good L size (climb L f k N) := by
  intro k
  induction k using Nat.strongRecOn with
  | ind k ih =>
    intro f N hk hf hg
    rcases Nat.eq_zero_or_pos k with rfl | hk0
    · rw [climb_zero]
      refine ⟨hg.len, hg.leaf, fun j h1 h2 => hg.node j h1 h2 ?_⟩
      rw [up_le _ _ (by omega)]; omega
    · rw [climb_step L f k N hk0 hf]
      have hl := hg.len
      refine ih (k / 2) (by omega) _ _ (by omega) (by omega) ⟨by rw [List.length_set, hl], fun i hi => ?_, fun j h1 h2 hu => ?_⟩
      · rw [getD_set_other _ _ _ _ _ (by omega)]; exact hg.leaf i hi
      · by_cases e : j = k
        · subst e
          rw [getD_set_same _ _ _ _ (by omega), getD_set_other _ _ _ _ _ (by omega), getD_set_other _ _ _ _ _ (by omega)]
        · rw [getD_set_other _ _ _ _ _ (fun h => e h.symm)]
          have hnu : up k j ≠ j := by
            by_cases hjk : j < k
            · rw [up_half k j h1 hjk]; exact hu
            · rw [up_le k j (by omega)]; omega
          have h2j : 2 * j ≠ k ∧ 2 * j + 1 ≠ k := by
            refine ⟨fun h => hu ?_, fun h => hu ?_⟩
            · rw [← h, show 2 * j / 2 = j by omega, up_le _ _ (Nat.le_refl _)]
            · rw [← h, show (2 * j + 1) / 2 = j by omega, up_le _ _ (Nat.le_refl _)]
          rw [getD_set_other _ _ _ _ _ (fun h => h2j.1 h.symm), getD_set_other _ _ _ _ _ (fun h => h2j.2 h.symm)]
          exact hg.node j h1 h2 hnu

theorem betterF_congr {L L' : List Leaf} {a b : Int} (h : ∀ c : Int, (c = a ∨ c = b) → 0 ≤ c → leafAt L c = leafAt L' c) : betterF L a b = betterF L' a b := by
  unfold betterF
  by_cases ha : a < 0
  · rw [if_pos ha, if_pos ha]
  · rw [if_neg ha, if_neg ha]
    by_cases hb : 0 ≤ b
    · rw [h a (.inl rfl) (by omega), h b (.inr rfl) hb]
    · rw [if_neg (fun h => hb h.1), if_neg (fun h => hb h.1)]

theorem play_good {L : List Leaf} {size i : Nat} {N : List Int} (f : Leaf) (hg : Good L size N) (hp : Pow size) (hL : L.length ≤ size) (hi : i < L.length) : Good (L.set i f) size (playN (L.set i f) size i f.2 N) := by
  have hl := hg.len
  unfold playN
  refine climb_good _ size _ _ _ (by omega) (by omega) ⟨by rw [List.length_set, hl], fun j hj => ?_, fun j h1 h2 hu => ?_⟩
  · by_cases e : j = i
    · subst e
      rw [getD_set_same _ _ _ _ (by omega), getD_set_same _ _ _ _ hi]
    · rw [getD_set_other _ _ _ _ _ (by omega), getD_set_other _ _ _ _ _ (fun h => e h.symm)]
      exact hg.leaf j hj
  · have h2j : 2 * j ≠ size + i ∧ 2 * j + 1 ≠ size + i := by
      refine ⟨fun h => hu ?_, fun h => hu ?_⟩
      · rw [← h, show 2 * j / 2 = j by omega, up_le _ _ (Nat.le_refl _)]
      · rw [← h, show (2 * j + 1) / 2 = j by omega, up_le _ _ (Nat.le_refl _)]
    rw [getD_set_other _ _ _ _ _ (by omega), getD_set_other _ _ _ _ _ (fun h => h2j.1 h.symm), getD_set_other _ _ _ _ _ (fun h => h2j.2 h.symm), hg.node j h1 h2]
    have hnb : up (size + i) j ≠ j := by
      rw [up_half _ _ h1 (by omega)]; exact hu
    refine betterF_congr fun c hc hc0 => ?_
    have hw : ∀ k, (k = 2 * j ∨ k = 2 * j + 1) → N.getD k (-1) = c → leafAt L c = leafAt (L.set i f) c := by
      intro k hk hkc
      have := good_wins hg hp hL _ k rfl (by omega) (by omega)
      rw [hkc] at this
      rcases this with ⟨rfl, _⟩ | ⟨q, rfl, hq, hqu, _⟩
      · omega
      · have hqi : q ≠ i := by
          rintro rfl
          exact hnb ((below_split hp (by omega) h2 h1).2 (by rcases hk with rfl | rfl; exact .inl hqu; exact .inr hqu))
        unfold leafAt
        rw [Int.toNat_natCast, getD_set_other _ _ _ _ _ (fun h => hqi h.symm)]
    rcases hc with rfl | rfl
    · exact hw _ (.inl rfl) rfl
    · exact hw _ (.inr rfl) rfl

theorem new_good (m : Nat) (_h1 : 1 ≤ m) (_h2 : m ≤ 16) : Good (List.replicate m zLeaf) (sizeOf2 m) (List.replicate (2 * sizeOf2 m) (-1)) := by
  have hr : ∀ k : Nat, (List.replicate (2 * sizeOf2 m) (-1 : Int)).getD k (-1) = -1 := by
    intro k
    rw [List.getD_eq_getElem?_getD, List.getElem?_replicate]
    split <;> rfl
  have hz : ∀ i : Nat, ((List.replicate m zLeaf).getD i zLeaf) = zLeaf := by
    intro k
    rw [List.getD_eq_getElem?_getD, List.getElem?_replicate]
    split <;> rfl
  refine ⟨by simp, fun i _ => ?_, fun k _ _ => ?_⟩
  · rw [hr, hz]; rfl
  · rw [hr, hr, hr]; rfl
theorem pow_sizeOf2 (m : Nat) : Pow (sizeOf2 m) := by unfold sizeOf2 Pow; (repeat' split) <;> omega
theorem new_rel (m : Nat) : RelL (List.replicate m zLeaf) (List.replicate m false) (List.replicate m zIt) := by
  have hz : ∀ i : Nat, ((List.replicate m zLeaf).getD i zLeaf) = zLeaf := by
    intro k
    rw [List.getD_eq_getElem?_getD, List.getElem?_replicate]
    split <;> rfl
  refine ⟨by simp, fun i _ => ?_, fun i _ h => ?_⟩
  · rw [hz, List.getD_eq_getElem?_getD, List.getElem?_replicate]; split <;> rfl
  · rw [hz] at h; cases h
theorem set_rel {L : List Leaf} {has : List Bool} {xs : List It} (h : RelL L has xs) (hx : xs.length = has.length) {i : Nat} (_hi : i < L.length) (x : It) : RelL (L.set i (x, true)) (has.set i true) (xs.set i x) := by
  obtain ⟨h0, h1, h2⟩ := h
  refine ⟨by simp [h0], fun j hj => ?_, fun j hj hh => ?_⟩
  · rw [List.length_set] at hj
    by_cases e : i = j
    · subst e; rw [getD_set_same _ _ _ _ (by omega), getD_set_same _ _ _ _ hj]
    · rw [getD_set_other _ _ _ _ _ e, getD_set_other _ _ _ _ _ e]; exact h1 j hj
  · rw [List.length_set] at hj
    by_cases e : i = j
    · subst e; rw [getD_set_same _ _ _ _ (by omega), getD_set_same _ _ _ _ hj]
    · rw [getD_set_other _ _ _ _ _ e] at hh ⊢; rw [getD_set_other _ _ _ _ _ e]; exact h2 j hj hh
theorem unset_rel {L : List Leaf} {has : List Bool} {xs : List It} (h : RelL L has xs) {i : Nat} (_hi : i < L.length) : RelL (L.set i zLeaf) (has.set i false) xs := by
  obtain ⟨h0, h1, h2⟩ := h
  refine ⟨by simp [h0], fun j hj => ?_, fun j hj hh => ?_⟩
  · rw [List.length_set] at hj
    by_cases e : i = j
    · subst e; rw [getD_set_same _ _ _ _ (by omega), getD_set_same _ _ _ _ hj]; rfl
    · rw [getD_set_other _ _ _ _ _ e, getD_set_other _ _ _ _ _ e]; exact h1 j hj
  · rw [List.length_set] at hj
    by_cases e : i = j
    · subst e; rw [getD_set_same _ _ _ _ hj] at hh; cases hh
    · rw [getD_set_other _ _ _ _ _ e] at hh ⊢; exact h2 j hj hh

end Go.Proofs.YtolohheflbmfaaaGreatDoor
