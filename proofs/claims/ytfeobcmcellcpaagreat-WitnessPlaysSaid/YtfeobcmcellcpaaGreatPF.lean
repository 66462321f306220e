/-
  Texts of this claim, joined: Fa, Fb, Fc, Fr, Fd, Fe, Ff. No condition.
-/
import Derived.Test.YtfeobcmcellcpaaGreatPI
import Derived.Test.YtfeobcmcellcpaaGreatPCT
import Derived.Test.YtfeobcmcellcpaaGreatQuiet
import Derived.Test.YtfeobcmcellcpaaGreatPB
set_option linter.unusedVariables false
set_option linter.unusedSimpArgs false
/-! Fa -/
namespace Go.Proofs.YtfeobcmcellcpaaGreat
open Go.RowKit

/-! ### Parts of rows as sources of an append -/
theorem flat_dropG {α : Type} (vs : α → List Value) (size : Nat) (hl : ∀ x, (vs x).length = size) (L : List α) (a : Nat) : (L.drop a).flatMap vs = (L.flatMap vs).drop (a * size) := by
  induction L generalizing a with
  | nil => simp
  | cons x L ih =>
    cases a with
    | zero => simp
    | succ a =>
      have e1 : List.drop ((a + 1) * size) (vs x) = [] := List.drop_eq_nil_of_le (by rw [hl, Nat.succ_mul]; omega)
      rw [List.drop_succ_cons, List.flatMap_cons, ih a, List.drop_append, e1, List.nil_append, hl, Nat.succ_mul, Nat.add_sub_cancel]

/-- A part of a row as a source. -/
theorem part_srcG {α : Type} (vs : α → List Value) (size : Nat) (hl : ∀ x, (vs x).length = size) (h1 : ∀ x, ∀ u ∈ vs x, u.oneCell' = true) {e : TypeId} {w : World} {ao : Option Addr} {n cap : Nat} {L : List α} (h : RowO w e size ao n cap (L.flatMap vs)) (hn : L.length = n) (a m : Nat) (ha : a + m ≤ n) (off : Nat) (hoff : off = a * size ∨ m = 0) :
    Src w size (ao.map fun ad => ⟨ad.block, off, none⟩) m (((L.drop a).take m).flatMap vs) := by
  refine ⟨by rw [flat_len vs size hl, List.length_take, List.length_drop, Nat.min_eq_left (by omega)], fun u hu => ?_, ?_⟩
  · obtain ⟨x, _, hx⟩ := List.mem_flatMap.1 hu
    exact h1 x u hx
  · rcases h.cases with ⟨rfl, rfl, _, _⟩ | ⟨g, rfl, hr⟩
    · exact .inl ⟨rfl, by omega⟩
    · refine .inr ⟨_, rfl, fun j u hu => ?_⟩
      rcases hoff with rfl | rfl
      · rw [add_none]
        refine hr.cell ?_
        rw [← flat_take vs size hl, flat_dropG vs size hl, List.getElem?_take] at hu
        split at hu
        · rw [List.getElem?_drop] at hu; exact hu
        · cases hu
      · simp at hu

/-- The whole of a row as a source. -/
theorem all_srcG {α : Type} (vs : α → List Value) (size : Nat) (hl : ∀ x, (vs x).length = size) (h1 : ∀ x, ∀ u ∈ vs x, u.oneCell' = true) {e : TypeId} {w : World} {ao : Option Addr} {n cap : Nat} {L : List α} (h : RowO w e size ao n cap (L.flatMap vs)) (hn : L.length = n) : Src w size ao n (L.flatMap vs) := by
  have k := part_srcG vs size hl h1 h hn 0 n (by omega) 0 (.inl (by omega))
  rw [List.drop_zero, List.take_of_length_le (by omega)] at k
  rcases h.cases with ⟨rfl, _, _, _⟩ | ⟨g, rfl, _⟩
  · exact k
  · exact k

/-- One more element as a source: an array that has just been made. -/
theorem one_src (w : World) (ty : TypeId) (cs : List Value) (h1 : ∀ u ∈ cs, u.oneCell' = true) (size : Nat) (hs : cs.length = size) : Src (w.alloc (.cells cs.toArray ty)) size (some ⟨w.heap.size, 0, none⟩) 1 cs :=
  ⟨by omega, h1, .inr ⟨_, rfl, World.news_of_block (cs := cs.toArray) (t := ty) (fr := (0, 0)) (heap_alloc_new w _)⟩⟩

/-! ### Plain -/
structure Pk where
  flow : Int
  len : Int
  mark : Int
def zPk : Pk := ⟨0, 0, 0⟩
def pkVs (p : Pk) : List Value := [.int .i64 p.flow, .int .i64 p.len, .int .i64 p.mark]
theorem pkVs_len (p : Pk) : (pkVs p).length = 3 := rfl
theorem pkVs_one (p : Pk) : ∀ u ∈ pkVs p, u.oneCell' = true := by
  intro u hu
  simp only [pkVs, List.mem_cons, List.not_mem_nil, or_false] at hu
  rcases hu with rfl | rfl | rfl <;> rfl
structure Fl where
  id : Int
  most : Int
  r : Nat
  L : List Pk
  start : Nat
  fin : Nat
def heldMost (most : Int) : Int := min (max most 1) 8
def flNew (id : Int) (r : Nat) (most : Int) : Fl := ⟨id, heldMost most, r, [], 0, 0⟩
def flFull (f : Fl) : Bool := decide (f.most ≤ (f.L.length : Int))
def flPut (f : Fl) (v : Nat) (p : Pk) : Fl := { f with start := if f.L.length = 0 then max v f.fin else f.start, L := f.L ++ [p] }
def flFin (f : Fl) (p : Pk) : Nat := addT f.start (mulT (sizeN p.len) f.r)
def flTake (f : Fl) (p : Pk) : Fl := { f with L := f.L.tail, fin := flFin f p, start := flFin f p }

/-- What holds of any flow. -/
structure FlOk (f : Fl) : Prop where
  most : 1 ≤ f.most ∧ f.most ≤ 8
  len : (f.L.length : Int) ≤ f.most
  r64 : f.r < 18446744073709551616
  s64 : f.start < 18446744073709551616
  f64 : f.fin < 18446744073709551616
  lens : ∀ p ∈ f.L, p.len < 9223372036854775808
theorem heldMost_bd (m : Int) : 1 ≤ heldMost m ∧ heldMost m ≤ 8 := by unfold heldMost; omega
theorem FlOk.new (id : Int) {r : Nat} (hr : r < 18446744073709551616) (most : Int) : FlOk (flNew id r most) :=
  ⟨heldMost_bd most, by have := (heldMost_bd most).1; simp [flNew]; omega, hr, by simp [flNew], by simp [flNew], fun _ h => (by cases h)⟩
theorem FlOk.put {f : Fl} (h : FlOk f) (hn : flFull f = false) {v : Nat} (hv : v < 18446744073709551616) {p : Pk} (hp : p.len < 9223372036854775808) : FlOk (flPut f v p) := by
  unfold flFull at hn
  simp only [decide_eq_false_iff_not] at hn
  have h1 := h.s64
  have h2 := h.f64
  refine ⟨h.most, ?_, h.r64, ?_, h2, fun q hq => ?_⟩
  · show ((f.L ++ [p]).length : Int) ≤ f.most
    rw [List.length_append]; simp; omega
  · show (if f.L.length = 0 then max v f.fin else f.start) < _
    split <;> omega
  · rcases List.mem_append.1 hq with hq | hq
    · exact h.lens q hq
    · simp only [List.mem_cons, List.not_mem_nil, or_false] at hq; rw [hq]; exact hp
theorem FlOk.take {f : Fl} (h : FlOk f) (p : Pk) : FlOk (flTake f p) :=
  ⟨h.most, by have := h.len; show (f.L.tail.length : Int) ≤ f.most; rw [List.length_tail]; omega, h.r64, addT_lt _ _, addT_lt _ _, fun q hq => h.lens q (List.mem_of_mem_tail hq)⟩

/-! ### In memory -/
structure Ent where
  b : Nat
  f : Fl
  ao : Option Addr
  cap : Nat
def entB (e : Ent) : List Nat := e.b :: blkO e.ao
structure EntAt (w : World) (e : Ent) : Prop where
  blk : Blk w e.b 123 [.int .i64 e.f.id, .int .i64 e.f.most, .int .u64 e.f.r, .slice e.ao e.f.L.length e.cap, .int .u64 e.f.start, .int .u64 e.f.fin]
  row : RowO w 54 3 e.ao e.f.L.length e.cap (e.f.L.flatMap pkVs)
  d : e.b ∉ blkO e.ao
  ok : FlOk e.f
theorem EntAt.upd {S : List Nat} {w w' : World} {e : Ent} (h : EntAt w e) (hu : Upd S w w') (hs : ∀ c ∈ entB e, c ∉ S) : EntAt w' e :=
  { h with blk := h.blk.upd hu (hs e.b (by simp [entB])), row := h.row.upd hu (fun c hc => hs c (by simp [entB, hc])) }
theorem EntAt.lt {w : World} {e : Ent} (h : EntAt w e) : ∀ c ∈ entB e, c < w.heap.size := by
  intro c hc
  rcases List.mem_cons.1 hc with rfl | hc
  · exact h.blk.lt
  · exact h.row.lt c hc
theorem EntAt.cells {w : World} {e : Ent} (h : EntAt w e) : w.cell? ⟨e.b, 0, none⟩ = some (.int .i64 e.f.id) ∧ w.cell? ⟨e.b, 1, none⟩ = some (.int .i64 e.f.most) ∧ w.cell? ⟨e.b, 2, none⟩ = some (.int .u64 e.f.r) ∧ w.cell? ⟨e.b, 3, none⟩ = some (.slice e.ao e.f.L.length e.cap) ∧ w.cell? ⟨e.b, 4, none⟩ = some (.int .u64 e.f.start) ∧ w.cell? ⟨e.b, 5, none⟩ = some (.int .u64 e.f.fin) ∧ e.b < w.heap.size :=
  ⟨h.blk.cell (j := 0) rfl, h.blk.cell (j := 1) rfl, h.blk.cell (j := 2) rfl, h.blk.cell (j := 3) rfl, h.blk.cell (j := 4) rfl, h.blk.cell (j := 5) rfl, h.blk.lt⟩
theorem underlyingPks : Tryz.prog.underlying 48 = some (.slice 54) := by kernel_rfl
theorem infoPk : (Tryz.prog.info? 54).map (fun i => (i.zero, i.size, i.bytes)) = some (some (.agg #[.int .i64 0, .int .i64 0, .int .i64 0]), 3, 24) := by kernel_rfl

/-- What a deed on a flow leaves. -/
def EntTo (w : World) (e : Ent) (f' : Fl) (w' : World) : Prop := ∃ ao cap, EntAt w' ⟨e.b, f', ao, cap⟩ ∧ (∀ c ∈ blkO ao, c ∈ blkO e.ao ∨ w.heap.size ≤ c) ∧ Upd [e.b] w w'
end Go.Proofs.YtfeobcmcellcpaaGreat

/-! Fb -/
namespace Go.Proofs.YtfeobcmcellcpaaGreat
open Go.RowKit

theorem flnew_any (id : Int) (r : Nat) (hr : r < 18446744073709551616) (most : Int) (w : World) :
    Calls Tryz.prog 131 #[.int .i64 id, .int .u64 r, .int .i64 most] w (fun en w' => en = .returned (.pointer (some ⟨w.heap.size, 0, none⟩)) ∧ EntAt w' ⟨w.heap.size, flNew id r most, none, 0⟩ ∧ Upd [] w w') := by
  have hm := heldMost_bd most
  obtain ⟨q, hq⟩ : ∃ q, heldMost most = q := ⟨_, rfl⟩
  have HQ := Lib.hid hq
  have hq2 : min (max most 1) 8 = q := hq
  have hq3 : Min.min (Max.max most 1) 8 = q := hq
  clear hq hm
  go_enter Tryz.func131, Tryz.ntmps131
  go_wp2
  go_ret
  refine ⟨rfl, { blk := ?_, row := RowO.nil _ _ _, d := by simp [blkO], ok := FlOk.new id hr most }, (Upd.refl [] w).alloc _⟩
  have := Blk.new w 123 [.int .i64 id, .int .i64 q, .int .u64 r, .slice none 0 0, .int .u64 0, .int .u64 0]
  simp only [flNew, HQ.out, List.length_nil]
  exact this

/-- The array is put into the flow. -/
theorem ent_done {w w5 : World} {e : Ent} (h : EntAt w e) {f' : Fl} {st fi : Nat} {old : Value} {n' : Nat} {ao2 : Option Addr} {cap2 : Nat} (hU : Upd [e.b] w w5)
    (hB : Blk w5 e.b 123 [.int .i64 e.f.id, .int .i64 e.f.most, .int .u64 e.f.r, old, .int .u64 st, .int .u64 fi]) (hR : RowO w5 54 3 ao2 n' cap2 (f'.L.flatMap pkVs)) (hn : f'.L.length = n') (hf : ∀ c ∈ blkO ao2, w.heap.size ≤ c)
    (h1 : f'.id = e.f.id) (h2 : f'.most = e.f.most) (h3 : f'.r = e.f.r) (h4 : f'.start = st) (h5 : f'.fin = fi) (hok : FlOk f') {w6 : World} (h6 : Upd [] (w5.setCell ⟨e.b, 3, none⟩ (.slice ao2 n' cap2)) w6) : EntTo w e f' w6 := by
  have hbn : e.b ∉ blkO ao2 := fun c => by have := hf _ c; have := h.blk.lt; omega
  have u1 : Upd [e.b] w5 (w5.setCell ⟨e.b, 3, none⟩ (.slice ao2 n' cap2)) := (Upd.refl [e.b] w5).setCell (.inl (by simp)) _
  refine ⟨ao2, cap2, { blk := ?_, row := ?_, d := hbn, ok := hok }, fun c hc => .inr (hf c hc), hU.trans (u1.trans h6.nil)⟩
  · have := (hB.set 3 (.slice ao2 n' cap2)).upd h6 (by simp)
    simp only [h1, h2, h3, h4, h5, hn]
    exact this
  · simp only [hn]
    exact ((hR.upd u1 (fun c hc e2 => by simp only [List.mem_cons, List.not_mem_nil, or_false] at e2; exact hbn (e2 ▸ hc))).upd h6 (by simp))

set_option maxRecDepth 100000 in
set_option maxHeartbeats 16000000 in
theorem EntAt.arrive {w : World} {e : Ent} (h : EntAt w e) (v : Nat) (hv : v < 18446744073709551616) (p : Pk) (hp : p.len < 9223372036854775808) :
    Calls Tryz.prog 112 #[.pointer (some ⟨e.b, 0, none⟩), .int .u64 v, .agg #[.int .i64 p.flow, .int .i64 p.len, .int .i64 p.mark]] w (fun en w' => en = .returned (.bool (!flFull e.f)) ∧ EntTo w e (if flFull e.f = true then e.f else flPut e.f v p) w') := by
  have HH := Lib.hid h
  obtain ⟨c0, c1, c2, c3, c4, c5, lb⟩ := h.cells
  obtain ⟨n, hn⟩ : ∃ n, e.f.L.length = n := ⟨_, rfl⟩
  have HN := Lib.hid hn
  have hmo := h.ok.most
  have hle := h.ok.len
  obtain ⟨q, hq⟩ : ∃ q, e.f.most = q := ⟨_, rfl⟩
  rw [hn] at c3 hle
  rw [hq] at c1 hmo hle
  have HQ := Lib.hid hq
  have HPL := Lib.hid hp
  have HV := Lib.hid hv
  clear h hn hq hp hv
  by_cases hfull : q ≤ (n : Int)
  · have HF : Hid (flFull e.f = true) := by unfold Hid flFull; rw [HN.out, HQ.out]; simp [hfull]
    have t1 : decide (q ≤ (n : Int)) = true := by simp [hfull]
    rw [HF.out]
    go_enter Tryz.func112, Tryz.ntmps112
    go_wp2_with fail
    go_quiet (fail)
    go_wp2
    go_ret
    refine ⟨rfl, e.ao, e.cap, ?_, fun c hc => .inl hc, ((Upd.refl [e.b] w).alloc _).drewN _⟩
    exact HH.out.upd (((Upd.refl [] w).alloc (.cells #[.int .i64 p.flow, .int .i64 p.len, .int .i64 p.mark] 54)).drewN _) (by simp)
  · have HF : Hid (flFull e.f = false) := by unfold Hid flFull; rw [HN.out, HQ.out]; simp; omega
    have t1 : decide (q ≤ (n : Int)) = false := by simp; omega
    have hn8 : n < 8 := by omega
    have HOK := Lib.hid (HH.out.ok.put HF.out HV.out HPL.out)
    rw [HF.out]
    simp only [Bool.false_eq_true, if_false, Bool.not_false]
    obtain ⟨wa, hwa⟩ : ∃ x, w.alloc (.cells #[.int .i64 p.flow, .int .i64 p.len, .int .i64 p.mark] 54) = x := ⟨_, rfl⟩
    have hUa : Upd [] w wa := by rw [← hwa]; exact (Upd.refl [] w).alloc _
    have hBx : Blk wa w.heap.size 54 (pkVs p) := by rw [← hwa]; exact Blk.new w 54 (pkVs p)
    have HEA := Lib.hid (HH.out.upd hUa (by simp))
    have HUA := Lib.hid hUa
    have HBA := Lib.hid hBx
    have nbx : w.heap.size ≠ e.b := by omega
    clear hUa hBx hle hmo c0 c1 c2 c3 c4 c5 lb
    obtain ⟨-, c1, -, c3, -, c5, lb⟩ := HEA.out.cells
    rw [HN.out] at c3
    rw [HQ.out] at c1
    by_cases h0 : n = 0
    · have HST : Hid ((flPut e.f v p).start = max v e.f.fin) := by unfold Hid flPut; rw [HN.out, if_pos h0]
      subst h0
      go_enter Tryz.func112, Tryz.ntmps112
      go_wp2_with fail
      go_quiet (fail)
      have HEQ := Lib.hid (HEA.out.upd ((Upd.refl [] wa).drewN nq) (by simp))
      have HBQ := Lib.hid (HBA.out.upd ((Upd.refl [] wa).drewN nq) (by simp))
      have HUQ : Hid (Upd [] w (wa.drewN nq)) := HUA.out.drewN nq
      obtain ⟨wq, hwq⟩ : ∃ x, wa.drewN nq = x := ⟨_, rfl⟩
      rw [hwq] at HEQ HBQ HUQ ⊢
      clear hwq hwa c1 c3 c5 lb
      obtain ⟨-, -, -, c3, c4, c5, lb⟩ := HEQ.out.cells
      rw [HN.out] at c3
      have z4 := HEQ.out.blk.free 4
      obtain ⟨mx, hmx⟩ : ∃ x, max v e.f.fin = x := ⟨_, rfl⟩
      have hmxi : Max.max (v : Int) (e.f.fin : Int) = (mx : Int) := by omega
      have HMX := Lib.hid hmx
      clear hmx
      go_wp2_with fail
      obtain ⟨wz, hwz⟩ : ∃ x, wq.setCell ⟨e.b, 4, none⟩ (.int .u64 mx) = x := ⟨_, rfl⟩
      have hU4 : Upd [e.b] wq wz := by rw [← hwz]; exact (Upd.refl [e.b] wq).setCell (.inl (by simp)) _
      rw [HMX.out] at HST
      have hmx64 : mx < 18446744073709551616 := by have := HOK.out.s64; rw [HST.out] at this; exact this
      have HEZ : Hid (EntAt wz ⟨e.b, { e.f with start := mx }, e.ao, e.cap⟩) := { blk := by rw [← hwz]; exact HEQ.out.blk.set 4 _, row := HEQ.out.row.upd hU4 (fun c hc e2 => by simp only [List.mem_cons, List.not_mem_nil, or_false] at e2; exact HEQ.out.d (e2 ▸ hc)), d := HEQ.out.d, ok := { HEQ.out.ok with s64 := hmx64 } }
      have HBX := Lib.hid (HBQ.out.upd hU4 (by simpa using nbx))
      have HUZ : Hid (Upd [e.b] w wz) := HUQ.out.nil.trans hU4
      rw [hwz]
      clear hwz hU4 c3 c4 c5 lb z4 hmxi HMX
      obtain ⟨n, hn0⟩ : ∃ n : Nat, 0 = n := ⟨_, rfl⟩
      rw [hn0] at HN
      have hle8 : n < 8 := by omega
      clear hn0
      obtain ⟨i0, hi0, hz0, hz1, hz2⟩ := info_parts infoPk
      have HROW : Hid (RowO wz 54 3 e.ao n e.cap (e.f.L.flatMap pkVs)) := by have := HEZ.out.row; rw [← HN.out]; exact this
      have HSRC : Hid (∀ w', Upd [] wz w' → Src w' 3 e.ao n (e.f.L.flatMap pkVs)) := fun w' hu => all_srcG pkVs 3 pkVs_len pkVs_one (HROW.out.upd hu (by simp)) HN.out
      have HG1 : Hid (0 + n ≤ maxLen ∧ (0 + n) * 24 ≤ 140737488355328 ∧ n + 1 ≤ maxLen ∧ (n + 1) * 24 ≤ 140737488355328) := ⟨by unfold maxLen; omega, by omega, by unfold maxLen; omega, by omega⟩
      have y0 := HBX.out.cell (j := 0) rfl
      have y1 := HBX.out.cell (j := 1) rfl
      have y2 := HBX.out.cell (j := 2) rfl
      have lbx := HBX.out.lt
      have c3 : wz.cell? ⟨e.b, 3, none⟩ = some (.slice e.ao n e.cap) := by rw [← HN.out]; exact HEZ.out.cells.2.2.2.1
      have lb : e.b < wz.heap.size := HEZ.out.blk.lt
      go_region_law
        (first
        | (refine step_app2 _ (by rfl) _ _ _ (by rfl) 54 i0 _ 3 24 underlyingPks hi0 hz0 hz1 hz2 rfl (by omega) none 0 0 [] (by rfl) (RowO.nil _ _ _) e.ao n e.cap (e.f.L.flatMap pkVs) (by rfl) (HSRC.out _ (Upd.refl [] wz).drew) HG1.out.1 HG1.out.2.1 ?_; intro ao1 cap1 w3 hA1; have HU3 : Hid (Upd [] wz w3) := ((Upd.refl [] wz).drew).trans hA1.upd; have hB3 := HBX.out.upd HU3.out (by simp); have y0 := hB3.cell (j := 0) rfl; have y1 := hB3.cell (j := 1) rfl; have y2 := hB3.cell (j := 2) rfl; have lbx3 := hB3.lt; have HR1 : Hid (RowO w3 54 3 ao1 n cap1 (e.f.L.flatMap pkVs)) := (by have := hA1.row; rw [Nat.zero_add, List.nil_append] at this; exact this); have HA1 := Lib.hid hA1; clear hA1 hB3)
        | (refine step_app2 _ (by rfl) _ _ _ (by rfl) 54 i0 _ 3 24 underlyingPks hi0 hz0 hz1 hz2 rfl (by omega) none 0 0 [] (by rfl) (RowO.nil _ _ _) e.ao n e.cap (e.f.L.flatMap pkVs) (by rfl) (HSRC.out _ ((Upd.refl [] wz).alloc (.cells #[.int .i64 p.flow, .int .i64 p.len, .int .i64 p.mark] 54)).drew) HG1.out.1 HG1.out.2.1 ?_; intro ao1 cap1 w3 hA1; have HU3 : Hid (Upd [] wz w3) := (((Upd.refl [] wz).alloc _).drew).trans hA1.upd; have HS3 : Hid (Src w3 3 (some ⟨wz.heap.size, 0, none⟩) 1 (pkVs p)) := (one_src wz 54 (pkVs p) (pkVs_one p) 3 rfl).drew.upd hA1.upd (fun ad h => by cases h; exact ⟨rfl, by simp [blkO], by simp⟩); have hB3 := HBX.out.upd HU3.out (by simp); have y0 := hB3.cell (j := 0) rfl; have y1 := hB3.cell (j := 1) rfl; have y2 := hB3.cell (j := 2) rfl; have lbx3 := hB3.lt; have HR1 : Hid (RowO w3 54 3 ao1 n cap1 (e.f.L.flatMap pkVs)) := (by have := hA1.row; rw [Nat.zero_add, List.nil_append] at this; exact this); have HA1 := Lib.hid hA1; clear hA1 hB3)
        | (refine step_app2 _ (by rfl) _ _ _ (by rfl) 54 i0 _ 3 24 underlyingPks hi0 hz0 hz1 hz2 rfl (by omega) ao1 n cap1 _ (by rfl) (HR1.out.upd ((Upd.refl [] w3).alloc (.cells #[.int .i64 p.flow, .int .i64 p.len, .int .i64 p.mark] 54)) (by simp)) (some ⟨w3.heap.size, 0, none⟩) 1 1 (pkVs p) (by rfl) (one_src w3 54 (pkVs p) (pkVs_one p) 3 rfl) HG1.out.2.2.1 HG1.out.2.2.2 ?_; intro ao2 cap2 w5 hA2; have HF5 : Hid (∀ c ∈ blkO ao2, w.heap.size ≤ c) := (fun c hc => by (have := HUZ.out.size); (have := HU3.out.size); rcases hA2.at_ c hc with h | h; (rcases HA1.out.at_ c h with h | h; (cases h); (simp at h; omega)); (simp at h; omega)); have HU5 : Hid (Upd [] wz w5) := HU3.out.then (((Upd.refl (blkO ao1) w3).alloc _).trans hA2.upd) (fun _ _ h => h) (fun i hi hm => by rcases HA1.out.at_ i hm with h | h; (cases h); (simp at h; omega)); have hB5 := HEZ.out.blk.upd HU5.out (by simp); have e5 := hB5.cell (j := 3) rfl; have z5 := hB5.free 3; have lb5 := hB5.lt; have HA2 := Lib.hid hA2; have HB5 := Lib.hid hB5; clear hA2 hB5)
        | (refine step_app2 _ (by rfl) _ _ _ (by rfl) 54 i0 _ 3 24 underlyingPks hi0 hz0 hz1 hz2 rfl (by omega) ao1 n cap1 _ (by rfl) HR1.out (some ⟨wz.heap.size, 0, none⟩) 1 1 (pkVs p) (by rfl) HS3.out HG1.out.2.2.1 HG1.out.2.2.2 ?_; intro ao2 cap2 w5 hA2; have HF5 : Hid (∀ c ∈ blkO ao2, w.heap.size ≤ c) := (fun c hc => by (have := HUZ.out.size); (have := HU3.out.size); rcases hA2.at_ c hc with h | h; (rcases HA1.out.at_ c h with h | h; (cases h); (simp at h; omega)); omega); have HU5 : Hid (Upd [] wz w5) := HU3.out.then hA2.upd (fun _ _ h => h) (fun i hi hm => by rcases HA1.out.at_ i hm with h | h; (cases h); (simp at h; omega)); have hB5 := HEZ.out.blk.upd HU5.out (by simp); have e5 := hB5.cell (j := 3) rfl; have z5 := hB5.free 3; have lb5 := hB5.lt; have HA2 := Lib.hid hA2; have HB5 := Lib.hid hB5; clear hA2 hB5))
      all_goals
        go_wp2
        go_ret
        refine ⟨rfl, ent_done (f' := flPut e.f v p) HH.out (HUZ.out.trans HU5.out.nil) HB5.out (by have := HA2.out.row; rw [show pkVs p = [p].flatMap pkVs by simp, ← List.flatMap_append] at this; exact this) ?_ HF5.out rfl rfl rfl HST.out rfl HOK.out (Upd.refl [] _)⟩
        show (e.f.L ++ [p]).length = _
        rw [List.length_append, HN.out, List.length_singleton]
    · have HST : Hid ((flPut e.f v p).start = e.f.start) := by unfold Hid flPut; rw [HN.out, if_neg h0]
      have t2 : (n == 0) = false := by simp [h0]
      have t3 : ((n : Int) == 0) = false := by simp; omega
      go_enter Tryz.func112, Tryz.ntmps112
      go_wp2_with fail
      go_quiet (fail)
      go_wp2_with fail
      obtain ⟨wz, hwz⟩ : ∃ x, wa.drewN nq = x := ⟨_, rfl⟩
      have HEZ : Hid (EntAt wz ⟨e.b, { e.f with start := e.f.start }, e.ao, e.cap⟩) := by rw [← hwz]; exact HEA.out.upd ((Upd.refl [] wa).drewN nq) (by simp)
      have HBX : Hid (Blk wz w.heap.size 54 (pkVs p)) := by rw [← hwz]; exact HBA.out.upd ((Upd.refl [] wa).drewN nq) (by simp)
      have HUZ : Hid (Upd [e.b] w wz) := by rw [← hwz]; exact (HUA.out.drewN nq).nil
      rw [hwz]
      clear hwz hwa c1 c3 c5 lb
      obtain ⟨i0, hi0, hz0, hz1, hz2⟩ := info_parts infoPk
      have HROW : Hid (RowO wz 54 3 e.ao n e.cap (e.f.L.flatMap pkVs)) := by have := HEZ.out.row; rw [← HN.out]; exact this
      have HSRC : Hid (∀ w', Upd [] wz w' → Src w' 3 e.ao n (e.f.L.flatMap pkVs)) := fun w' hu => all_srcG pkVs 3 pkVs_len pkVs_one (HROW.out.upd hu (by simp)) HN.out
      have HG1 : Hid (0 + n ≤ maxLen ∧ (0 + n) * 24 ≤ 140737488355328 ∧ n + 1 ≤ maxLen ∧ (n + 1) * 24 ≤ 140737488355328) := ⟨by unfold maxLen; omega, by omega, by unfold maxLen; omega, by omega⟩
      have y0 := HBX.out.cell (j := 0) rfl
      have y1 := HBX.out.cell (j := 1) rfl
      have y2 := HBX.out.cell (j := 2) rfl
      have lbx := HBX.out.lt
      have c3 : wz.cell? ⟨e.b, 3, none⟩ = some (.slice e.ao n e.cap) := by rw [← HN.out]; exact HEZ.out.cells.2.2.2.1
      have lb : e.b < wz.heap.size := HEZ.out.blk.lt
      go_region_law
        (first
        | (refine step_app2 _ (by rfl) _ _ _ (by rfl) 54 i0 _ 3 24 underlyingPks hi0 hz0 hz1 hz2 rfl (by omega) none 0 0 [] (by rfl) (RowO.nil _ _ _) e.ao n e.cap (e.f.L.flatMap pkVs) (by rfl) (HSRC.out _ (Upd.refl [] wz).drew) HG1.out.1 HG1.out.2.1 ?_; intro ao1 cap1 w3 hA1; have HU3 : Hid (Upd [] wz w3) := ((Upd.refl [] wz).drew).trans hA1.upd; have hB3 := HBX.out.upd HU3.out (by simp); have y0 := hB3.cell (j := 0) rfl; have y1 := hB3.cell (j := 1) rfl; have y2 := hB3.cell (j := 2) rfl; have lbx3 := hB3.lt; have HR1 : Hid (RowO w3 54 3 ao1 n cap1 (e.f.L.flatMap pkVs)) := (by have := hA1.row; rw [Nat.zero_add, List.nil_append] at this; exact this); have HA1 := Lib.hid hA1; clear hA1 hB3)
        | (refine step_app2 _ (by rfl) _ _ _ (by rfl) 54 i0 _ 3 24 underlyingPks hi0 hz0 hz1 hz2 rfl (by omega) none 0 0 [] (by rfl) (RowO.nil _ _ _) e.ao n e.cap (e.f.L.flatMap pkVs) (by rfl) (HSRC.out _ ((Upd.refl [] wz).alloc (.cells #[.int .i64 p.flow, .int .i64 p.len, .int .i64 p.mark] 54)).drew) HG1.out.1 HG1.out.2.1 ?_; intro ao1 cap1 w3 hA1; have HU3 : Hid (Upd [] wz w3) := (((Upd.refl [] wz).alloc _).drew).trans hA1.upd; have HS3 : Hid (Src w3 3 (some ⟨wz.heap.size, 0, none⟩) 1 (pkVs p)) := (one_src wz 54 (pkVs p) (pkVs_one p) 3 rfl).drew.upd hA1.upd (fun ad h => by cases h; exact ⟨rfl, by simp [blkO], by simp⟩); have hB3 := HBX.out.upd HU3.out (by simp); have y0 := hB3.cell (j := 0) rfl; have y1 := hB3.cell (j := 1) rfl; have y2 := hB3.cell (j := 2) rfl; have lbx3 := hB3.lt; have HR1 : Hid (RowO w3 54 3 ao1 n cap1 (e.f.L.flatMap pkVs)) := (by have := hA1.row; rw [Nat.zero_add, List.nil_append] at this; exact this); have HA1 := Lib.hid hA1; clear hA1 hB3)
        | (refine step_app2 _ (by rfl) _ _ _ (by rfl) 54 i0 _ 3 24 underlyingPks hi0 hz0 hz1 hz2 rfl (by omega) ao1 n cap1 _ (by rfl) (HR1.out.upd ((Upd.refl [] w3).alloc (.cells #[.int .i64 p.flow, .int .i64 p.len, .int .i64 p.mark] 54)) (by simp)) (some ⟨w3.heap.size, 0, none⟩) 1 1 (pkVs p) (by rfl) (one_src w3 54 (pkVs p) (pkVs_one p) 3 rfl) HG1.out.2.2.1 HG1.out.2.2.2 ?_; intro ao2 cap2 w5 hA2; have HF5 : Hid (∀ c ∈ blkO ao2, w.heap.size ≤ c) := (fun c hc => by (have := HUZ.out.size); (have := HU3.out.size); rcases hA2.at_ c hc with h | h; (rcases HA1.out.at_ c h with h | h; (cases h); (simp at h; omega)); (simp at h; omega)); have HU5 : Hid (Upd [] wz w5) := HU3.out.then (((Upd.refl (blkO ao1) w3).alloc _).trans hA2.upd) (fun _ _ h => h) (fun i hi hm => by rcases HA1.out.at_ i hm with h | h; (cases h); (simp at h; omega)); have hB5 := HEZ.out.blk.upd HU5.out (by simp); have e5 := hB5.cell (j := 3) rfl; have z5 := hB5.free 3; have lb5 := hB5.lt; have HA2 := Lib.hid hA2; have HB5 := Lib.hid hB5; clear hA2 hB5)
        | (refine step_app2 _ (by rfl) _ _ _ (by rfl) 54 i0 _ 3 24 underlyingPks hi0 hz0 hz1 hz2 rfl (by omega) ao1 n cap1 _ (by rfl) HR1.out (some ⟨wz.heap.size, 0, none⟩) 1 1 (pkVs p) (by rfl) HS3.out HG1.out.2.2.1 HG1.out.2.2.2 ?_; intro ao2 cap2 w5 hA2; have HF5 : Hid (∀ c ∈ blkO ao2, w.heap.size ≤ c) := (fun c hc => by (have := HUZ.out.size); (have := HU3.out.size); rcases hA2.at_ c hc with h | h; (rcases HA1.out.at_ c h with h | h; (cases h); (simp at h; omega)); omega); have HU5 : Hid (Upd [] wz w5) := HU3.out.then hA2.upd (fun _ _ h => h) (fun i hi hm => by rcases HA1.out.at_ i hm with h | h; (cases h); (simp at h; omega)); have hB5 := HEZ.out.blk.upd HU5.out (by simp); have e5 := hB5.cell (j := 3) rfl; have z5 := hB5.free 3; have lb5 := hB5.lt; have HA2 := Lib.hid hA2; have HB5 := Lib.hid hB5; clear hA2 hB5))
      all_goals
        go_wp2
        go_ret
        refine ⟨rfl, ent_done (f' := flPut e.f v p) HH.out (HUZ.out.trans HU5.out.nil) HB5.out (by have := HA2.out.row; rw [show pkVs p = [p].flatMap pkVs by simp, ← List.flatMap_append] at this; exact this) ?_ HF5.out rfl rfl rfl HST.out rfl HOK.out (Upd.refl [] _)⟩
        show (e.f.L ++ [p]).length = _
        rw [List.length_append, HN.out, List.length_singleton]
end Go.Proofs.YtfeobcmcellcpaaGreat

/-! Fc -/
namespace Go.Proofs.YtfeobcmcellcpaaGreat
open Go.RowKit

def pkV (p : Pk) : Value := .agg #[.int .i64 p.flow, .int .i64 p.len, .int .i64 p.mark]

/-- What Serve tells. -/
def serveV (f : Fl) : Value := match f.L with
  | [] => .tuple #[pkV zPk, .int .u64 0, .bool false]
  | p :: _ => .tuple #[pkV p, .int .u64 (flFin f p), .bool true]
def serveF (f : Fl) : Fl := match f.L with
  | [] => f
  | p :: _ => flTake f p

set_option maxRecDepth 100000 in
set_option maxHeartbeats 16000000 in
theorem EntAt.serve {w : World} {e : Ent} (h : EntAt w e) :
    Calls Tryz.prog 132 #[.pointer (some ⟨e.b, 0, none⟩)] w (fun en w' => en = .returned (serveV e.f) ∧ EntTo w e (serveF e.f) w') := by
  have HH := Lib.hid h
  obtain ⟨c0, c1, c2, c3, c4, c5, lb⟩ := h.cells
  cases hL : e.f.L with
  | nil =>
    have HS : Hid (serveV e.f = .tuple #[pkV zPk, .int .u64 0, .bool false] ∧ serveF e.f = e.f) := by unfold Hid serveV serveF; rw [hL]; exact ⟨rfl, rfl⟩
    rw [HS.out.1, HS.out.2]
    rw [hL, List.length_nil] at c3
    clear h hL
    go_enter Tryz.func132, Tryz.ntmps132
    go_wp2_with fail
    refine bodyPost_ret (v := .tuple #[.agg #[.int .i64 0, .int .i64 0, .int .i64 0], .int .u64 0, .bool false]) (by simp [results, Tryz.results132, go_sem]) rfl ?_
    exact ⟨rfl, e.ao, e.cap, HH.out.upd ((Upd.refl [] w).alloc _) (by simp), fun c hc => .inl hc, (Upd.refl [e.b] w).alloc _⟩
  | cons p l =>
    have HS : Hid (serveV e.f = .tuple #[pkV p, .int .u64 (flFin e.f p), .bool true] ∧ serveF e.f = flTake e.f p) := by unfold Hid serveV serveF; rw [hL]; exact ⟨rfl, rfl⟩
    rw [HS.out.1, HS.out.2]
    have hpl : p.len < 9223372036854775808 := h.ok.lens p (by rw [hL]; simp)
    obtain ⟨n, hn⟩ : ∃ n, e.f.L.length = n := ⟨_, rfl⟩
    have hn1 : 0 < n := by rw [← hn, hL]; simp
    have hle := h.ok.len
    have hmo := h.ok.most
    obtain ⟨g, hg, hrow⟩ := h.row.row (by omega)
    have hcap := hrow.parts
    obtain ⟨cur, -, hcap1, hcap2, -, -⟩ := hcap.2
    rw [hn] at c3 hle hrow hcap1
    rw [hg] at c3
    have x0 := hrow.cell (j := 0) (v := .int .i64 p.flow) (by rw [hL, List.flatMap_cons]; rfl)
    have x1 := hrow.cell (j := 1) (v := .int .i64 p.len) (by rw [hL, List.flatMap_cons]; rfl)
    have x2 := hrow.cell (j := 2) (v := .int .i64 p.mark) (by rw [hL, List.flatMap_cons]; rfl)
    have lg := hrow.lt
    have HN := Lib.hid hn
    have HL := Lib.hid hL
    obtain ⟨m, hm⟩ : ∃ m, n - 1 = m := ⟨_, rfl⟩
    obtain ⟨i0, hi0, hz0, hz1, hz2⟩ := info_parts infoPk
    have HSRC : Hid (∀ w' off, Upd [] w w' → (off = 1 * 3 ∨ m = 0) → Src w' 3 (some ⟨g, off, none⟩) m (((e.f.L.drop 1).take m).flatMap pkVs)) := fun w' off hu ho => by
      have := part_srcG pkVs 3 pkVs_len pkVs_one (hrow.o.upd hu (by simp)) hn 1 m (by omega) off ho
      exact this
    have HG1 : Hid (0 + m ≤ maxLen ∧ (0 + m) * 24 ≤ 140737488355328) := ⟨by unfold maxLen; omega, by omega⟩
    obtain ⟨cst, hcst⟩ : ∃ x, mulT (sizeN p.len) e.f.r = x := ⟨_, rfl⟩
    obtain ⟨fin, hfin⟩ : ∃ x, addT e.f.start cst = x := ⟨_, rfl⟩
    have HFIN : Hid (flFin e.f p = fin) := by unfold Hid flFin; rw [hcst, hfin]
    have HC : Hid (∀ w, Calls Tryz.prog 48 #[.int .i64 p.len, .int .u64 e.f.r] w (fun en w' => en = .returned (.int .u64 cst) ∧ w = w')) := fun w => by rw [← hcst]; exact rfcost p.len hpl e.f.r h.ok.r64 w
    have HA : Hid (∀ w, Calls Tryz.prog 81 #[.int .u64 e.f.start, .int .u64 cst] w (fun en w' => en = .returned (.int .u64 fin) ∧ w = w')) := fun w => by rw [← hfin]; exact rfadd e.f.start cst h.ok.s64 (by rw [← hcst]; exact mulT_lt _ _) w
    have b1 : (0 : Int) < (n : Int) := by omega
    have b2 : (1 : Int) ≤ (n : Int) := by omega
    have b3 : 1 ≤ e.cap := by omega
    have t1 : (n == 0) = false := by simp; omega
    have t2 : ((n : Int) == 0) = false := by simp; omega
    have HOK : Hid (FlOk (flTake e.f p)) := h.ok.take p
    rw [HFIN.out]
    clear h hL hn hle hmo hrow hcap hcst hfin hg
    by_cases hce : e.cap = 1
    · have hm0 : m = 0 := by omega
      have HTL : Hid ((flTake e.f p).L.length = 0) := by unfold Hid; show e.f.L.tail.length = 0; rw [List.length_tail, HN.out]; omega
      have HTK : Hid ((flTake e.f p).L = (e.f.L.drop 1).take 0) := by have := List.eq_nil_of_length_eq_zero HTL.out; unfold Hid; rw [this]; rfl
      obtain ⟨wa, hwa⟩ : ∃ x, w.alloc (.cells #[.int .i64 0, .int .i64 0, .int .i64 0] 54) = x := ⟨_, rfl⟩
      obtain ⟨wb, hwb⟩ : ∃ x, wa.alloc (.cells #[.int .i64 p.flow, .int .i64 p.len, .int .i64 p.mark] 54) = x := ⟨_, rfl⟩
      have HUA : Hid (Upd [] w wa) := by rw [← hwa]; exact (Upd.refl [] w).alloc _
      have HUB : Hid (Upd [] wa wb) := by rw [← hwb]; exact (Upd.refl [] wa).alloc _
      have HZ : Hid (Blk wa w.heap.size 54 [.int .i64 0, .int .i64 0, .int .i64 0]) := by rw [← hwa]; exact Blk.new w 54 _
      have HBX : Hid (Blk wb wa.heap.size 54 (pkVs p)) := by rw [← hwb]; exact Blk.new wa 54 (pkVs p)
      obtain ⟨bz, hbz⟩ : ∃ x, w.heap.size = x := ⟨_, rfl⟩
      obtain ⟨bx, hbx⟩ : ∃ x, wa.heap.size = x := ⟨_, rfl⟩
      have HNE : Hid (bz ≠ e.b ∧ bx ≠ e.b ∧ bz ≠ bx ∧ w.heap.size ≤ bz ∧ w.heap.size ≤ bx ∧ bz < wa.heap.size) := by have h1 := HUA.out.size; have h2 := HZ.out.lt; exact ⟨by omega, by omega, by omega, by omega, by omega, by omega⟩
      rw [hbz] at HZ
      rw [hbx] at HBX
      have HEB : Hid (EntAt wb e) := HH.out.upd (HUA.out.trans HUB.out) (by simp)
      have y0 := (HUA.out.cell lg (by simp) 0).trans x0
      have y1 := (HUA.out.cell lg (by simp) 1).trans x1
      have y2 := (HUA.out.cell lg (by simp) 2).trans x2
      have lga := Nat.lt_of_lt_of_le lg HUA.out.size
      have c3a := (HUA.out.cell lb (by simp) 3).trans c3
      have lba := Nat.lt_of_lt_of_le lb HUA.out.size
      have c3b := (HUB.out.cell lba (by simp) 3).trans c3a
      have lbb := Nat.lt_of_lt_of_le lba HUB.out.size
      have c3z := HEB.out.blk.free 3
      go_enter Tryz.func132, Tryz.ntmps132
      go_wp2_with fail
      have HFR : Hid (e.b ∉ blkO (none : Option Addr)) := by unfold Hid; simp [blkO]
      have HFZ : Hid (bz ∉ blkO (none : Option Addr)) := by unfold Hid; simp [blkO]
      have HFN : Hid (∀ c ∈ blkO (none : Option Addr), w.heap.size ≤ c) := fun c hc => (by cases hc)
      have HB3 := Lib.hid HEB.out.blk
      have HR1 : Hid (RowO wb 54 3 none 0 0 (((e.f.L.drop 1).take 0).flatMap pkVs)) := RowO.nil _ _ _
      have HU3 : Hid (Upd [] wb wb) := Upd.refl _ _
      obtain ⟨w4, hw4⟩ : ∃ x, wb.setCell ⟨e.b, 3, none⟩ (.slice none 0 0) = x := ⟨_, rfl⟩
      have hu4 : Upd [e.b] wb w4 := by rw [← hw4]; exact (Upd.refl [e.b] wb).setCell (.inl (by simp)) _
      have HB4 : Hid (Blk w4 e.b 123 [.int .i64 e.f.id, .int .i64 e.f.most, .int .u64 e.f.r, .slice none 0 0, .int .u64 e.f.start, .int .u64 e.f.fin]) := by rw [← hw4]; exact HB3.out.set 3 _
      have HU4 : Hid (Upd [e.b] w w4) := ((HUA.out.trans HUB.out).trans HU3.out).nil.trans hu4
      have HBX4 := Lib.hid ((HBX.out.upd HU3.out (by simp)).upd hu4 (by simpa using HNE.out.2.1))
      have HZ4 := Lib.hid (((HZ.out.upd HUB.out (by simp)).upd HU3.out (by simp)).upd hu4 (by simpa using HNE.out.1))
      have HR4 := Lib.hid (HR1.out.upd hu4 (fun c hc e2 => by simp only [List.mem_cons, List.not_mem_nil, or_false] at e2; exact HFR.out (e2 ▸ hc)))
      rw [hw4]
      clear hw4 hu4
      have d2 := HB4.out.cell (j := 2) rfl
      have d4 := HB4.out.cell (j := 4) rfl
      have d5 := HB4.out.cell (j := 5) rfl
      have z4 := HB4.out.free 4
      have z5 := HB4.out.free 5
      have lb4 := HB4.out.lt
      have v1 := HBX4.out.cell (j := 1) rfl
      have lx4 := HBX4.out.lt
      clear c0 c1 c2 c3 c4 c5 c3a c3b y0 y1 y2 x0 x1 x2 lba lbb lb lga lg
      refine wp_region_tail 15 (by kernel_rfl) (by kernel_rfl) ?_
      simp only [List.take_succ_cons, List.take_zero, List.drop_succ_cons, List.drop_zero]
      repeat (go_big_quiet_step (fail))
      go_big_quiet_step (exact ((HC.out _).mono (fun _ _ h => ⟨h.1, h.2.symm⟩)) _)
      repeat (go_big_quiet_step (fail))
      go_big_quiet_step (exact ((HA.out _).mono (fun _ _ h => ⟨h.1, h.2.symm⟩)) _)
      repeat (go_big_quiet_step (fail))
      refine wpQuiet_nil ?_
      go_wp2_with fail
      obtain ⟨w5, hw5⟩ : ∃ x, (w4.setCell ⟨e.b, 5, none⟩ (.int .u64 fin)).setCell ⟨e.b, 4, none⟩ (.int .u64 fin) = x := ⟨_, rfl⟩
      have hu5 : Upd [e.b] w4 w5 := by rw [← hw5]; exact ((Upd.refl [e.b] w4).setCell (.inl (by simp)) _).setCell (.inl (by simp)) _
      have HB5 : Hid (Blk w5 e.b 123 [.int .i64 e.f.id, .int .i64 e.f.most, .int .u64 e.f.r, .slice none 0 0, .int .u64 fin, .int .u64 fin]) := by rw [← hw5]; exact (HB4.out.set 5 _).set 4 _
      have HU5 : Hid (Upd [e.b] w w5) := HU4.out.trans hu5
      have hx5 := HBX4.out.upd hu5 (by simpa using HNE.out.2.1)
      have HZ5 := Lib.hid (HZ4.out.upd hu5 (by simpa using HNE.out.1))
      have HR5 := Lib.hid (HR4.out.upd hu5 (fun c hc e2 => by simp only [List.mem_cons, List.not_mem_nil, or_false] at e2; exact HFR.out (e2 ▸ hc)))
      rw [hw5]
      clear hw5 hu5 d2 d4 d5 z4 z5 lb4 v1 lx4
      have d5 := HB5.out.cell (j := 5) rfl
      have lb5 := HB5.out.lt
      have v0 := hx5.cell (j := 0) rfl
      have v1 := hx5.cell (j := 1) rfl
      have v2 := hx5.cell (j := 2) rfl
      have lx5 := hx5.lt
      have q0 := HZ5.out.cell (j := 0) rfl
      have q1 := HZ5.out.cell (j := 1) rfl
      have q2 := HZ5.out.cell (j := 2) rfl
      have p0 := HZ5.out.free 0
      have p1 := HZ5.out.free 1
      have p2 := HZ5.out.free 2
      have lz5 := HZ5.out.lt
      clear hx5
      go_region
      all_goals
        go_wp2_with fail
        refine bodyPost_ret (v := .tuple #[.agg #[.int .i64 p.flow, .int .i64 p.len, .int .i64 p.mark], .int .u64 fin, .bool true]) (by simp [results, Tryz.results132, go_sem, q0, q1, q2]) rfl ?_
        have u6 : Upd [bz] w5 ((((w5.setCell ⟨bz, 0, none⟩ (.int .i64 p.flow)).setCell ⟨bz, 1, none⟩ (.int .i64 p.len)).setCell ⟨bz, 2, none⟩ (.int .i64 p.mark)).drew.drew) := ((((Upd.refl [bz] w5).setCell (.inl (by simp)) _).setCell (.inl (by simp)) _).setCell (.inl (by simp)) _).drew.drew
        refine ⟨rfl, none, 0, { blk := ?_, row := ?_, d := HFR.out, ok := HOK.out }, fun c hc => .inr (HFN.out c hc), HU5.out.then u6 (fun _ _ h => h) (fun i hi hm => by simp only [List.mem_cons, List.not_mem_nil, or_false] at hm; have := HNE.out.2.2.2.1; omega)⟩
        · have := HB5.out.upd u6 (by simp only [List.mem_cons, List.not_mem_nil, or_false]; exact fun h => HNE.out.1 h.symm)
          rw [show (flTake e.f p).L.length = 0 from HTL.out, show (flTake e.f p).start = fin from HFIN.out, show (flTake e.f p).fin = fin from HFIN.out]
          exact this
        · rw [show (flTake e.f p).L.length = 0 from HTL.out, show (flTake e.f p).L = (e.f.L.drop 1).take 0 from HTK.out]
          exact HR5.out.upd u6 (fun c hc e2 => by simp only [List.mem_cons, List.not_mem_nil, or_false] at e2; exact HFZ.out (e2 ▸ hc))
    · have hce2 : (e.cap == 1) = false := by simp [hce]
      have HTL : Hid ((flTake e.f p).L.length = m) := by unfold Hid; show e.f.L.tail.length = m; rw [List.length_tail, HN.out]; omega
      have HTK : Hid ((flTake e.f p).L = (e.f.L.drop 1).take m) := by
        unfold Hid; show e.f.L.tail = _
        rw [← List.drop_one, List.take_of_length_le (by rw [List.length_drop, HN.out]; omega)]
      obtain ⟨wa, hwa⟩ : ∃ x, w.alloc (.cells #[.int .i64 0, .int .i64 0, .int .i64 0] 54) = x := ⟨_, rfl⟩
      obtain ⟨wb, hwb⟩ : ∃ x, wa.alloc (.cells #[.int .i64 p.flow, .int .i64 p.len, .int .i64 p.mark] 54) = x := ⟨_, rfl⟩
      have HUA : Hid (Upd [] w wa) := by rw [← hwa]; exact (Upd.refl [] w).alloc _
      have HUB : Hid (Upd [] wa wb) := by rw [← hwb]; exact (Upd.refl [] wa).alloc _
      have HZ : Hid (Blk wa w.heap.size 54 [.int .i64 0, .int .i64 0, .int .i64 0]) := by rw [← hwa]; exact Blk.new w 54 _
      have HBX : Hid (Blk wb wa.heap.size 54 (pkVs p)) := by rw [← hwb]; exact Blk.new wa 54 (pkVs p)
      obtain ⟨bz, hbz⟩ : ∃ x, w.heap.size = x := ⟨_, rfl⟩
      obtain ⟨bx, hbx⟩ : ∃ x, wa.heap.size = x := ⟨_, rfl⟩
      have HNE : Hid (bz ≠ e.b ∧ bx ≠ e.b ∧ bz ≠ bx ∧ w.heap.size ≤ bz ∧ w.heap.size ≤ bx ∧ bz < wa.heap.size) := by have h1 := HUA.out.size; have h2 := HZ.out.lt; exact ⟨by omega, by omega, by omega, by omega, by omega, by omega⟩
      rw [hbz] at HZ
      rw [hbx] at HBX
      have HEB : Hid (EntAt wb e) := HH.out.upd (HUA.out.trans HUB.out) (by simp)
      have y0 := (HUA.out.cell lg (by simp) 0).trans x0
      have y1 := (HUA.out.cell lg (by simp) 1).trans x1
      have y2 := (HUA.out.cell lg (by simp) 2).trans x2
      have lga := Nat.lt_of_lt_of_le lg HUA.out.size
      have c3a := (HUA.out.cell lb (by simp) 3).trans c3
      have lba := Nat.lt_of_lt_of_le lb HUA.out.size
      have c3b := (HUB.out.cell lba (by simp) 3).trans c3a
      have lbb := Nat.lt_of_lt_of_le lba HUB.out.size
      go_enter Tryz.func132, Tryz.ntmps132
      go_wp2_with (at_builtin; (refine wpList_app2 _ (by rfl) _ _ _ (by rfl) 54 i0 _ 3 24 underlyingPks hi0 hz0 hz1 hz2 rfl (by omega) none 0 0 [] (by rfl) (RowO.nil _ _ _) (some ⟨g, 3, none⟩) m _ (((e.f.L.drop 1).take m).flatMap pkVs) (by rfl) (HSRC.out _ 3 (HUA.out.trans HUB.out) (by (left; rfl))) HG1.out.1 HG1.out.2 ?_); (intro ao1 cap1 w3 hA1; have HU3 : Hid (Upd [] wb w3) := hA1.upd; have hB3 := HEB.out.blk.upd HU3.out (by simp); have e3 := hB3.cell (j := 3) rfl; have z3 := hB3.free 3; have lb3 := hB3.lt; have HR1 : Hid (RowO w3 54 3 ao1 m cap1 (((e.f.L.drop 1).take m).flatMap pkVs)) := (by have := hA1.row; rw [Nat.zero_add, List.nil_append] at this; exact this); have HB3 := Lib.hid hB3; have HA1 := Lib.hid hA1; clear hA1 hB3))
      have HFN : Hid (∀ c ∈ blkO ao1, w.heap.size ≤ c) := fun c hc => by rcases HA1.out.at_ _ hc with h | h; (cases h); (have := HUA.out.size; have := HUB.out.size; omega)
      have HFR : Hid (e.b ∉ blkO ao1) := fun hc => by have := HFN.out _ hc; have := HH.out.blk.lt; omega
      have HFZ : Hid (bz ∉ blkO ao1) := fun hc => by rcases HA1.out.at_ _ hc with h | h; (cases h); (have := HNE.out; have := HUB.out.size; omega)
      obtain ⟨w4, hw4⟩ : ∃ x, w3.setCell ⟨e.b, 3, none⟩ (.slice ao1 m cap1) = x := ⟨_, rfl⟩
      have hu4 : Upd [e.b] w3 w4 := by rw [← hw4]; exact (Upd.refl [e.b] w3).setCell (.inl (by simp)) _
      have HB4 : Hid (Blk w4 e.b 123 [.int .i64 e.f.id, .int .i64 e.f.most, .int .u64 e.f.r, .slice ao1 m cap1, .int .u64 e.f.start, .int .u64 e.f.fin]) := by rw [← hw4]; exact HB3.out.set 3 _
      have HU4 : Hid (Upd [e.b] w w4) := ((HUA.out.trans HUB.out).trans HU3.out).nil.trans hu4
      have HBX4 := Lib.hid ((HBX.out.upd HU3.out (by simp)).upd hu4 (by simpa using HNE.out.2.1))
      have HZ4 := Lib.hid (((HZ.out.upd HUB.out (by simp)).upd HU3.out (by simp)).upd hu4 (by simpa using HNE.out.1))
      have HR4 := Lib.hid (HR1.out.upd hu4 (fun c hc e2 => by simp only [List.mem_cons, List.not_mem_nil, or_false] at e2; exact HFR.out (e2 ▸ hc)))
      rw [hw4]
      clear hw4 hu4
      have d2 := HB4.out.cell (j := 2) rfl
      have d4 := HB4.out.cell (j := 4) rfl
      have d5 := HB4.out.cell (j := 5) rfl
      have z4 := HB4.out.free 4
      have z5 := HB4.out.free 5
      have lb4 := HB4.out.lt
      have v1 := HBX4.out.cell (j := 1) rfl
      have lx4 := HBX4.out.lt
      clear c0 c1 c2 c3 c4 c5 c3a c3b y0 y1 y2 x0 x1 x2 lba lbb lb lga lg
      refine wp_region_tail 15 (by kernel_rfl) (by kernel_rfl) ?_
      simp only [List.take_succ_cons, List.take_zero, List.drop_succ_cons, List.drop_zero]
      repeat (go_big_quiet_step (fail))
      go_big_quiet_step (exact ((HC.out _).mono (fun _ _ h => ⟨h.1, h.2.symm⟩)) _)
      repeat (go_big_quiet_step (fail))
      go_big_quiet_step (exact ((HA.out _).mono (fun _ _ h => ⟨h.1, h.2.symm⟩)) _)
      repeat (go_big_quiet_step (fail))
      refine wpQuiet_nil ?_
      go_wp2_with fail
      obtain ⟨w5, hw5⟩ : ∃ x, (w4.setCell ⟨e.b, 5, none⟩ (.int .u64 fin)).setCell ⟨e.b, 4, none⟩ (.int .u64 fin) = x := ⟨_, rfl⟩
      have hu5 : Upd [e.b] w4 w5 := by rw [← hw5]; exact ((Upd.refl [e.b] w4).setCell (.inl (by simp)) _).setCell (.inl (by simp)) _
      have HB5 : Hid (Blk w5 e.b 123 [.int .i64 e.f.id, .int .i64 e.f.most, .int .u64 e.f.r, .slice ao1 m cap1, .int .u64 fin, .int .u64 fin]) := by rw [← hw5]; exact (HB4.out.set 5 _).set 4 _
      have HU5 : Hid (Upd [e.b] w w5) := HU4.out.trans hu5
      have hx5 := HBX4.out.upd hu5 (by simpa using HNE.out.2.1)
      have HZ5 := Lib.hid (HZ4.out.upd hu5 (by simpa using HNE.out.1))
      have HR5 := Lib.hid (HR4.out.upd hu5 (fun c hc e2 => by simp only [List.mem_cons, List.not_mem_nil, or_false] at e2; exact HFR.out (e2 ▸ hc)))
      rw [hw5]
      clear hw5 hu5 d2 d4 d5 z4 z5 lb4 v1 lx4
      have d5 := HB5.out.cell (j := 5) rfl
      have lb5 := HB5.out.lt
      have v0 := hx5.cell (j := 0) rfl
      have v1 := hx5.cell (j := 1) rfl
      have v2 := hx5.cell (j := 2) rfl
      have lx5 := hx5.lt
      have q0 := HZ5.out.cell (j := 0) rfl
      have q1 := HZ5.out.cell (j := 1) rfl
      have q2 := HZ5.out.cell (j := 2) rfl
      have p0 := HZ5.out.free 0
      have p1 := HZ5.out.free 1
      have p2 := HZ5.out.free 2
      have lz5 := HZ5.out.lt
      clear hx5
      go_region
      all_goals
        go_wp2_with fail
        refine bodyPost_ret (v := .tuple #[.agg #[.int .i64 p.flow, .int .i64 p.len, .int .i64 p.mark], .int .u64 fin, .bool true]) (by simp [results, Tryz.results132, go_sem, q0, q1, q2]) rfl ?_
        have u6 : Upd [bz] w5 ((((w5.setCell ⟨bz, 0, none⟩ (.int .i64 p.flow)).setCell ⟨bz, 1, none⟩ (.int .i64 p.len)).setCell ⟨bz, 2, none⟩ (.int .i64 p.mark)).drew.drew) := ((((Upd.refl [bz] w5).setCell (.inl (by simp)) _).setCell (.inl (by simp)) _).setCell (.inl (by simp)) _).drew.drew
        refine ⟨rfl, ao1, cap1, { blk := ?_, row := ?_, d := HFR.out, ok := HOK.out }, fun c hc => .inr (HFN.out c hc), HU5.out.then u6 (fun _ _ h => h) (fun i hi hm => by simp only [List.mem_cons, List.not_mem_nil, or_false] at hm; have := HNE.out.2.2.2.1; omega)⟩
        · have := HB5.out.upd u6 (by simp only [List.mem_cons, List.not_mem_nil, or_false]; exact fun h => HNE.out.1 h.symm)
          rw [show (flTake e.f p).L.length = m from HTL.out, show (flTake e.f p).start = fin from HFIN.out, show (flTake e.f p).fin = fin from HFIN.out]
          exact this
        · rw [show (flTake e.f p).L.length = m from HTL.out, show (flTake e.f p).L = (e.f.L.drop 1).take m from HTK.out]
          exact HR5.out.upd u6 (fun c hc e2 => by simp only [List.mem_cons, List.not_mem_nil, or_false] at e2; exact HFZ.out (e2 ▸ hc))
end Go.Proofs.YtfeobcmcellcpaaGreat

/-! Fr -/
namespace Go.Proofs.YtfeobcmcellcpaaGreat
open Go.RowKit

/-! ### Footprints -/
def Fr (F F' : List Nat) (w w' : World) : Prop := (∀ c ∈ F', c ∈ F ∨ w.heap.size ≤ c) ∧ Upd F w w'
theorem Fr.refl (F : List Nat) (w : World) : Fr F F w w := ⟨fun c hc => .inl hc, Upd.refl _ _⟩
theorem Fr.trans {F F' F'' : List Nat} {w w' w'' : World} (h : Fr F F' w w') (k : Fr F' F'' w' w'') : Fr F F'' w w'' := by
  have hs := h.2.size
  refine ⟨fun c hc => ?_, h.2.then k.2 (fun _ _ e => e) (fun i hi e => ?_)⟩
  · rcases k.1 c hc with e | e
    · exact h.1 c e
    · right; omega
  · rcases h.1 i e with e | e
    · exact e
    · omega
theorem Fr.of {F : List Nat} {w w' : World} (h : Upd [] w w') : Fr F F w w' := ⟨fun c hc => .inl hc, h.nil⟩
theorem Fr.up {F F' : List Nat} {w w' w'' : World} (h : Fr F F' w w') (hu : Upd [] w' w'') : Fr F F' w w'' := h.trans (Fr.of hu)

end Go.Proofs.YtfeobcmcellcpaaGreat

/-! Fd -/
namespace Go.Proofs.YtfeobcmcellcpaaGreat
open Go.RowKit

structure Sf where
  F : List Fl
  v : Nat
  most : Nat
def posF (F : List Fl) (id : Int) : Int := match F.findIdx? (fun f => f.id == id) with
  | some i => i
  | none => -1
theorem posF_at {F : List Fl} {id : Int} {i : Nat} {f : Fl} (hf : F[i]? = some f) (he : f.id = id) (hj : ∀ j g, j < i → F[j]? = some g → g.id ≠ id) : posF F id = i := by
  obtain ⟨hi, he2⟩ := List.getElem?_eq_some_iff.1 hf
  have : F.findIdx? (fun f => f.id == id) = some i := by
    rw [List.findIdx?_eq_some_iff_getElem]
    refine ⟨hi, by rw [he2]; simp [he], fun j hji => ?_⟩
    have := hj j (F[j]'(by omega)) hji (List.getElem?_eq_getElem _)
    simpa using this
  unfold posF; rw [this]
theorem posF_no {F : List Fl} {id : Int} (hj : ∀ j g, j < F.length → F[j]? = some g → g.id ≠ id) : posF F id = -1 := by
  have : F.findIdx? (fun f => f.id == id) = none := by
    rw [List.findIdx?_eq_none_iff]
    intro x hx
    obtain ⟨j, hj', e⟩ := List.getElem_of_mem hx
    have := hj j x hj' (by rw [List.getElem?_eq_getElem hj', e])
    simpa using this
  unfold posF; rw [this]
theorem posF_cases (F : List Fl) (id : Int) : (posF F id = -1 ∧ ∀ f ∈ F, f.id ≠ id) ∨ ∃ (i : Nat) (f : Fl), posF F id = i ∧ F[i]? = some f ∧ f.id = id := by
  by_cases h : ∃ f ∈ F, f.id = id
  · right
    cases hf : F.findIdx? (fun f => f.id == id) with
    | none =>
      rw [List.findIdx?_eq_none_iff] at hf
      obtain ⟨f, h1, h2⟩ := h
      have := hf f h1
      simp [h2] at this
    | some i =>
      have := hf
      rw [List.findIdx?_eq_some_iff_getElem] at this
      obtain ⟨hi, h2, -⟩ := this
      exact ⟨i, F[i], by unfold posF; rw [hf], List.getElem?_eq_getElem hi, by simpa using h2⟩
  · left
    have h2 : ∀ f ∈ F, f.id ≠ id := fun f h1 h3 => h ⟨f, h1, h3⟩
    exact ⟨posF_no (fun j g _ hg => h2 g (List.mem_of_getElem? hg)), h2⟩
def entV (e : Ent) : Value := .pointer (some ⟨e.b, 0, none⟩)
structure SfAt (W w : World) (sb : Nat) (ao : Option Addr) (cap : Nat) (Z : List Ent) (v most : Nat) : Prop where
  blk : Blk w sb 67 [.slice ao Z.length cap, .int .u64 v, .int .u64 most]
  row : RowO w 124 1 ao Z.length cap (Z.map entV)
  ents : ∀ e ∈ Z, EntAt w e
  dis : Z.Pairwise (fun a b => ∀ c ∈ entB a, c ∉ entB b)
  own : ∀ e ∈ Z, ∀ c ∈ entB e, c ≠ sb ∧ c ∉ blkO ao
  d : sb ∉ blkO ao
  new : ∀ c ∈ sb :: blkO ao, W.heap.size ≤ c
  newE : ∀ e ∈ Z, ∀ c ∈ entB e, W.heap.size ≤ c
  srt : Z.Pairwise (fun a b => a.f.id < b.f.id)
  small : Z.length ≤ 1000
  v64 : v < 18446744073709551616
  m64 : most < 18446744073709551616
def sfB (sb : Nat) (ao : Option Addr) (Z : List Ent) : List Nat := sb :: (blkO ao ++ Z.flatMap entB)
section
variable {W w w' : World} {sb : Nat} {ao : Option Addr} {cap : Nat} {Z : List Ent} {v most : Nat}
theorem sfB_ent {e : Ent} (he : e ∈ Z) {c : Nat} (hc : c ∈ entB e) : c ∈ sfB sb ao Z := by
  simp only [sfB, List.mem_cons, List.mem_append, List.mem_flatMap]; exact .inr (.inr ⟨e, he, hc⟩)
theorem SfAt.lt (h : SfAt W w sb ao cap Z v most) : ∀ c ∈ sfB sb ao Z, c < w.heap.size := by
  intro c hc
  simp only [sfB, List.mem_cons, List.mem_append, List.mem_flatMap] at hc
  rcases hc with rfl | hc | ⟨e, he, hc⟩
  · exact h.blk.lt
  · exact h.row.lt c hc
  · exact (h.ents e he).lt c hc
theorem SfAt.newB (h : SfAt W w sb ao cap Z v most) : ∀ c ∈ sfB sb ao Z, W.heap.size ≤ c := by
  intro c hc
  simp only [sfB, List.mem_cons, List.mem_append, List.mem_flatMap] at hc
  rcases hc with rfl | hc | ⟨e, he, hc⟩
  · exact h.new _ (by simp)
  · exact h.new c (by simp [hc])
  · exact h.newE e he c hc
theorem SfAt.updS {S : List Nat} (h : SfAt W w sb ao cap Z v most) (hu : Upd S w w') (hs : ∀ c ∈ sfB sb ao Z, c ∉ S) : SfAt W w' sb ao cap Z v most :=
  { h with
    blk := h.blk.upd hu (hs sb (by simp [sfB]))
    row := h.row.upd hu (fun c hc => hs c (by simp [sfB, hc]))
    ents := fun e he => (h.ents e he).upd hu (fun c hc => hs c (sfB_ent he hc)) }
theorem SfAt.upd (h : SfAt W w sb ao cap Z v most) (hu : Upd [] w w') : SfAt W w' sb ao cap Z v most := h.updS hu (by simp)
theorem SfAt.cells (h : SfAt W w sb ao cap Z v most) : w.cell? ⟨sb, 0, none⟩ = some (.slice ao Z.length cap) ∧ w.cell? ⟨sb, 1, none⟩ = some (.int .u64 v) ∧ w.cell? ⟨sb, 2, none⟩ = some (.int .u64 most) ∧ sb < w.heap.size :=
  ⟨h.blk.cell (j := 0) rfl, h.blk.cell (j := 1) rfl, h.blk.cell (j := 2) rfl, h.blk.lt⟩

/-- Where the i-th flow stands. -/
theorem SfAt.at_ (h : SfAt W w sb ao cap Z v most) {i : Nat} {e : Ent} (he : Z[i]? = some e) : ∃ g, ao = some ⟨g, 0, none⟩ ∧ w.cell? ⟨g, i, none⟩ = some (.pointer (some ⟨e.b, 0, none⟩)) ∧ g < w.heap.size ∧ EntAt w e ∧ i < Z.length := by
  have hi := (List.getElem?_eq_some_iff.1 he).1
  obtain ⟨g, hg, hr⟩ := h.row.row (by omega)
  exact ⟨g, hg, hr.cell (by rw [List.getElem?_map, he]; rfl), hr.lt, h.ents e (List.mem_of_getElem? he), hi⟩

/-- One flow is changed. -/
theorem SfAt.put {i : Nat} {e e' : Ent} (h : SfAt W w sb ao cap Z v most) (he : Z[i]? = some e) (hb : e'.b = e.b) (hid : e'.f.id = e.f.id) (hat : EntAt w' e') (hn : ∀ c ∈ blkO e'.ao, c ∈ blkO e.ao ∨ w.heap.size ≤ c) (hu : Upd [e.b] w w') :
    SfAt W w' sb ao cap (Z.set i e') v most ∧ Fr (sfB sb ao Z) (sfB sb ao (Z.set i e')) w w' := by
  have hm : e ∈ Z := List.mem_of_getElem? he
  have hi := (List.getElem?_eq_some_iff.1 he).1
  have hW : W.heap.size ≤ w.heap.size := by have := h.new sb (by simp); have := h.blk.lt; omega
  have hsub : ∀ c ∈ entB e', c ∈ entB e ∨ w.heap.size ≤ c := fun c hc => by
    rcases List.mem_cons.1 hc with rfl | hc
    · exact .inl (by simp [entB, hb])
    · exact (hn c hc).imp (fun k => by simp [entB, k]) id
  have hother : ∀ j x, j ≠ i → Z[j]? = some x → ∀ c ∈ entB x, c ∉ entB e := fun j x hji hx c hc hce => by
    obtain ⟨hj, rfl⟩ := List.getElem?_eq_some_iff.1 hx
    obtain ⟨_, rfl⟩ := List.getElem?_eq_some_iff.1 he
    rcases Nat.lt_or_ge j i with hlt | hge
    · exact List.pairwise_iff_getElem.1 h.dis j i hj hi hlt c hc hce
    · exact List.pairwise_iff_getElem.1 h.dis i j hi hj (by omega) c hce hc
  have hmem : ∀ x ∈ Z.set i e', x = e' ∨ ∃ j, j ≠ i ∧ Z[j]? = some x := fun x hx => by
    obtain ⟨j, hj, rfl⟩ := List.getElem_of_mem hx
    rw [List.length_set] at hj
    by_cases e1 : i = j
    · left; subst e1; simp
    · right; exact ⟨j, fun k => e1 k.symm, by rw [List.getElem_set_ne e1]; exact List.getElem?_eq_getElem hj⟩
  have hsb : sb ∉ [e.b] := fun hc => by simp only [List.mem_cons, List.not_mem_nil, or_false] at hc; exact (h.own e hm e.b (by simp [entB])).1 hc.symm
  refine ⟨{ h with
    blk := by rw [List.length_set]; exact h.blk.upd hu hsb
    row := by
      have e1 : (Z.set i e').map entV = Z.map entV := by
        rw [List.map_set]
        apply List.ext_getElem?
        intro j
        rw [List.getElem?_set]
        split
        · rename_i k; subst k; simp only [List.length_map, hi, if_true, List.getElem?_map, he, Option.map_some]; unfold entV; rw [hb]
        · rfl
      rw [List.length_set, e1]
      exact h.row.upd hu (fun c hc hce => by simp only [List.mem_cons, List.not_mem_nil, or_false] at hce; subst hce; exact (h.own e hm _ (by simp [entB])).2 hc)
    ents := fun x hx => by
      rcases hmem x hx with rfl | ⟨j, hji, hxj⟩
      · exact hat
      · exact (h.ents x (List.mem_of_getElem? hxj)).upd hu (fun c hc hce => by simp only [List.mem_cons, List.not_mem_nil, or_false] at hce; subst hce; exact hother j x hji hxj _ hc (by simp [entB]))
    dis := by
      rw [List.pairwise_iff_getElem]
      intro a b ha hb2 hab c hc hc2
      rw [List.length_set] at ha hb2
      rw [List.getElem_set] at hc hc2
      split at hc
      · rename_i k; subst k
        rw [if_neg (by omega)] at hc2
        rcases hsub c hc with k | k
        · exact hother b _ (by omega) (List.getElem?_eq_getElem hb2) c hc2 k
        · have := (h.ents _ (List.getElem_mem hb2)).lt c hc2; omega
      · split at hc2
        · rename_i k1 k; subst k
          rcases hsub c hc2 with k | k
          · exact hother a _ (by omega) (List.getElem?_eq_getElem ha) c hc k
          · have := (h.ents _ (List.getElem_mem ha)).lt c hc; omega
        · exact List.pairwise_iff_getElem.1 h.dis a b ha hb2 hab c hc hc2
    own := fun x hx c hc => by
      rcases hmem x hx with rfl | ⟨j, hji, hxj⟩
      · rcases hsub c hc with k | k
        · exact h.own e hm c k
        · exact ⟨fun k2 => by have := h.blk.lt; omega, fun k2 => by have := h.row.lt c k2; omega⟩
      · exact h.own x (List.mem_of_getElem? hxj) c hc
    newE := fun x hx c hc => by
      rcases hmem x hx with rfl | ⟨j, hji, hxj⟩
      · rcases hsub c hc with k | k
        · exact h.newE e hm c k
        · omega
      · exact h.newE x (List.mem_of_getElem? hxj) c hc
    srt := by
      rw [List.pairwise_iff_getElem]
      intro a b ha hb2 hab
      rw [List.length_set] at ha hb2
      have key := List.pairwise_iff_getElem.1 h.srt a b ha hb2 hab
      obtain ⟨_, hze⟩ := List.getElem?_eq_some_iff.1 he
      rw [List.getElem_set, List.getElem_set]
      split
      · rename_i k; subst k
        rw [if_neg (by omega), hid, ← hze]; exact key
      · split
        · rename_i k; subst k
          rw [hid, ← hze]; exact key
        · exact key
    small := by rw [List.length_set]; exact h.small }, fun c hc => ?_, hu.mono (fun c _ hc => by simp only [List.mem_cons, List.not_mem_nil, or_false] at hc; subst hc; exact sfB_ent hm (by simp [entB]))⟩
  simp only [sfB, List.mem_cons, List.mem_append, List.mem_flatMap] at hc
  rcases hc with rfl | hc | ⟨x, hx, hc⟩
  · left; simp [sfB]
  · left; simp [sfB, hc]
  · rcases hmem x hx with rfl | ⟨j, hji, hxj⟩
    · exact (hsub c hc).imp (fun k => sfB_ent hm k) id
    · left; exact sfB_ent (List.mem_of_getElem? hxj) hc

/-- The numbers anew. -/
theorem SfAt.nums (h : SfAt W w sb ao cap Z v most) {v' m' : Nat} (hB : Blk w' sb 67 [.slice ao Z.length cap, .int .u64 v', .int .u64 m']) (hu : Upd [sb] w w') (hv : v' < 18446744073709551616) (hm : m' < 18446744073709551616) : SfAt W w' sb ao cap Z v' m' :=
  { h with
    blk := hB
    row := h.row.upd hu (fun c hc hce => by simp only [List.mem_cons, List.not_mem_nil, or_false] at hce; subst hce; exact h.d hc)
    ents := fun e he => (h.ents e he).upd hu (fun c hc hce => by simp only [List.mem_cons, List.not_mem_nil, or_false] at hce; exact (h.own e he c hc).1 hce)
    v64 := hv
    m64 := hm }
end
def SfG (W : World) (sb : Nat) (S : Sf) (G : List Nat) (w : World) : Prop := ∃ ao cap Z, SfAt W w sb ao cap Z S.v S.most ∧ Z.map (·.f) = S.F ∧ G = sfB sb ao Z
def SfTo (W : World) (sb : Nat) (S : Sf) (G : List Nat) (w w' : World) : Prop := ∃ G', SfG W sb S G' w' ∧ Fr G G' w w'
section
variable {W w w' : World} {sb : Nat} {S : Sf} {G : List Nat}
theorem SfG.lt (h : SfG W sb S G w) : ∀ c ∈ G, c < w.heap.size := by obtain ⟨_, _, _, h, _, rfl⟩ := h; exact h.lt
theorem SfG.newB (h : SfG W sb S G w) : ∀ c ∈ G, W.heap.size ≤ c := by obtain ⟨_, _, _, h, _, rfl⟩ := h; exact h.newB
theorem SfG.updS {T : List Nat} (h : SfG W sb S G w) (hu : Upd T w w') (hs : ∀ c ∈ G, c ∉ T) : SfG W sb S G w' := by obtain ⟨ao, cap, Z, h, h2, rfl⟩ := h; exact ⟨ao, cap, Z, h.updS hu hs, h2, rfl⟩
theorem SfG.upd (h : SfG W sb S G w) (hu : Upd [] w w') : SfG W sb S G w' := h.updS hu (by simp)
theorem SfTo.up (h : SfTo W sb S G w w') : Upd G w w' := by obtain ⟨_, _, h⟩ := h; exact h.2
end
theorem map_at {Z : List Ent} {F : List Fl} (h : Z.map (·.f) = F) {i : Nat} {f : Fl} (hf : F[i]? = some f) : ∃ e, Z[i]? = some e ∧ e.f = f := by
  rw [← h, List.getElem?_map] at hf
  cases hz : Z[i]? with
  | none => rw [hz] at hf; cases hf
  | some e => rw [hz] at hf; exact ⟨e, rfl, by simpa using hf⟩

/-! ### At -/
def SfAtAt (F : List Fl) (id : Int) (w : World) (iv : Value) (wr : World) : Prop := ∃ i : Nat, iv = .int .i64 i ∧ i ≤ F.length ∧ (∀ j f, j < i → F[j]? = some f → f.id ≠ id) ∧ wr = w

set_option maxRecDepth 100000 in
set_option maxHeartbeats 8000000 in
theorem SfG.at_ {W w : World} {sb : Nat} {S : Sf} {G : List Nat} (h : SfG W sb S G w) (id : Int) :
    Calls Tryz.prog 64 #[.pointer (some ⟨sb, 0, none⟩), .int .i64 id] w (fun e w' => e = .returned (.int .i64 (posF S.F id)) ∧ w = w') := by
  obtain ⟨ao, cap, Z, h, hF, -⟩ := h
  have HH := Lib.hid h
  have HF := Lib.hid hF
  obtain ⟨c0, -, -, lb⟩ := h.cells
  have hZF : Z.length = S.F.length := by rw [← hF, List.length_map]
  obtain ⟨n, hn⟩ : ∃ n, Z.length = n := ⟨_, rfl⟩
  rw [hn] at c0
  have HN : Hid (S.F.length = n) := by unfold Hid; omega
  have HNZ := Lib.hid hn
  have hsm := h.small
  rw [hn] at hsm
  clear h hF hZF hn
  go_enter Tryz.func64, Tryz.ntmps64
  go_wp2_with fail
  go_loopw [5] (fun iv wr => SfAtAt S.F id w iv wr) (fun iv _ => n - (intOf iv).toNat)
  case atStart => exact ⟨0, rfl, Nat.zero_le _, fun j f hj => by omega, rfl⟩
  case round =>
    obtain ⟨i, rfl, hi, hj, rfl⟩ := hrel
    rw [HN.out] at hi
    have HJ := Lib.hid hj
    clear hj
    by_cases hlt : i < n
    · have t1 : decide (i < n) = true := by simp [hlt]
      have b1 : (i : Int) < (n : Int) := by omega
      obtain ⟨f, hf⟩ : ∃ f, S.F[i]? = some f := ⟨_, List.getElem?_eq_getElem (by rw [HN.out]; exact hlt)⟩
      obtain ⟨e, he, hef⟩ := map_at HF.out hf
      obtain ⟨g, hg, x0, lg, hE, -⟩ := HH.out.at_ he
      subst hg
      obtain ⟨y0, -, -, -, -, -, ly⟩ := hE.cells
      rw [hef] at y0
      obtain ⟨y, hy⟩ : ∃ y, f.id = y := ⟨_, rfl⟩
      rw [hy] at y0
      have HY := Lib.hid hy
      have HFF := Lib.hid hf
      have HLT := Lib.hid hlt
      clear hE hy hf he hef
      by_cases heq : y = id
      · have t2 : (y == id) = true := by simp [heq]
        have hp : Hid (posF S.F id = i) := posF_at HFF.out (by rw [HY.out, heq]) HJ.out
        clear heq
        go_wp2
        go_ret
        exact ⟨by rw [hp.out]; rfl, rfl⟩
      · have t2 : (y == id) = false := by simp [heq]
        have hne : Hid (f.id ≠ id) := by unfold Hid; rw [HY.out]; exact heq
        clear heq
        go_wp2
        exact ⟨⟨i + 1, by congr 1, by rw [HN.out]; exact HLT.out, fun j f' hj2 hf' => by
          rcases Nat.lt_or_ge j i with k | k
          · exact HJ.out j f' k hf'
          · have : j = i := by omega
            subst this
            rw [HFF.out] at hf'
            obtain rfl := Option.some.inj hf'
            exact hne.out, rfl⟩, by have := HLT.out; simp [intOf]; omega⟩
    · have t1 : decide (i < n) = false := by simp; omega
      have hp : Hid (posF S.F id = -1) := posF_no (fun j g hj2 hg => HJ.out j g (by rw [HN.out] at hj2; omega) hg)
      go_wp2
      go_ret
      exact ⟨by rw [hp.out]; rfl, rfl⟩
end Go.Proofs.YtfeobcmcellcpaaGreat

/-! Fe -/
namespace Go.Proofs.YtfeobcmcellcpaaGreat
open Go.RowKit

def flAt (F : List Fl) (i : Int) : Fl := F.getD i.toNat (flNew 0 0 0)
theorem flAt_get {F : List Fl} {i : Nat} {f : Fl} (h : F[i]? = some f) : flAt F i = f := by unfold flAt; rw [Int.toNat_natCast, List.getD_eq_getElem?_getD, h]; rfl
def arrCode (S : Sf) (p : Pk) : Int := if posF S.F p.flow < 0 then 5 else if flFull (flAt S.F (posF S.F p.flow)) = true then 9 else 0
def arrS (S : Sf) (p : Pk) : Sf := if arrCode S p = 0 then { S with F := S.F.set (posF S.F p.flow).toNat (flPut (flAt S.F (posF S.F p.flow)) S.v p) } else S
theorem SfTo.same {W w w' : World} {sb : Nat} {S : Sf} {G : List Nat} (h : SfG W sb S G w) (hu : Upd [] w w') : SfTo W sb S G w w' := ⟨G, h.upd hu, fun c hc => .inl hc, hu.nil⟩

set_option maxRecDepth 100000 in
set_option maxHeartbeats 16000000 in
theorem SfG.arrive {W w : World} {sb : Nat} {S : Sf} {G : List Nat} (h : SfG W sb S G w) (p : Pk) (hp : p.len < 9223372036854775808) :
    Calls Tryz.prog 76 #[.pointer (some ⟨sb, 0, none⟩), .agg #[.int .i64 p.flow, .int .i64 p.len, .int .i64 p.mark]] w (fun e w' => e = .returned (.int .i64 (arrCode S p)) ∧ SfTo W sb (arrS S p) G w w') := by
  have HG := Lib.hid h
  obtain ⟨wa, hwa⟩ : ∃ x, w.alloc (.cells #[.int .i64 p.flow, .int .i64 p.len, .int .i64 p.mark] 54) = x := ⟨_, rfl⟩
  have HUA : Hid (Upd [] w wa) := by rw [← hwa]; exact (Upd.refl [] w).alloc _
  have HBX : Hid (Blk wa w.heap.size 54 (pkVs p)) := by rw [← hwa]; exact Blk.new w 54 (pkVs p)
  have y0 := HBX.out.cell (j := 0) rfl
  have y1 := HBX.out.cell (j := 1) rfl
  have y2 := HBX.out.cell (j := 2) rfl
  have lbx := HBX.out.lt
  have HPL := Lib.hid hp
  rcases posF_cases S.F p.flow with ⟨hpos, hno⟩ | ⟨i, f, hpos, hf, hid⟩
  · have HC : Hid (arrCode S p = 5 ∧ arrS S p = S) := by
      have h1 : arrCode S p = 5 := by unfold arrCode; rw [hpos]; rfl
      exact ⟨h1, by unfold arrS; rw [h1]; rfl⟩
    rw [HC.out.1, HC.out.2]
    have HPO := Lib.hid hpos
    clear h hp hpos hno
    go_enter Tryz.func76, Tryz.ntmps76
    go_wp2_with fail
    refine ((HG.out.upd HUA.out).at_ p.flow).mono ?_
    rintro e w2 ⟨rfl, rfl⟩
    rw [HPO.out]
    go_wp2
    go_ret
    exact ⟨rfl, SfTo.same HG.out HUA.out⟩
  · obtain ⟨ao, cap, Z, hz, hF, hGe⟩ := h
    obtain ⟨e, he, hef⟩ := map_at hF hf
    have hza := hz.upd HUA.out
    obtain ⟨g, hg, x0, lg, hE, hi⟩ := hza.at_ he
    subst hg
    obtain ⟨c0, c1, -, lb⟩ := hza.cells
    obtain ⟨n, hn⟩ : ∃ n, Z.length = n := ⟨_, rfl⟩
    rw [hn] at c0 hi
    have hsm := hz.small
    rw [hn] at hsm
    have b1 : (i : Int) < (n : Int) := by omega
    have b0 : decide ((i : Int) < 0) = false := by simp
    obtain ⟨fl, hfl⟩ : ∃ x, flFull f = x := ⟨_, rfl⟩
    have HFL := Lib.hid hfl
    have HCC : Hid (arrCode S p = (if fl = true then 9 else 0) ∧ arrS S p = (if fl = true then S else { S with F := S.F.set i (flPut f S.v p) })) := by
      have h1 : arrCode S p = (if fl = true then 9 else 0) := by unfold arrCode; rw [hpos, if_neg (by omega), flAt_get hf, hfl]
      refine ⟨h1, ?_⟩
      unfold arrS
      rw [h1, hpos, flAt_get hf, Int.toNat_natCast]
      cases fl <;> simp
    rw [HCC.out.1, HCC.out.2]
    have HPO := Lib.hid hpos
    have HE := Lib.hid hE
    have HZA := Lib.hid hza
    have HEQ := Lib.hid he
    have HEF := Lib.hid hef
    have HF := Lib.hid hF
    have HV := Lib.hid hz.v64
    have HGE := Lib.hid hGe
    clear hp hpos hf hid hza hE he hef hF hz hfl hGe hn
    have HARR : Hid (∀ w', Upd [] wa w' → Calls Tryz.prog 112 #[.pointer (some ⟨e.b, 0, none⟩), .int .u64 S.v, .agg #[.int .i64 p.flow, .int .i64 p.len, .int .i64 p.mark]] w' (fun en w'' => en = .returned (.bool (!fl)) ∧ EntTo w' e (if fl = true then e.f else flPut e.f S.v p) w'')) := fun w' hu => by
      have := (HE.out.upd hu (by simp)).arrive S.v HV.out p HPL.out
      rw [HEF.out, HFL.out] at this
      rw [HEF.out]; exact this
    go_enter Tryz.func76, Tryz.ntmps76
    go_wp2_with fail
    refine ((HG.out.upd HUA.out).at_ p.flow).mono ?_
    rintro en w2 ⟨rfl, rfl⟩
    rw [HPO.out]
    go_wp2_with fail
    refine wp_region_tail 12 (by kernel_rfl) (by kernel_rfl) ?_
    simp only [List.take_succ_cons, List.take_zero, List.drop_succ_cons, List.drop_zero]
    repeat (go_big_quiet_step (fail))
    refine wpQuiet_nil ?_
    go_wp2_with fail
    refine (HARR.out _ (Upd.refl [] wa).drew).mono ?_
    rintro en w3 ⟨rfl, ao3, cap3, hE3, hf3, hU3⟩
    cases fl with
    | true =>
      go_wp2
      go_ret
      have hp3 := (HZA.out.upd (Upd.refl [] wa).drew).put (e' := ⟨e.b, e.f, ao3, cap3⟩) HEQ.out rfl rfl (by simpa using hE3) hf3 hU3
      have hid3 : (Z.set i ⟨e.b, e.f, ao3, cap3⟩).map (·.f) = S.F := by
        rw [List.map_set, HF.out]
        have : S.F[i]? = some e.f := by rw [← HF.out, List.getElem?_map, HEQ.out]; rfl
        obtain ⟨hi2, h2⟩ := List.getElem?_eq_some_iff.1 this
        rw [← h2]; exact List.set_getElem_self hi2
      refine ⟨rfl, _, ⟨_, _, _, hp3.1, hid3, rfl⟩, ?_⟩
      rw [HGE.out]
      exact (Fr.of HUA.out.drew).trans hp3.2
    | false =>
      go_wp2
      go_ret
      have hE3' : EntAt w3 ⟨e.b, flPut e.f S.v p, ao3, cap3⟩ := by simpa using hE3
      have hp3 := (HZA.out.upd (Upd.refl [] wa).drew).put (e' := ⟨e.b, flPut e.f S.v p, ao3, cap3⟩) HEQ.out rfl rfl hE3' hf3 hU3
      refine ⟨rfl, _, ⟨_, _, _, hp3.1, by rw [List.map_set, HF.out]; show S.F.set i (flPut e.f S.v p) = _; rw [HEF.out], rfl⟩, ?_⟩
      rw [HGE.out]
      exact (Fr.of HUA.out.drew).trans hp3.2

def nonE (f : Fl) : Bool := decide (0 < f.L.length)
end Go.Proofs.YtfeobcmcellcpaaGreat

/-! Ff -/
namespace Go.Proofs.YtfeobcmcellcpaaGreat
open Go.RowKit

/-- Who is first, among the first k. -/
def bestTo (F : List Fl) : Nat → Int
  | 0 => -1
  | k + 1 => match F[k]? with
    | some f => if nonE f = true ∧ (bestTo F k < 0 ∨ f.start < (flAt F (bestTo F k)).start) then (k : Int) else bestTo F k
    | none => bestTo F k
theorem bestTo_step {F : List Fl} {k : Nat} {f : Fl} (hf : F[k]? = some f) : bestTo F (k + 1) = if nonE f = true ∧ (bestTo F k < 0 ∨ f.start < (flAt F (bestTo F k)).start) then (k : Int) else bestTo F k := by
  show (match F[k]? with | some f => _ | none => _) = _
  rw [hf]
theorem best_spec (F : List Fl) : ∀ k, k ≤ F.length → (bestTo F k = -1 ∧ ∀ j f, j < k → F[j]? = some f → nonE f = false) ∨ ∃ (b : Nat) (g : Fl), bestTo F k = b ∧ b < k ∧ F[b]? = some g ∧ nonE g = true ∧ ∀ j f, j < k → F[j]? = some f → nonE f = true → (g.start < f.start ∨ (g.start = f.start ∧ b ≤ j)) := by
  intro k
  induction k with
  | zero => intro _; exact .inl ⟨rfl, fun j f hj => by omega⟩
  | succ k ih =>
    intro hk
    obtain ⟨f, hf⟩ : ∃ f, F[k]? = some f := ⟨_, List.getElem?_eq_getElem (by omega)⟩
    rw [bestTo_step hf]
    rcases ih (by omega) with ⟨h1, h2⟩ | ⟨b, g, h1, h2, h3, h4, h5⟩
    · by_cases hn : nonE f = true
      · right
        rw [if_pos ⟨hn, .inl (by rw [h1]; omega)⟩]
        refine ⟨k, f, rfl, by omega, hf, hn, fun j x hj hx hxn => ?_⟩
        by_cases e : j = k
        · subst e; rw [hf] at hx; cases hx; exact .inr ⟨rfl, Nat.le_refl _⟩
        · have := h2 j x (by omega) hx; rw [this] at hxn; cases hxn
      · left
        rw [if_neg (fun h => hn h.1)]
        refine ⟨h1, fun j x hj hx => ?_⟩
        by_cases e : j = k
        · subst e; rw [hf] at hx; cases hx; simpa using hn
        · exact h2 j x (by omega) hx
    · right
      have hb : flAt F (bestTo F k) = g := by rw [h1]; exact flAt_get h3
      by_cases hn : nonE f = true ∧ (bestTo F k < 0 ∨ f.start < (flAt F (bestTo F k)).start)
      · rw [if_pos hn]
        have hlt : f.start < g.start := by
          rcases hn.2 with h | h
          · omega
          · rw [hb] at h; exact h
        refine ⟨k, f, rfl, by omega, hf, hn.1, fun j x hj hx hxn => ?_⟩
        by_cases e : j = k
        · subst e; rw [hf] at hx; cases hx; exact .inr ⟨rfl, Nat.le_refl _⟩
        · rcases h5 j x (by omega) hx hxn with h | h
          · left; omega
          · left; omega
      · rw [if_neg hn]
        refine ⟨b, g, h1, by omega, h3, h4, fun j x hj hx hxn => ?_⟩
        by_cases e : j = k
        · subst e; rw [hf] at hx; cases hx
          have : ¬ f.start < g.start := fun h => hn ⟨hxn, .inr (by rw [hb]; exact h)⟩
          rcases Nat.lt_or_ge g.start f.start with h | h
          · exact .inl h
          · exact .inr ⟨by omega, by omega⟩
        · exact h5 j x (by omega) hx hxn
def bestF (F : List Fl) : Int := bestTo F F.length

/-- What Serve tells, and leaves. -/
def servV (S : Sf) : Value := if bestF S.F < 0 then .tuple #[pkV zPk, .bool false] else match (flAt S.F (bestF S.F)).L with
  | [] => .tuple #[pkV zPk, .bool false]
  | p :: _ => .tuple #[pkV p, .bool true]
def servS (S : Sf) : Sf := if bestF S.F < 0 then { S with v := max S.v S.most } else match (flAt S.F (bestF S.F)).L with
  | [] => S
  | p :: _ => { F := S.F.set (bestF S.F).toNat (flTake (flAt S.F (bestF S.F)) p), v := (flAt S.F (bestF S.F)).start, most := max S.most (flFin (flAt S.F (bestF S.F)) p) }
theorem servV_no {S : Sf} (h : bestF S.F = -1) : servV S = .tuple #[.agg #[.int .i64 0, .int .i64 0, .int .i64 0], .bool false] ∧ servS S = { S with v := max S.v S.most } := by
  unfold servV servS; rw [h]; exact ⟨rfl, rfl⟩
theorem servV_yes {S : Sf} {b : Nat} {f : Fl} {p : Pk} {l : List Pk} (h : bestF S.F = b) (hf : S.F[b]? = some f) (hL : f.L = p :: l) :
    servV S = .tuple #[.agg #[.int .i64 p.flow, .int .i64 p.len, .int .i64 p.mark], .bool true] ∧ servS S = { F := S.F.set b (flTake f p), v := f.start, most := max S.most (flFin f p) } := by
  unfold servV servS
  rw [h, if_neg (by omega), if_neg (by omega), flAt_get hf, hL, Int.toNat_natCast]
  exact ⟨rfl, rfl⟩
theorem Fr.thenT {F F' S : List Nat} {w w2 w3 : World} (h : Fr F F' w w2) (hu : Upd S w2 w3) (hs : ∀ c ∈ S, c ∈ F ∨ w.heap.size ≤ c) : Fr F F' w w3 :=
  ⟨h.1, h.2.then hu (fun _ _ e => e) (fun i hi hm => (hs i hm).elim id (fun e => by omega))⟩
def SfServeAt (F : List Fl) (w0 : World) (bv iv : Value) (wr : World) : Prop := ∃ i : Nat, iv = .int .i64 i ∧ bv = .int .i64 (bestTo F i) ∧ i ≤ F.length ∧ Upd [] w0 wr

set_option maxRecDepth 100000 in
set_option maxHeartbeats 32000000 in
theorem SfG.serve {W w : World} {sb : Nat} {S : Sf} {G : List Nat} (h : SfG W sb S G w) :
    Calls Tryz.prog 113 #[.pointer (some ⟨sb, 0, none⟩)] w (fun e w' => e = .returned (servV S) ∧ SfTo W sb (servS S) G w w') := by
  have HG := Lib.hid h
  obtain ⟨ao, cap, Z, h, hF, hGe⟩ := h
  have HGE := Lib.hid hGe
  have HH := Lib.hid h
  have HF := Lib.hid hF
  have hZF : Z.length = S.F.length := by rw [← hF, List.length_map]
  obtain ⟨n, hn⟩ : ∃ n, Z.length = n := ⟨_, rfl⟩
  have HN : Hid (S.F.length = n) := by unfold Hid; omega
  have HNZ := Lib.hid hn
  have hsm := h.small
  rw [hn] at hsm
  clear h hF hZF hn hGe
  obtain ⟨wa, hwa⟩ : ∃ x, w.alloc (.cells #[.int .i64 0, .int .i64 0, .int .i64 0] 54) = x := ⟨_, rfl⟩
  have HUA : Hid (Upd [] w wa) := by rw [← hwa]; exact (Upd.refl [] w).alloc _
  have HBZ : Hid (Blk wa w.heap.size 54 [.int .i64 0, .int .i64 0, .int .i64 0]) := by rw [← hwa]; exact Blk.new w 54 _
  obtain ⟨bz, hbz⟩ : ∃ x, w.heap.size = x := ⟨_, rfl⟩
  have HBW : Hid (w.heap.size = bz) := hbz
  rw [hbz] at HBZ
  go_enter Tryz.func113, Tryz.ntmps113
  go_wp2_with fail
  try rw [hbz]
  clear hwa hbz
  go_loopw [4, 5] (fun bv iv wr => SfServeAt S.F wa bv iv wr) (fun _ iv _ => n - (intOf iv).toNat)
  case atStart => exact ⟨0, rfl, rfl, Nat.zero_le _, Upd.refl _ _⟩
  case round =>
    obtain ⟨i, rfl, rfl, hi, hU⟩ := hrel
    rw [HN.out] at hi
    have hzr := HH.out.upd (HUA.out.trans hU)
    obtain ⟨c0, c1, c2, lb⟩ := hzr.cells
    rw [HNZ.out] at c0
    have HU := Lib.hid hU
    by_cases hlt : i < n
    · have t1 : decide (i < n) = true := by simp [hlt]
      have b1 : (i : Int) < (n : Int) := by omega
      obtain ⟨f, hf⟩ : ∃ f, S.F[i]? = some f := ⟨_, List.getElem?_eq_getElem (by rw [HN.out]; exact hlt)⟩
      obtain ⟨e, he, hef⟩ := map_at HF.out hf
      obtain ⟨g, hg, x0, lg, hE, -⟩ := hzr.at_ he
      subst hg
      obtain ⟨-, -, -, y3, y4, -, ly⟩ := hE.cells
      rw [hef] at y3 y4
      obtain ⟨k, hk⟩ : ∃ k, f.L.length = k := ⟨_, rfl⟩
      rw [hk] at y3
      have hst := bestTo_step hf
      have HLT := Lib.hid hlt
      have HZR := Lib.hid hzr
      have hspec := best_spec S.F i (by rw [HN.out]; omega)
      have hnon : nonE f = decide (0 < k) := by unfold nonE; rw [hk]
      obtain ⟨bb, hbb⟩ : ∃ x, bestTo S.F i = x := ⟨_, rfl⟩
      rw [hbb] at hst hspec ⊢
      obtain ⟨fs, hfs⟩ : ∃ x, f.start = x := ⟨_, rfl⟩
      rw [hfs] at y4 hst
      have HU := Lib.hid hU
      clear hE hf he hef hzr hU hk hi hlt hbb hfs
      by_cases hk0 : 0 < k
      · have t2 : decide (0 < k) = true := by simp [hk0]
        have t3 : decide ((0 : Int) < (k : Int)) = true := by simp; omega
        have hnt : nonE f = true := by rw [hnon]; exact t2
        rcases hspec with ⟨rfl, -⟩ | ⟨b, gg, rfl, hb, hgg, -, -⟩
        · have HST : Hid (bestTo S.F (i + 1) = i) := by unfold Hid; rw [hst, if_pos ⟨hnt, .inl (by omega)⟩]
          clear hst hnon hnt hk0
          go_wp2_with fail
          go_quiet (fail)
          go_wp2
          exact ⟨⟨i + 1, by congr 1, by rw [HST.out], by rw [HN.out]; exact HLT.out, HU.out.drewN nq⟩, by have := HLT.out; simp [intOf]; omega⟩
        · obtain ⟨e2, he2, hef2⟩ := map_at HF.out hgg
          obtain ⟨g', hg', x2, -, hE2, hbn⟩ := HZR.out.at_ he2
          cases hg'
          obtain ⟨-, -, -, -, y24, -, ly2⟩ := hE2.cells
          rw [hef2] at y24
          rw [HNZ.out] at hbn
          have b2 : (b : Int) < (n : Int) := by omega
          have t4 : decide ((b : Int) < 0) = false := by simp
          have hfl : flAt S.F (b : Int) = gg := flAt_get hgg
          rw [hfl] at hst
          obtain ⟨gs, hgs⟩ : ∃ x, gg.start = x := ⟨_, rfl⟩
          rw [hgs] at y24 hst
          clear hE2 he2 hef2 hgg hfl hgs
          by_cases hless : fs < gs
          · have t5 : decide (fs < gs) = true := by simp [hless]
            have t6 : decide ((fs : Int) < (gs : Int)) = true := by simp; omega
            have HST : Hid (bestTo S.F (i + 1) = i) := by unfold Hid; rw [hst, if_pos ⟨hnt, .inr hless⟩]
            clear hst hnon hnt hk0 hless
            go_wp2_with fail
            go_quiet (fail)
            go_wp2
            exact ⟨⟨i + 1, by congr 1, by rw [HST.out], by rw [HN.out]; exact HLT.out, HU.out.drewN nq⟩, by have := HLT.out; simp [intOf]; omega⟩
          · have t5 : decide (fs < gs) = false := by simp; omega
            have t6 : decide ((fs : Int) < (gs : Int)) = false := by simp; omega
            have HST : Hid (bestTo S.F (i + 1) = b) := by unfold Hid; rw [hst, if_neg (fun h => by rcases h.2 with h | h; (omega); exact hless h)]
            clear hst hnon hnt hk0 hless
            go_wp2_with fail
            go_quiet (fail)
            go_wp2
            exact ⟨⟨i + 1, by congr 1, by rw [HST.out], by rw [HN.out]; exact HLT.out, HU.out.drewN nq⟩, by have := HLT.out; simp [intOf]; omega⟩
      · have t2 : decide (0 < k) = false := by simp; omega
        have t3 : decide ((0 : Int) < (k : Int)) = false := by simp; omega
        have HST : Hid (bestTo S.F (i + 1) = bb) := by unfold Hid; rw [hst, if_neg (fun h => by rw [hnon, t2] at h; cases h.1)]
        clear hst hnon hk0 hspec
        go_wp2_with fail
        go_quiet (fail)
        go_wp2
        exact ⟨⟨i + 1, by congr 1, by rw [HST.out], by rw [HN.out]; exact HLT.out, HU.out.drewN nq⟩, by have := HLT.out; simp [intOf]; omega⟩
    · have t1 : decide (i < n) = false := by simp; omega
      have hin : i = S.F.length := by rw [HN.out]; omega
      have hspec := best_spec S.F i (by omega)
      have hbi : bestTo S.F i = bestTo S.F S.F.length := by rw [hin]
      rw [hin] at hspec
      rw [hbi]
      have HSPEC := Lib.hid hspec
      have hbW : bz ∉ G := fun hc => by have := HG.out.lt bz hc; have := HBW.out; omega
      have HBG := Lib.hid hbW
      have hzb := HBZ.out.upd hU (by simp)
      have HZR := Lib.hid hzr
      have HUW : Hid (Upd [] w wr) := HUA.out.trans hU
      have hsG : sb ∈ G := by rw [HGE.out]; simp [sfB]
      have hne : bz ≠ sb := fun hc => hbW (hc ▸ hsG)
      have hne2 := hne.symm
      have HSG := Lib.hid hsG
      clear hin hspec hbW hsG hlt hi hbi
      rcases HSPEC.out with ⟨hb, -⟩ | ⟨b, f, hb, hbl, hf, hnon, -⟩
      · obtain ⟨hv1, hv2⟩ := servV_no (S := S) hb
        rw [hb]
        obtain ⟨mx, hmx⟩ : ∃ x, max S.v S.most = x := ⟨_, rfl⟩
        rw [hmx] at hv2
        have HV1 := Lib.hid hv1
        have HV2 := Lib.hid hv2
        have hmxi : Max.max (S.v : Int) (S.most : Int) = (mx : Int) := by omega
        have hmx64 : mx < 18446744073709551616 := by have := hzr.v64; have := hzr.m64; omega
        have HM64 := Lib.hid hmx64
        have z1 := hzr.blk.free 1
        have HZB := Lib.hid hzb
        clear hb hv1 hv2 hmx hzr hU hmx64 hzb
        go_wp2_with fail
        go_region
        all_goals
          obtain ⟨w4, hw4⟩ : ∃ x, (wr.setCell ⟨sb, 1, none⟩ (.int .u64 mx)).drew = x := ⟨_, rfl⟩
          have hu4 : Upd [sb] wr w4 := by rw [← hw4]; exact ((Upd.refl [sb] wr).setCell (.inl (by simp)) _).drew
          have hz4 := HZR.out.nums (v' := mx) (m' := S.most) (w' := w4) (by rw [← hw4]; exact (HZR.out.blk.set 1 (.int .u64 mx)).upd (Upd.refl [] _).drew (by simp)) hu4 HM64.out HZR.out.m64
          have hb4 := HZB.out.upd hu4 (by simpa using hne)
          rw [hw4]
          have q0 := hb4.cell (j := 0) rfl
          have q1 := hb4.cell (j := 1) rfl
          have q2 := hb4.cell (j := 2) rfl
          have p0 := hb4.free 0
          have p1 := hb4.free 1
          have p2 := hb4.free 2
          have lz := hb4.lt
          have HZ4 := Lib.hid hz4
          have HU4 := Lib.hid hu4
          clear hw4 hu4 hz4 hb4 c0 c1 c2 lb z1
          go_wp2_with fail
          refine bodyPost_ret (v := .tuple #[.agg #[.int .i64 0, .int .i64 0, .int .i64 0], .bool false]) (by simp [results, Tryz.results113, go_sem, q0, q1, q2]) rfl ?_
          have u5 : Upd [bz] w4 (((w4.setCell ⟨bz, 0, none⟩ (.int .i64 0)).setCell ⟨bz, 1, none⟩ (.int .i64 0)).setCell ⟨bz, 2, none⟩ (.int .i64 0)) := (((Upd.refl [bz] w4).setCell (.inl (by simp)) _).setCell (.inl (by simp)) _).setCell (.inl (by simp)) _
          refine ⟨by rw [HV1.out], G, by rw [HV2.out]; exact ⟨ao, cap, Z, HZ4.out.updS u5 (fun c hc hc2 => by simp only [List.mem_cons, List.not_mem_nil, or_false] at hc2; subst hc2; exact HBG.out (by rw [HGE.out]; exact hc)), HF.out, HGE.out⟩, ((Fr.of HUW.out).thenT HU4.out (fun c hc => by simp only [List.mem_cons, List.not_mem_nil, or_false] at hc; subst hc; exact .inl HSG.out)).thenT u5 (fun c hc => by simp only [List.mem_cons, List.not_mem_nil, or_false] at hc; subst hc; exact .inr (by have := HBW.out; omega))⟩
      · obtain ⟨e, he, hef⟩ := map_at HF.out hf
        obtain ⟨g, hg, x0, lg, hE, hbn⟩ := hzr.at_ he
        subst hg
        obtain ⟨-, -, -, -, y4, -, ly⟩ := hE.cells
        rw [hef] at y4
        rw [HNZ.out] at hbn
        have b2 : (b : Int) < (n : Int) := by omega
        have t4 : decide ((b : Int) < 0) = false := by simp
        cases hL : f.L with
        | nil => unfold nonE at hnon; rw [hL] at hnon; simp at hnon
        | cons p l =>
          obtain ⟨hv1, hv2⟩ := servV_yes hb hf hL
          have hsv : serveV e.f = .tuple #[.agg #[.int .i64 p.flow, .int .i64 p.len, .int .i64 p.mark], .int .u64 (flFin f p), .bool true] ∧ serveF e.f = flTake f p := by
            rw [hef]; unfold serveV serveF; rw [hL]; exact ⟨rfl, rfl⟩
          rw [hb]
          obtain ⟨fin, hfin⟩ : ∃ x, flFin f p = x := ⟨_, rfl⟩
          rw [hfin] at hv2 hsv
          obtain ⟨mx, hmx⟩ : ∃ x, max S.most fin = x := ⟨_, rfl⟩
          rw [hmx] at hv2
          have hfin64 : fin < 18446744073709551616 := by rw [← hfin]; unfold flFin; exact addT_lt _ _
          have hmxi : Max.max (S.most : Int) (fin : Int) = (mx : Int) := by omega
          have hmx64 : mx < 18446744073709551616 := by have := hzr.m64; omega
          have hst64 : f.start < 18446744073709551616 := by have := hE.ok.s64; rw [hef] at this; exact this
          have z1 := hzr.blk.free 1
          obtain ⟨st, hst⟩ : ∃ x, f.start = x := ⟨_, rfl⟩
          rw [hst] at y4 hst64 hv2
          have HV1 := Lib.hid hv1
          have HV2 := Lib.hid hv2
          have HSV := Lib.hid hsv
          have HM64 := Lib.hid hmx64
          have HS64 := Lib.hid hst64
          have HEQ := Lib.hid he
          have HZB := Lib.hid hzb
          have HEF := Lib.hid hef
          clear hb hv1 hv2 hsv hmx hzr hU hmx64 hst64 hzb hf hnon hL hfin hst hE he hef
          have hgs : sb ≠ g := fun hc => HZR.out.d (by simp [blkO, hc])
          have hgs2 := hgs.symm
          have hes : e.b ≠ sb := (HZR.out.own e (List.mem_of_getElem? HEQ.out) e.b (by simp [entB])).1
          go_wp2_with fail
          obtain ⟨w1, hw1⟩ : ∃ x, wr.setCell ⟨sb, 1, none⟩ (.int .u64 st) = x := ⟨_, rfl⟩
          have hu1 : Upd [sb] wr w1 := by rw [← hw1]; exact (Upd.refl [sb] wr).setCell (.inl (by simp)) _
          have hz1 := HZR.out.nums (v' := st) (m' := S.most) (w' := w1) (by rw [← hw1]; exact HZR.out.blk.set 1 (.int .u64 st)) hu1 HS64.out HZR.out.m64
          have HZ1 := Lib.hid hz1
          have HU1 := Lib.hid hu1
          have hb1 := HZB.out.upd hu1 (by simpa using hne)
          have HB1 := Lib.hid hb1
          rw [hw1]
          have HSRV := Lib.hid (hz1.ents e (List.mem_of_getElem? HEQ.out)).serve
          clear hw1 hu1 hz1 hb1 c0 c1 c2 x0 y4 z1 lb lg ly hgs hgs2 hes
          refine HSRV.out.mono ?_
          rintro en w2 ⟨rfl, ao2, cap2, hE2, hf2, hU2⟩
          rw [HSV.out.1]
          rw [HSV.out.2] at hE2
          have hp2 := HZ1.out.put (e' := ⟨e.b, flTake f p, ao2, cap2⟩) HEQ.out rfl (by rw [HEF.out]; rfl) hE2 hf2 hU2
          have hbe : bz ∉ [e.b] := fun hc => by simp only [List.mem_cons, List.not_mem_nil, or_false] at hc; exact HBG.out (by rw [HGE.out, hc]; exact sfB_ent (List.mem_of_getElem? HEQ.out) (by simp [entB]))
          have HB2 := Lib.hid (HB1.out.upd hU2 hbe)
          have HZ2 := Lib.hid hp2.1
          have HF2 := Lib.hid hp2.2
          clear hE2 hf2 hU2 hp2 hbe
          obtain ⟨-, -, d2, ld⟩ := HZ2.out.cells
          have z2 := HZ2.out.blk.free 2
          have q0 := HB2.out.cell (j := 0) rfl
          have q1 := HB2.out.cell (j := 1) rfl
          have q2 := HB2.out.cell (j := 2) rfl
          have p0 := HB2.out.free 0
          have p1 := HB2.out.free 1
          have p2 := HB2.out.free 2
          have lz := HB2.out.lt
          go_wp2_with fail
          obtain ⟨w5, hw5⟩ : ∃ x, (((w2.setCell ⟨sb, 2, none⟩ (.int .u64 mx)).setCell ⟨bz, 0, none⟩ (.int .i64 p.flow)).setCell ⟨bz, 1, none⟩ (.int .i64 p.len)).setCell ⟨bz, 2, none⟩ (.int .i64 p.mark) = x := ⟨_, rfl⟩
          have hb5 : Blk w5 bz 54 [.int .i64 p.flow, .int .i64 p.len, .int .i64 p.mark] := by
            rw [← hw5]
            exact (((HB2.out.setFar (a := ⟨sb, 2, none⟩) hne2 (.int .u64 mx)).set 0 (.int .i64 p.flow)).set 1 (.int .i64 p.len)).set 2 (.int .i64 p.mark)
          have u3 : Upd [sb] w2 (w2.setCell ⟨sb, 2, none⟩ (.int .u64 mx)) := (Upd.refl [sb] w2).setCell (.inl (by simp)) _
          have hz3 := HZ2.out.nums (v' := st) (m' := mx) (HZ2.out.blk.set 2 (.int .u64 mx)) u3 HS64.out HM64.out
          have u4 : Upd [bz] (w2.setCell ⟨sb, 2, none⟩ (.int .u64 mx)) w5 := by rw [← hw5]; exact (((Upd.refl [bz] _).setCell (.inl (by simp)) _).setCell (.inl (by simp)) _).setCell (.inl (by simp)) _
          rw [hw5]
          have hb6 := hb5.upd ((Upd.refl [] w5).alloc (.cells #[.int .i64 p.flow, .int .i64 p.len, .int .i64 p.mark] 54)) (by simp)
          have k0 := hb6.cell (j := 0) rfl
          have k1 := hb6.cell (j := 1) rfl
          have k2 := hb6.cell (j := 2) rfl
          refine bodyPost_ret (v := .tuple #[.agg #[.int .i64 p.flow, .int .i64 p.len, .int .i64 p.mark], .bool true]) (by simp [results, Tryz.results113, go_sem, k0, k1, k2]) rfl ?_
          have f1 : Fr G (sfB sb (some ⟨g, 0, none⟩) (Z.set b ⟨e.b, flTake f p, ao2, cap2⟩)) w w2 := by
            have := ((Fr.of HUW.out).thenT HU1.out (fun c hc => by simp only [List.mem_cons, List.not_mem_nil, or_false] at hc; subst hc; exact .inl HSG.out) : Fr G G w w1)
            rw [HGE.out] at this ⊢
            exact this.trans HF2.out
          have hbn : bz ∉ sfB sb (some ⟨g, 0, none⟩) (Z.set b ⟨e.b, flTake f p, ao2, cap2⟩) := fun hc => by
            rcases HF2.out.1 bz hc with h | h
            · exact HBG.out (by rw [HGE.out]; exact h)
            · have := HB1.out.lt; omega
          refine ⟨by rw [HV1.out], _, by rw [HV2.out]; exact ⟨_, _, _, (hz3.updS u4 (fun c hc hc2 => by simp only [List.mem_cons, List.not_mem_nil, or_false] at hc2; subst hc2; exact hbn hc)).upd ((Upd.refl [] w5).alloc _), by rw [List.map_set, HF.out], rfl⟩, ?_⟩
          exact ((f1.thenT u3 (fun c hc => by simp only [List.mem_cons, List.not_mem_nil, or_false] at hc; subst hc; exact .inl HSG.out)).thenT u4 (fun c hc => by simp only [List.mem_cons, List.not_mem_nil, or_false] at hc; subst hc; exact .inr (by have := HBW.out; omega))).thenT ((Upd.refl [] w5).alloc _) (by simp)
end Go.Proofs.YtfeobcmcellcpaaGreat
