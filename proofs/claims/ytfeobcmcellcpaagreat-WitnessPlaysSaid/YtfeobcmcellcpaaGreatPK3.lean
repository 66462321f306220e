/-
  Texts of this claim, joined: Kg0, Kg, Kh. No condition.
-/
import Derived.Test.YtfeobcmcellcpaaGreatRc
import Derived.Test.YtfeobcmcellcpaaGreatNb
import Derived.Test.YtfeobcmcellcpaaGreatPK2
import Derived.Test.YtfeobcmcellcpaaGreatMp
import Derived.Test.YtfeobcmcellcpaaGreatPg
import Derived.Test.YtfeobcmcellcpaaGreatOr
set_option linter.unusedVariables false
set_option linter.unusedSimpArgs false
/-! Kg0 -/
namespace Go.Proofs.YtfeobcmcellcpaaGreat
open Go.RowKit

theorem pts_put7 {w : World} {g k cap : Nat} {X : List Pt} (h : Row w 59 7 g k cap (X.flatMap ptVs)) {j : Nat} {x : Pt} (hx : X[j]? = some x) (y : Pt) :
    Row (((((((w.setCell ⟨g, j * 7, none⟩ (.int .i64 y.step)).setCell ⟨g, j * 7 + 1, none⟩ (.int .i64 y.who)).setCell ⟨g, j * 7 + 2, none⟩ (.int .i64 y.place)).setCell ⟨g, j * 7 + 3, none⟩ (.int .i64 y.r.e)).setCell ⟨g, j * 7 + 4, none⟩ y.lv).setCell ⟨g, j * 7 + 5, none⟩ (.int .i64 y.r.n)).setCell ⟨g, j * 7 + 6, none⟩ (.int .u64 y.r.v)) 59 7 g k cap ((X.set j y).flatMap ptVs) := by
  have hj := (List.getElem?_eq_some_iff.1 hx).1
  have hs : ∀ z : Pt, (X.set j z)[j]? = some z := fun z => by rw [List.getElem?_set_self hj]
  have h0 := pts_put h hx 0 (by decide) (.int .i64 y.step) (y := { x with step := y.step }) rfl
  have h1 := pts_put h0 (hs _) 1 (by decide) (.int .i64 y.who) (y := { x with step := y.step, who := y.who }) rfl
  rw [List.set_set] at h1
  have h2 := pts_put h1 (hs _) 2 (by decide) (.int .i64 y.place) (y := { x with step := y.step, who := y.who, place := y.place }) rfl
  rw [List.set_set] at h2
  have h3 := pts_put h2 (hs _) 3 (by decide) (.int .i64 y.r.e) (y := { x with step := y.step, who := y.who, place := y.place, r := { x.r with e := y.r.e } }) rfl
  rw [List.set_set] at h3
  have h4 := pts_put h3 (hs _) 4 (by decide) y.lv (y := { x with step := y.step, who := y.who, place := y.place, r := { x.r with e := y.r.e }, lv := y.lv }) rfl
  rw [List.set_set] at h4
  have h5 := pts_put h4 (hs _) 5 (by decide) (.int .i64 y.r.n) (y := { x with step := y.step, who := y.who, place := y.place, r := { x.r with e := y.r.e, n := y.r.n }, lv := y.lv }) rfl
  rw [List.set_set] at h5
  have h6 := pts_put h5 (hs _) 6 (by decide) (.int .u64 y.r.v) (y := y) rfl
  rw [List.set_set] at h6
  exact h6
def BentTo (w : World) (e : Ending) (w' : World) : Prop := ∃ ao k cap X, e = .returned (.slice ao k cap) ∧ PtsAt' w' (.slice ao k cap) X ∧ X.length = k ∧ k ≤ 60 ∧ (∀ x ∈ X, x.r.L.length ≤ 17) ∧ Upd [] w w'

/-- The copy, in a block of its own; the point that was taken out lies at bx. -/
structure BtAt (w wr : World) (g k cap bx : Nat) (X : List Pt) (y : Pt) : Prop where
  row : Row wr 59 7 g k cap (X.flatMap ptVs)
  len : X.length = k
  pts : ∀ x ∈ X, PtAt wr x ∧ x.r.L.length ≤ 17 ∧ ∀ c ∈ lvB x.lv, c ≠ g ∧ c ≠ bx
  blk : Blk wr bx 59 (ptVs y)
  py : PtAt wr y ∧ y.r.L.length ≤ 17 ∧ ∀ c ∈ lvB y.lv, c ≠ g ∧ c ≠ bx
  ne : g ≠ bx
  new : w.heap.size ≤ g ∧ w.heap.size ≤ bx
  upd : Upd [] w wr
  k60 : k ≤ 60

/-- The changed point is stored: what is told. -/
theorem BtAt.fin {w wr w' : World} {g k cap bx j : Nat} {X : List Pt} {x y : Pt} (h : BtAt w wr g k cap bx X y) (hx : X[j]? = some x)
    (hw : w' = ((((((wr.setCell ⟨g, j * 7, none⟩ (.int .i64 y.step)).setCell ⟨g, j * 7 + 1, none⟩ (.int .i64 y.who)).setCell ⟨g, j * 7 + 2, none⟩ (.int .i64 y.place)).setCell ⟨g, j * 7 + 3, none⟩ (.int .i64 y.r.e)).setCell ⟨g, j * 7 + 4, none⟩ y.lv).setCell ⟨g, j * 7 + 5, none⟩ (.int .i64 y.r.n)).setCell ⟨g, j * 7 + 6, none⟩ (.int .u64 y.r.v)) :
    BentTo w (.returned (.slice (some ⟨g, 0, none⟩) k cap)) w' := by
  have hr := pts_put7 h.row hx y
  rw [← hw] at hr
  have hu : Upd [g] wr w' := by rw [hw]; exact ((((((((Upd.refl [g] wr).setCell (.inl (by simp)) _).setCell (.inl (by simp)) _).setCell (.inl (by simp)) _).setCell (.inl (by simp)) _).setCell (.inl (by simp)) _).setCell (.inl (by simp)) _).setCell (.inl (by simp)) _)
  have hall : ∀ z ∈ X.set j y, PtAt wr z ∧ z.r.L.length ≤ 17 ∧ ∀ c ∈ lvB z.lv, c ≠ g ∧ c ≠ bx := fun z hz => by
    rcases List.mem_or_eq_of_mem_set hz with e | e
    · exact h.pts z e
    · rw [e]; exact h.py
  refine ⟨_, _, _, X.set j y, rfl, ⟨by rw [List.length_set, h.len]; exact hr.o.sl, fun z hz => ?_⟩, by rw [List.length_set]; exact h.len, h.k60, fun z hz => (hall z hz).2.1, h.upd.then hu (fun _ _ e => e) (fun i hi hm => wt_fresh h.new.1 hi hm)⟩
  obtain ⟨k1, -, k3⟩ := hall z hz
  exact SlAt.updS k1 hu (fun c hc hm => by simp only [List.mem_cons, List.not_mem_nil, or_false] at hm; exact (k3 c hc).1 hm)

/-- The point is changed in its block: its numbers alone. -/
theorem BtAt.turn {w wr w' : World} {g k cap bx : Nat} {X : List Pt} {y y' : Pt} (h : BtAt w wr g k cap bx X y) (hb : Blk w' bx 59 (ptVs y')) (hu : Upd [bx] wr w') (hlv : y'.lv = y.lv) (hL : y'.r.L = y.r.L) : BtAt w w' g k cap bx X y' := by
  have hs : ∀ z : Pt, (PtAt wr z ∧ z.r.L.length ≤ 17 ∧ ∀ c ∈ lvB z.lv, c ≠ g ∧ c ≠ bx) → PtAt w' z ∧ z.r.L.length ≤ 17 ∧ ∀ c ∈ lvB z.lv, c ≠ g ∧ c ≠ bx := fun z hz =>
    ⟨SlAt.updS hz.1 hu (fun c hc hm => by simp only [List.mem_cons, List.not_mem_nil, or_false] at hm; exact (hz.2.2 c hc).2 hm), hz.2⟩
  have hy := hs y h.py
  refine ⟨h.row.upd hu (by simpa using h.ne), h.len, fun x hx => hs x (h.pts x hx), hb, ?_, h.ne, h.new, h.upd.then hu (fun _ _ e => e) (fun i hi hm => wt_fresh h.new.2 hi hm), h.k60⟩
  unfold PtAt at hy ⊢
  rw [hlv, hL]
  exact hy
theorem BtAt.upd' {w wr w' : World} {g k cap bx : Nat} {X : List Pt} {y : Pt} (h : BtAt w wr g k cap bx X y) (hu : Upd [] wr w') : BtAt w w' g k cap bx X y :=
  ⟨h.row.upd hu (by simp), h.len, fun x hx => ⟨(h.pts x hx).1.upd hu, (h.pts x hx).2⟩, h.blk.upd hu (by simp), ⟨h.py.1.upd hu, h.py.2⟩, h.ne, h.new, h.upd.trans hu, h.k60⟩

/-- The point's packets are others, in an array of their own. -/
theorem BtAt.pack {w wr w5 : World} {g k cap bx : Nat} {X : List Pt} {y : Pt} (h : BtAt w wr g k cap bx X y) (hu : Upd [] wr w5) {ao : Option Addr} {n c : Nat} {L : List Pk} (hrow : SlAt w5 3 (.slice ao n c) L.length (L.flatMap pkVs)) (hnew : ∀ b ∈ lvB (.slice ao n c), wr.heap.size ≤ b) (hlen : L.length ≤ 17) :
    BtAt w (w5.setCell ⟨bx, 4, none⟩ (.slice ao n c)) g k cap bx X { y with r := { y.r with L := L }, lv := .slice ao n c } := by
  have h5 := h.upd' hu
  have us : Upd [bx] w5 (w5.setCell ⟨bx, 4, none⟩ (.slice ao n c)) := (Upd.refl [bx] w5).setCell (.inl (by simp)) _
  have hg := h.row.lt
  have hb := h.blk.lt
  have hfar : ∀ b ∈ lvB (.slice ao n c), b ≠ g ∧ b ≠ bx := fun b hm => by have := hnew b hm; exact ⟨by omega, by omega⟩
  refine ⟨h5.row.upd us (by simpa using h.ne), h.len, fun x hx => ⟨SlAt.updS (h5.pts x hx).1 us (fun b hm hs => by simp only [List.mem_cons, List.not_mem_nil, or_false] at hs; exact ((h5.pts x hx).2.2 b hm).2 hs), (h5.pts x hx).2⟩, h5.blk.set 4 (.slice ao n c), ⟨SlAt.updS hrow us (fun b hm hs => by simp only [List.mem_cons, List.not_mem_nil, or_false] at hs; exact (hfar b hm).2 hs), hlen, hfar⟩, h.ne, h.new, h5.upd.then us (fun _ _ e => e) (fun i hi hm => wt_fresh h.new.2 hi hm), h.k60⟩
theorem pts_rowTake {w : World} {g k cap : Nat} {X : List Pt} (h : Row w 59 7 g k cap (X.flatMap ptVs)) (hl : X.length = k) {j : Nat} (hj : j ≤ k) : Row w 59 7 g j cap ((X.take j).flatMap ptVs) := by
  obtain ⟨h1, cur, hg, h2, h3, h4, h5⟩ := h.parts
  have e : X.flatMap ptVs = (X.take j).flatMap ptVs ++ (X.drop j).flatMap ptVs := by rw [← List.flatMap_append, List.take_append_drop]
  have hlen : ((X.take j).flatMap ptVs).length = j * 7 := by rw [flat_len ptVs 7 ptVs_len, List.length_take]; congr 1; omega
  refine Row.mk' hlen hg (by omega) h3 h4 ?_
  have h6 : cur.toList.take (j * 7) = (cur.toList.take (k * 7)).take (j * 7) := by rw [List.take_take]; congr 1; omega
  rw [h6, h5, e, List.take_append_of_le_length (by omega), List.take_of_length_le (by omega)]
theorem pts_srcDrop {w : World} {g k cap : Nat} {X : List Pt} (h : Row w 59 7 g k cap (X.flatMap ptVs)) (hl : X.length = k) (hp : ∀ x ∈ X, PtAt w x) {j : Nat} (hj : j ≤ k) (off : Nat) (ho : off = j * 7 ∨ k - j = 0) : Src w 7 (some ⟨g, off, none⟩) (k - j) ((X.drop j).flatMap ptVs) := by
  refine ⟨by rw [flat_len ptVs 7 ptVs_len, List.length_drop]; congr 1; omega, pts_one' (fun x hx => hp x (List.mem_of_mem_drop hx)), .inr ⟨_, rfl, fun t u ht => ?_⟩⟩
  have e : X.flatMap ptVs = (X.take j).flatMap ptVs ++ (X.drop j).flatMap ptVs := by rw [← List.flatMap_append, List.take_append_drop]
  have hlen : ((X.take j).flatMap ptVs).length = j * 7 := by rw [flat_len ptVs 7 ptVs_len, List.length_take]; congr 1; omega
  have htl := (List.getElem?_eq_some_iff.1 ht).1
  rw [flat_len ptVs 7 ptVs_len, List.length_drop] at htl
  rw [add_none]
  refine h.cell ?_
  rcases ho with rfl | ho
  · rw [e, List.getElem?_append_right (by omega), hlen, Nat.add_sub_cancel_left]
    exact ht
  · omega
end Go.Proofs.YtfeobcmcellcpaaGreat

/-! Kg -/
namespace Go.Proofs.YtfeobcmcellcpaaGreat
open Go.RowKit

theorem pts_srcS {w : World} {ao : Option Addr} {k cap : Nat} {X : List Pt} (h : PtsAt' w (.slice ao k cap) X) (hk : X.length = k) : Src w 7 ao k (X.flatMap ptVs) := by
  obtain ⟨ao', cap', e, h1, h2, h3⟩ := h.1
  cases e
  rw [← hk]
  refine ⟨h2, pts_one' h.2, ?_⟩
  rcases h3 with h3 | ⟨b, off, rfl, hb, hc⟩
  · cases ao with
    | none => exact .inl ⟨rfl, h3⟩
    | some ad => exact .inr ⟨ad, rfl, fun j u hj => by have : X = [] := List.eq_nil_of_length_eq_zero h3; rw [this] at hj; cases hj⟩
  · exact .inr ⟨_, rfl, fun j u hj => by rw [add_none]; exact hc j u hj⟩
theorem bt_bn {k : Nat} (h : k ≤ 59) : 0 + k ≤ maxLen ∧ (0 + k) * 72 ≤ 140737488355328 := ⟨by unfold maxLen; omega, by omega⟩
theorem bt_q (kind : Int) : ∃ q : Int, modI kind 9 = q ∧ (q = 0 ∨ q = 1 ∨ q = 2 ∨ q = 3 ∨ q = 4 ∨ q = 5 ∨ q = 6 ∨ q = 7 ∨ q = 8) := ⟨_, rfl, by have := modI_bd kind 9 (by decide) (by decide); omega⟩
theorem bt_j (at_ : Int) {k : Nat} (h0 : 0 < k) (h : k ≤ 59) : ∃ j : Nat, modI at_ (k : Int) = j ∧ j < k ∧ (j : Int) < (k : Int) ∧ j + 1 ≤ 9223372036854775807 ∧ ((k : Int) == 0) = false ∧ (k == 0) = false := ⟨(modI at_ (k : Int)).toNat, by
  have := modI_bd at_ (k : Int) (by omega) (by omega)
  refine ⟨by omega, by omega, by omega, by omega, by simp; omega, by simp; omega⟩⟩
theorem bt_i (n : Int) : ∃ i : Nat, modI n 7 = i ∧ i < 7 ∧ (i : Int) < 7 := ⟨(modI n 7).toNat, by have := modI_bd n 7 (by decide) (by decide); omega⟩
def erL : List Int := [0, 10, 9, 5, 1, 8, 6]
theorem erL_at {i : Nat} (h : i < 7) : ∃ e, erL[i]? = some e ∧ ([.int .i64 0, .int .i64 10, .int .i64 9, .int .i64 5, .int .i64 1, .int .i64 8, .int .i64 6] : List Value)[i]? = some (.int .i64 e) := by
  match i, h with
  | 0, _ => exact ⟨_, rfl, rfl⟩
  | 1, _ => exact ⟨_, rfl, rfl⟩
  | 2, _ => exact ⟨_, rfl, rfl⟩
  | 3, _ => exact ⟨_, rfl, rfl⟩
  | 4, _ => exact ⟨_, rfl, rfl⟩
  | 5, _ => exact ⟨_, rfl, rfl⟩
  | 6, _ => exact ⟨_, rfl, rfl⟩
theorem pk_srcS {w : World} {ao : Option Addr} {k cap : Nat} {L : List Pk} (h : SlAt w 3 (.slice ao k cap) k (L.flatMap pkVs)) : Src w 3 ao k (L.flatMap pkVs) := by
  obtain ⟨ao', cap', e, h1, h2, h3⟩ := h
  cases e
  refine ⟨h2, fun u hu => ?_, ?_⟩
  · obtain ⟨x, _, hxu⟩ := List.mem_flatMap.1 hu
    simp only [pkVs, List.mem_cons, List.not_mem_nil, or_false] at hxu
    rcases hxu with rfl | rfl | rfl <;> rfl
  · rcases h3 with h3 | ⟨b, off, rfl, hb, hc⟩
    · cases ao with
      | none => exact .inl ⟨rfl, h3⟩
      | some ad => exact .inr ⟨ad, rfl, fun j u hj => by have e2 : L.flatMap pkVs = [] := List.eq_nil_of_length_eq_zero (by rw [h2, h3]); rw [e2] at hj; cases hj⟩
    · exact .inr ⟨_, rfl, fun j u hj => by rw [add_none]; exact hc j u hj⟩
theorem bt_z {j k : Nat} (h : j < k) (hk : k ≤ 59) : j + (k - (j + 1)) ≤ maxLen ∧ (j + (k - (j + 1))) * 72 ≤ 140737488355328 := ⟨by unfold maxLen; omega, by omega⟩
theorem btLess {w w2 w7 : World} {g k cap bx j : Nat} {X : List Pt} {y : Pt} {ao7 : Option Addr} {cap7 : Nat} (h : BtAt w w2 g k cap bx X y) (hl : X.length = k) (hj : j < k) (hA : Apped w2.drew 59 7 (some ⟨g, 0, none⟩) (j + (k - (j + 1))) ((X.take j).flatMap ptVs ++ (X.drop (j + 1)).flatMap ptVs) ao7 cap7 w7) :
    BentTo w (.returned (.slice ao7 (j + (k - (j + 1))) cap7)) w7 := by
  have hmem : ∀ x ∈ X.take j ++ X.drop (j + 1), x ∈ X := fun x hx => by
    rcases List.mem_append.1 hx with e | e
    · exact List.mem_of_mem_take e
    · exact List.mem_of_mem_drop e
  have hln : (X.take j ++ X.drop (j + 1)).length = j + (k - (j + 1)) := by rw [List.length_append, List.length_take, List.length_drop, hl]; omega
  have hrow := hA.row
  rw [← List.flatMap_append] at hrow
  have hu : Upd [g] w2 w7 := (Upd.refl [g] w2).drew.trans hA.upd
  refine ⟨_, _, _, X.take j ++ X.drop (j + 1), rfl, ⟨by rw [hln]; exact hrow.sl, fun x hx => ?_⟩, hln, by have := h.k60; omega, fun x hx => (h.pts x (hmem x hx)).2.1, h.upd.then hu (fun _ _ e => e) (fun i hi hm => wt_fresh h.new.1 hi hm)⟩
  obtain ⟨k1, -, k3⟩ := h.pts x (hmem x hx)
  exact SlAt.updS k1 hu (fun c hc hm => by simp only [List.mem_cons, List.not_mem_nil, or_false] at hm; exact (k3 c hc).1 hm)
theorem btLessZ {w w2 w7 : World} {g k cap bx j : Nat} {X : List Pt} {y : Pt} {ao7 : Option Addr} {cap7 : Nat} (h : BtAt w w2 g k cap bx X y) (hl : X.length = k) (hj : j < k) (hz : k - (j + 1) = 0) (hA : Apped w2.drew 59 7 (some ⟨g, 0, none⟩) (j + 0) ((X.take j).flatMap ptVs ++ (X.drop (j + 1)).flatMap ptVs) ao7 cap7 w7) :
    BentTo w (.returned (.slice ao7 j cap7)) w7 := by
  have := btLess h hl hj (by rw [hz]; exact hA)
  rw [hz] at this
  exact this
theorem bt_swap {w w2 w' : World} {g k cap bx j : Nat} {X : List Pt} {y z : Pt} (h : BtAt w w2 g k cap bx X y) (hz : X[j]? = some z)
    (hw : w' = ((((((((w2.setCell ⟨bx, 3, none⟩ (.int .i64 z.r.e)).setCell ⟨bx, 4, none⟩ z.lv).setCell ⟨bx, 5, none⟩ (.int .i64 z.r.n)).setCell ⟨bx, 6, none⟩ (.int .u64 z.r.v)).setCell ⟨g, j * 7 + 3, none⟩ (.int .i64 y.r.e)).setCell ⟨g, j * 7 + 4, none⟩ y.lv).setCell ⟨g, j * 7 + 5, none⟩ (.int .i64 y.r.n)).setCell ⟨g, j * 7 + 6, none⟩ (.int .u64 y.r.v)).drew) :
    BtAt w w' g k cap bx (X.set j { z with r := y.r, lv := y.lv }) { y with r := z.r, lv := z.lv } := by
  obtain ⟨w3, hw3⟩ : ∃ v, (((w2.setCell ⟨bx, 3, none⟩ (.int .i64 z.r.e)).setCell ⟨bx, 4, none⟩ z.lv).setCell ⟨bx, 5, none⟩ (.int .i64 z.r.n)).setCell ⟨bx, 6, none⟩ (.int .u64 z.r.v) = v := ⟨_, rfl⟩
  have u3 : Upd [bx] w2 w3 := by rw [← hw3]; exact ((((Upd.refl [bx] w2).setCell (.inl (by simp)) _).setCell (.inl (by simp)) _).setCell (.inl (by simp)) _).setCell (.inl (by simp)) _
  have hb3 : Blk w3 bx 59 (ptVs { y with r := z.r, lv := z.lv }) := by rw [← hw3]; exact (((h.blk.set 3 (.int .i64 z.r.e)).set 4 z.lv).set 5 (.int .i64 z.r.n)).set 6 (.int .u64 z.r.v)
  have hr3 := h.row.upd u3 (by simpa using h.ne)
  rw [hw3] at hw
  have hjl := (List.getElem?_eq_some_iff.1 hz).1
  have hs : ∀ v : Pt, (X.set j v)[j]? = some v := fun v => by rw [List.getElem?_set_self hjl]
  have h1 := pts_put hr3 hz 3 (by decide) (.int .i64 y.r.e) (y := { z with r := { z.r with e := y.r.e } }) rfl
  have h2 := pts_put h1 (hs _) 4 (by decide) y.lv (y := { z with r := { z.r with e := y.r.e }, lv := y.lv }) rfl
  rw [List.set_set] at h2
  have h3 := pts_put h2 (hs _) 5 (by decide) (.int .i64 y.r.n) (y := { z with r := { z.r with e := y.r.e, n := y.r.n }, lv := y.lv }) rfl
  rw [List.set_set] at h3
  have h4 := pts_put h3 (hs _) 6 (by decide) (.int .u64 y.r.v) (y := { z with r := y.r, lv := y.lv }) (by simp [ptVs])
  rw [List.set_set] at h4
  have u4 : Upd [g] w3 w' := by rw [hw]; exact (((((Upd.refl [g] w3).setCell (.inl (by simp)) _).setCell (.inl (by simp)) _).setCell (.inl (by simp)) _).setCell (.inl (by simp)) _).drew
  have hrow : Row w' 59 7 g k cap ((X.set j { z with r := y.r, lv := y.lv }).flatMap ptVs) := by rw [hw]; exact h4.drew
  have hpt : ∀ v : Pt, (PtAt w2 v ∧ v.r.L.length ≤ 17 ∧ ∀ c ∈ lvB v.lv, c ≠ g ∧ c ≠ bx) → PtAt w' v ∧ v.r.L.length ≤ 17 ∧ ∀ c ∈ lvB v.lv, c ≠ g ∧ c ≠ bx := fun v hv =>
    ⟨SlAt.updS (SlAt.updS hv.1 u3 (fun c hc hm => by simp only [List.mem_cons, List.not_mem_nil, or_false] at hm; exact (hv.2.2 c hc).2 hm)) u4 (fun c hc hm => by simp only [List.mem_cons, List.not_mem_nil, or_false] at hm; exact (hv.2.2 c hc).1 hm), hv.2⟩
  have hz' := hpt z (h.pts z (List.mem_of_getElem? hz))
  have hy' := hpt y h.py
  refine ⟨hrow, by rw [List.length_set]; exact h.len, fun x hx => ?_, hb3.upd u4 (by simpa using h.ne.symm), hz', h.ne, h.new, (h.upd.then u3 (fun _ _ e => e) (fun i hi hm => wt_fresh h.new.2 hi hm)).then u4 (fun _ _ e => e) (fun i hi hm => wt_fresh h.new.1 hi hm), h.k60⟩
  rcases List.mem_or_eq_of_mem_set hx with e | e
  · exact hpt x (h.pts x e)
  · rw [e]; exact hy'
theorem bt_kp {k : Nat} (h : 0 < k) : 0 < (k : Int) := by omega
theorem bt_kq {k : Nat} (h : k ≤ 59) : (k : Int) ≤ 9223372036854775807 := by omega
theorem bt_jj {j k : Nat} (h : j < k) (hk : k ≤ 59) : (j : Int) + 1 ≤ (k : Int) ∧ (j : Int) ≤ (j : Int) + 1 ∧ (0 : Int) ≤ (j : Int) + 1 ∧ IntKind.i64.wrap ((j : Int) + 1) = (j : Int) + 1 ∧ wrap64 ((j : Int) + 1) = (j : Int) + 1 ∧ ((j : Int) + 1).toNat = j + 1 := by
  simp only [IntKind.wrap_i64]
  unfold wrap64
  omega
theorem bt_pk {pl : Nat} (h : pl ≤ 17) : (0 + pl ≤ maxLen ∧ (0 + pl) * 24 ≤ 140737488355328) ∧ (pl + 1 ≤ maxLen ∧ (pl + 1) * 24 ≤ 140737488355328) := ⟨⟨by unfold maxLen; omega, by omega⟩, ⟨by unfold maxLen; omega, by omega⟩⟩
theorem bt_17 {pl : Nat} (h : pl ≤ 16) : pl + 1 ≤ 17 := by omega
theorem bt_alloc {w2 w3 : World} {o : Obj} (h : w2.heap.size ≤ w3.heap.size) : w2.heap.size ≤ (w3.alloc o).heap.size := by simp; omega
theorem bt_upd {w2 w3 w5 : World} {o : Obj} {ao3 : Option Addr} {bx : Nat} (_ : bx < w2.heap.size) (h1 : Upd (blkO none) w2 w3) (hat : ∀ b ∈ blkO ao3, b ∈ blkO none ∨ b = w2.heap.size) (h2 : Upd (blkO ao3) (w3.alloc o) w5) : Upd [] w2 w5 := by
  have e1 : Upd [] w2 (w3.alloc o) := (show Upd [] w2 w3 from h1).alloc o
  refine e1.then h2 (fun _ _ h => h) (fun i hi hm => ?_)
  rcases hat i hm with h | h
  · cases h
  · omega

set_option maxRecDepth 100000 in
set_option maxHeartbeats 16000000 in
theorem bent_some {w : World} {v : Value} {X : List Pt} (hl : PtsAt' w v X) (hk : X.length ≤ 59) (hb : ∀ x ∈ X, x.r.L.length ≤ 16) (kind at_ n : Int) : Calls Tryz.prog 14 #[v, .int .i64 kind, .int .i64 at_, .int .i64 n] w (BentTo w) := by
  have HL := Lib.hid hl
  obtain ⟨-, ao, cap, rfl, -⟩ := pts_at hl
  obtain ⟨k, hkk⟩ : ∃ y, X.length = y := ⟨_, rfl⟩
  have HK := Lib.hid hkk
  have HB16 := Lib.hid hb
  rw [hkk] at hk HL ⊢
  have HK59 := Lib.hid hk
  have HSRC : Hid (Src w 7 ao k (X.flatMap ptVs)) := pts_srcS HL.out HK.out
  have HBN : Hid (0 + k ≤ maxLen ∧ (0 + k) * 72 ≤ 140737488355328) := bt_bn hk
  obtain ⟨ip, hip, hp0, hp1, hp2⟩ := info_parts infoPt_
  clear hl hkk hb
  go_enter Tryz.func14, Tryz.ntmps14
  go_upto_region 2 with (at_builtin; (refine wpList_app2 _ (by rfl) _ _ _ (by rfl) 59 ip _ 7 72 underlyingPts_ hip hp0 hp1 hp2 rfl (by omega) none 0 0 [] (by rfl) (RowO.nil _ _ _) ao k cap (X.flatMap ptVs) (by rfl) HSRC.out HBN.out.1 HBN.out.2 ?_); (intro ao1 cap1 w1 hA1; have HA1 := Lib.hid hA1; clear hA1))
  have hA1 := HA1.out
  rw [Nat.zero_add, List.nil_append] at hA1
  try rw [Nat.zero_add]
  have HU1 : Hid (Upd [] w w1) := hA1.upd
  have HPT1 : Hid (∀ x ∈ X, PtAt w1 x) := fun x hx => (HL.out.2 x hx).upd HU1.out
  rcases Nat.eq_zero_or_pos k with h0 | h0
  · have t1 : ((k : Int) == 0) = true := by simp [h0]
    have t2 : (k == 0) = true := by simp [h0]
    have HFIN : Hid (BentTo w (.returned (.slice ao1 k cap1)) w1) := ⟨ao1, k, cap1, X, rfl, ⟨by rw [HK.out]; exact hA1.row.sl, HPT1.out⟩, HK.out, by omega, fun x hx => by have := HB16.out x hx; omega, HU1.out⟩
    clear hA1 HA1 h0
    go_wp2_with fail
    go_ret
    exact HFIN.out
  · obtain ⟨g, rfl, hrow1⟩ := hA1.row.row h0
    obtain ⟨j, hj, hjk, bj, bj1, t1, t2⟩ := bt_j at_ h0 hk
    have HMJ : Hid (∀ w', Calls Tryz.prog 13 #[.int .i64 at_, .int .i64 k] w' (fun e w2 => e = .returned (.int .i64 j) ∧ w' = w2)) := fun w' => by rw [← hj]; exact mod_any at_ (k : Int) (by omega) (by omega) w'
    obtain ⟨q, hq, hq8⟩ := bt_q kind
    have HMK : Hid (∀ w', Calls Tryz.prog 13 #[.int .i64 kind, .int .i64 9] w' (fun e w2 => e = .returned (.int .i64 q) ∧ w' = w2)) := fun w' => by rw [← hq]; exact mod_any kind 9 (by decide) (by decide) w'
    have HMN : Hid (∀ (d : Int) w', 0 < d → d ≤ 9223372036854775807 → Calls Tryz.prog 13 #[.int .i64 n, .int .i64 d] w' (fun e w2 => e = .returned (.int .i64 (modI n d)) ∧ w' = w2)) := fun d w' h1 h2 => mod_any n d h1 h2 w'
    have HG1 : Hid (g = w.heap.size) := by rcases hA1.at_ g (by simp [blkO]) with h | h; cases h; exact h
    have HJ := Lib.hid hjk
    obtain ⟨p, hp⟩ : ∃ x, X[j]? = some x := ⟨_, List.getElem?_eq_getElem (by rw [HK.out]; exact hjk)⟩
    obtain ⟨ps, pw, pp, ⟨pe, pL, pn, pv⟩, plv⟩ := p
    obtain ⟨lo, lc, hlv, -⟩ := HL.out.2 _ (List.mem_of_getElem? hp)
    simp only at hlv
    subst hlv
    obtain ⟨pl, hpl⟩ : ∃ y, pL.length = y := ⟨_, rfl⟩
    have HPLN := Lib.hid hpl
    rw [hpl] at hp
    have HP := Lib.hid hp
    have HROW1 := Lib.hid hrow1
    have s0 := pts_cell hrow1 hp 0 (by decide) (u := .int .i64 ps) rfl
    have s1 := pts_cell hrow1 hp 1 (by decide) (u := .int .i64 pw) rfl
    have s2 := pts_cell hrow1 hp 2 (by decide) (u := .int .i64 pp) rfl
    have s3 := pts_cell hrow1 hp 3 (by decide) (u := .int .i64 pe) rfl
    have s4 := pts_cell hrow1 hp 4 (by decide) (u := .slice lo pl lc) rfl
    have s5 := pts_cell hrow1 hp 5 (by decide) (u := .int .i64 pn) rfl
    have s6 := pts_cell hrow1 hp 6 (by decide) (u := .int .u64 pv) rfl
    have lr := hrow1.lt
    simp only [Nat.add_zero] at s0
    clear hA1 HA1 hj hq hp hrow1
    go_wp2_with fail
    refine (HMJ.out _).mono ?_
    rintro e w9 ⟨rfl, rfl⟩
    go_upto_region 6 with (fail)
    obtain ⟨w2, hw2⟩ : ∃ y, w1.alloc (.cells #[.int .i64 ps, .int .i64 pw, .int .i64 pp, .int .i64 pe, .slice lo pl lc, .int .i64 pn, .int .u64 pv] 59) = y := ⟨_, rfl⟩
    have u2 : Upd [] w1 w2 := by rw [← hw2]; exact (Upd.refl [] w1).alloc _
    obtain ⟨bx, hbx⟩ : ∃ y, w1.heap.size = y := ⟨_, rfl⟩
    have hb2 : Blk w2 bx 59 (ptVs ⟨ps, pw, pp, ⟨pe, pL, pn, pv⟩, .slice lo pl lc⟩) := by rw [← hw2, ← hbx]; exact Blk.new w1 59 (ptVs ⟨ps, pw, pp, ⟨pe, pL, pn, pv⟩, .slice lo pl lc⟩)
    have HLV : Hid (∀ x ∈ X, ∀ c ∈ lvB x.lv, c ≠ g ∧ c ≠ bx) := fun x hx c hc => by
      have h1 := SlAt.lvB_lt (HL.out.2 x hx) c hc
      have h2 := HG1.out
      have h3 := HU1.out.size
      exact ⟨by omega, by omega⟩
    have HBT : Hid (BtAt w w2 g k cap1 bx X ⟨ps, pw, pp, ⟨pe, pL, pn, pv⟩, .slice lo pl lc⟩) := ⟨HROW1.out.upd u2 (by simp), HK.out, fun x hx => ⟨(HPT1.out x hx).upd u2, by have := HB16.out x hx; omega, HLV.out x hx⟩, hb2, ⟨(HPT1.out _ (List.mem_of_getElem? HP.out)).upd u2, by have := HB16.out _ (List.mem_of_getElem? HP.out); simp only at this ⊢; omega, HLV.out _ (List.mem_of_getElem? HP.out)⟩, by have := HROW1.out.lt; omega, ⟨Nat.le_of_eq HG1.out.symm, by have := HU1.out.size; omega⟩, HU1.out.trans u2, by omega⟩
    rw [hw2, hbx]
    clear s0 s1 s2 s3 s4 s5 s6 lr hw2 hbx u2 hb2
    rcases hq8 with rfl | rfl | rfl | rfl | rfl | rfl | rfl | rfl | rfl
    · -- the code
      obtain ⟨i, hi, hi7, bi7⟩ := bt_i n
      have HMI : Hid (∀ w', Calls Tryz.prog 13 #[.int .i64 n, .int .i64 7] w' (fun e w2 => e = .returned (.int .i64 i) ∧ w' = w2)) := fun w' => by rw [← hi]; exact mod_any n 7 (by decide) (by decide) w'
      obtain ⟨e9, -, he9⟩ := erL_at hi7
      obtain ⟨wE, hwE⟩ : ∃ y, w2.alloc (.cells #[.int .i64 0, .int .i64 10, .int .i64 9, .int .i64 5, .int .i64 1, .int .i64 8, .int .i64 6] 55) = y := ⟨_, rfl⟩
      have uE : Upd [] w2 wE := by rw [← hwE]; exact (Upd.refl [] w2).alloc _
      obtain ⟨bE, hbE⟩ : ∃ y, w2.heap.size = y := ⟨_, rfl⟩
      have hBE : Blk wE bE 55 [.int .i64 0, .int .i64 10, .int .i64 9, .int .i64 5, .int .i64 1, .int .i64 8, .int .i64 6] := by rw [← hwE, ← hbE]; exact Blk.new w2 55 [.int .i64 0, .int .i64 10, .int .i64 9, .int .i64 5, .int .i64 1, .int .i64 8, .int .i64 6]
      have cE := hBE.cell he9
      have lE := hBE.lt
      have HBT := Lib.hid (HBT.out.upd' uE)
      clear hi he9 hBE uE
      have y0 := HBT.out.blk.cell (j := 0) (v := .int .i64 ps) rfl
      have y1 := HBT.out.blk.cell (j := 1) (v := .int .i64 pw) rfl
      have y2 := HBT.out.blk.cell (j := 2) (v := .int .i64 pp) rfl
      have y3 := HBT.out.blk.cell (j := 3) (v := .int .i64 pe) rfl
      have y4 := HBT.out.blk.cell (j := 4) (v := .slice lo pl lc) rfl
      have y5 := HBT.out.blk.cell (j := 5) (v := .int .i64 pn) rfl
      have y6 := HBT.out.blk.cell (j := 6) (v := .int .u64 pv) rfl
      have ly := HBT.out.blk.lt
      have f0 := HBT.out.blk.free 0
      have f1 := HBT.out.blk.free 1
      have f2 := HBT.out.blk.free 2
      have f3 := HBT.out.blk.free 3
      have f4 := HBT.out.blk.free 4
      have f5 := HBT.out.blk.free 5
      have f6 := HBT.out.blk.free 6
      go_wp2_with fail
      refine (HMK.out _).mono ?_
      rintro e w9 ⟨rfl, rfl⟩
      go_upto_region 25 with ((refine (HMI.out _).mono ?_); (rintro e w9 ⟨rfl, rfl⟩))
      try rw [hwE]
      clear hwE hbE
      obtain ⟨wv, hwv⟩ : ∃ y, wE.setCell ⟨bx, 3, none⟩ (.int .i64 e9) = y := ⟨_, rfl⟩
      have HB : Hid (BtAt w wv g k cap1 bx X ⟨ps, pw, pp, ⟨e9, pL, pn, pv⟩, .slice lo pl lc⟩) := HBT.out.turn (by rw [← hwv]; exact HBT.out.blk.set 3 (.int .i64 e9)) (by rw [← hwv]; exact (Upd.refl [bx] wE).setCell (.inl (by simp)) _) rfl rfl
      rw [hwv]
      clear hwv
      clear cE lE
      clear y0 y1 y2 y3 y4 y5 y6 ly
      clear f0 f1 f2 f3 f4 f5 f6
      -- HB: the point as it is now, at wv
      have y0 := HB.out.blk.cell (j := 0) (v := .int .i64 ps) rfl
      have y1 := HB.out.blk.cell (j := 1) (v := .int .i64 pw) rfl
      have y2 := HB.out.blk.cell (j := 2) (v := .int .i64 pp) rfl
      have y3 := HB.out.blk.cell (j := 3) (v := .int .i64 e9) rfl
      have y4 := HB.out.blk.cell (j := 4) (v := .slice lo pl lc) rfl
      have y5 := HB.out.blk.cell (j := 5) (v := .int .i64 pn) rfl
      have y6 := HB.out.blk.cell (j := 6) (v := .int .u64 pv) rfl
      have ly := HB.out.blk.lt
      have r0 := HB.out.row.free (j * 7)
      have r1 := HB.out.row.free (j * 7 + 1)
      have r2 := HB.out.row.free (j * 7 + 2)
      have r3 := HB.out.row.free (j * 7 + 3)
      have r4 := HB.out.row.free (j * 7 + 4)
      have r5 := HB.out.row.free (j * 7 + 5)
      have r6 := HB.out.row.free (j * 7 + 6)
      obtain ⟨pj, hpj⟩ : ∃ z, X[j]? = some z := ⟨_, List.getElem?_eq_getElem (by rw [HB.out.len]; exact HJ.out)⟩
      have HPJ := Lib.hid hpj
      have s0 := pts_cell HB.out.row hpj 0 (by decide) rfl
      have s1 := pts_cell HB.out.row hpj 1 (by decide) rfl
      have s2 := pts_cell HB.out.row hpj 2 (by decide) rfl
      have s3 := pts_cell HB.out.row hpj 3 (by decide) rfl
      have s4 := pts_cell HB.out.row hpj 4 (by decide) rfl
      have s5 := pts_cell HB.out.row hpj 5 (by decide) rfl
      have s6 := pts_cell HB.out.row hpj 6 (by decide) rfl
      have lr := HB.out.row.lt
      simp only [Nat.add_zero] at s0
      clear hpj
      go_wp2_with fail
      go_ret
      exact HB.out.fin HPJ.out rfl
    · -- the number
      have y0 := HBT.out.blk.cell (j := 0) (v := .int .i64 ps) rfl
      have y1 := HBT.out.blk.cell (j := 1) (v := .int .i64 pw) rfl
      have y2 := HBT.out.blk.cell (j := 2) (v := .int .i64 pp) rfl
      have y3 := HBT.out.blk.cell (j := 3) (v := .int .i64 pe) rfl
      have y4 := HBT.out.blk.cell (j := 4) (v := .slice lo pl lc) rfl
      have y5 := HBT.out.blk.cell (j := 5) (v := .int .i64 pn) rfl
      have y6 := HBT.out.blk.cell (j := 6) (v := .int .u64 pv) rfl
      have ly := HBT.out.blk.lt
      have f0 := HBT.out.blk.free 0
      have f1 := HBT.out.blk.free 1
      have f2 := HBT.out.blk.free 2
      have f3 := HBT.out.blk.free 3
      have f4 := HBT.out.blk.free 4
      have f5 := HBT.out.blk.free 5
      have f6 := HBT.out.blk.free 6
      go_upto_region 25 with ((refine (HMK.out _).mono ?_); (rintro e w9 ⟨rfl, rfl⟩))
      obtain ⟨wv, hwv⟩ : ∃ y, w2.setCell ⟨bx, 5, none⟩ (.int .i64 n) = y := ⟨_, rfl⟩
      have HB : Hid (BtAt w wv g k cap1 bx X ⟨ps, pw, pp, ⟨pe, pL, n, pv⟩, .slice lo pl lc⟩) := HBT.out.turn (by rw [← hwv]; exact HBT.out.blk.set 5 (.int .i64 n)) (by rw [← hwv]; exact (Upd.refl [bx] w2).setCell (.inl (by simp)) _) rfl rfl
      rw [hwv]
      clear hwv
      clear y0 y1 y2 y3 y4 y5 y6 ly
      clear f0 f1 f2 f3 f4 f5 f6
      -- HB: the point as it is now, at wv
      have y0 := HB.out.blk.cell (j := 0) (v := .int .i64 ps) rfl
      have y1 := HB.out.blk.cell (j := 1) (v := .int .i64 pw) rfl
      have y2 := HB.out.blk.cell (j := 2) (v := .int .i64 pp) rfl
      have y3 := HB.out.blk.cell (j := 3) (v := .int .i64 pe) rfl
      have y4 := HB.out.blk.cell (j := 4) (v := .slice lo pl lc) rfl
      have y5 := HB.out.blk.cell (j := 5) (v := .int .i64 n) rfl
      have y6 := HB.out.blk.cell (j := 6) (v := .int .u64 pv) rfl
      have ly := HB.out.blk.lt
      have r0 := HB.out.row.free (j * 7)
      have r1 := HB.out.row.free (j * 7 + 1)
      have r2 := HB.out.row.free (j * 7 + 2)
      have r3 := HB.out.row.free (j * 7 + 3)
      have r4 := HB.out.row.free (j * 7 + 4)
      have r5 := HB.out.row.free (j * 7 + 5)
      have r6 := HB.out.row.free (j * 7 + 6)
      obtain ⟨pj, hpj⟩ : ∃ z, X[j]? = some z := ⟨_, List.getElem?_eq_getElem (by rw [HB.out.len]; exact HJ.out)⟩
      have HPJ := Lib.hid hpj
      have s0 := pts_cell HB.out.row hpj 0 (by decide) rfl
      have s1 := pts_cell HB.out.row hpj 1 (by decide) rfl
      have s2 := pts_cell HB.out.row hpj 2 (by decide) rfl
      have s3 := pts_cell HB.out.row hpj 3 (by decide) rfl
      have s4 := pts_cell HB.out.row hpj 4 (by decide) rfl
      have s5 := pts_cell HB.out.row hpj 5 (by decide) rfl
      have s6 := pts_cell HB.out.row hpj 6 (by decide) rfl
      have lr := HB.out.row.lt
      simp only [Nat.add_zero] at s0
      clear hpj
      go_wp2_with fail
      go_ret
      exact HB.out.fin HPJ.out rfl
    · -- the step
      have y0 := HBT.out.blk.cell (j := 0) (v := .int .i64 ps) rfl
      have y1 := HBT.out.blk.cell (j := 1) (v := .int .i64 pw) rfl
      have y2 := HBT.out.blk.cell (j := 2) (v := .int .i64 pp) rfl
      have y3 := HBT.out.blk.cell (j := 3) (v := .int .i64 pe) rfl
      have y4 := HBT.out.blk.cell (j := 4) (v := .slice lo pl lc) rfl
      have y5 := HBT.out.blk.cell (j := 5) (v := .int .i64 pn) rfl
      have y6 := HBT.out.blk.cell (j := 6) (v := .int .u64 pv) rfl
      have ly := HBT.out.blk.lt
      have f0 := HBT.out.blk.free 0
      have f1 := HBT.out.blk.free 1
      have f2 := HBT.out.blk.free 2
      have f3 := HBT.out.blk.free 3
      have f4 := HBT.out.blk.free 4
      have f5 := HBT.out.blk.free 5
      have f6 := HBT.out.blk.free 6
      go_upto_region 25 with ((refine (HMK.out _).mono ?_); (rintro e w9 ⟨rfl, rfl⟩))
      obtain ⟨wv, hwv⟩ : ∃ y, w2.setCell ⟨bx, 0, none⟩ (.int .i64 n) = y := ⟨_, rfl⟩
      have HB : Hid (BtAt w wv g k cap1 bx X ⟨n, pw, pp, ⟨pe, pL, pn, pv⟩, .slice lo pl lc⟩) := HBT.out.turn (by rw [← hwv]; exact HBT.out.blk.set 0 (.int .i64 n)) (by rw [← hwv]; exact (Upd.refl [bx] w2).setCell (.inl (by simp)) _) rfl rfl
      rw [hwv]
      clear hwv
      clear y0 y1 y2 y3 y4 y5 y6 ly
      clear f0 f1 f2 f3 f4 f5 f6
      -- HB: the point as it is now, at wv
      have y0 := HB.out.blk.cell (j := 0) (v := .int .i64 n) rfl
      have y1 := HB.out.blk.cell (j := 1) (v := .int .i64 pw) rfl
      have y2 := HB.out.blk.cell (j := 2) (v := .int .i64 pp) rfl
      have y3 := HB.out.blk.cell (j := 3) (v := .int .i64 pe) rfl
      have y4 := HB.out.blk.cell (j := 4) (v := .slice lo pl lc) rfl
      have y5 := HB.out.blk.cell (j := 5) (v := .int .i64 pn) rfl
      have y6 := HB.out.blk.cell (j := 6) (v := .int .u64 pv) rfl
      have ly := HB.out.blk.lt
      have r0 := HB.out.row.free (j * 7)
      have r1 := HB.out.row.free (j * 7 + 1)
      have r2 := HB.out.row.free (j * 7 + 2)
      have r3 := HB.out.row.free (j * 7 + 3)
      have r4 := HB.out.row.free (j * 7 + 4)
      have r5 := HB.out.row.free (j * 7 + 5)
      have r6 := HB.out.row.free (j * 7 + 6)
      obtain ⟨pj, hpj⟩ : ∃ z, X[j]? = some z := ⟨_, List.getElem?_eq_getElem (by rw [HB.out.len]; exact HJ.out)⟩
      have HPJ := Lib.hid hpj
      have s0 := pts_cell HB.out.row hpj 0 (by decide) rfl
      have s1 := pts_cell HB.out.row hpj 1 (by decide) rfl
      have s2 := pts_cell HB.out.row hpj 2 (by decide) rfl
      have s3 := pts_cell HB.out.row hpj 3 (by decide) rfl
      have s4 := pts_cell HB.out.row hpj 4 (by decide) rfl
      have s5 := pts_cell HB.out.row hpj 5 (by decide) rfl
      have s6 := pts_cell HB.out.row hpj 6 (by decide) rfl
      have lr := HB.out.row.lt
      simp only [Nat.add_zero] at s0
      clear hpj
      go_wp2_with fail
      go_ret
      exact HB.out.fin HPJ.out rfl
    · -- who
      obtain ⟨d, hd⟩ : ∃ y, modI n 5 = y := ⟨_, rfl⟩
      have HMI : Hid (∀ w', Calls Tryz.prog 13 #[.int .i64 n, .int .i64 5] w' (fun e w2 => e = .returned (.int .i64 d) ∧ w' = w2)) := fun w' => by rw [← hd]; exact mod_any n 5 (by decide) (by decide) w'
      clear hd
      have y0 := HBT.out.blk.cell (j := 0) (v := .int .i64 ps) rfl
      have y1 := HBT.out.blk.cell (j := 1) (v := .int .i64 pw) rfl
      have y2 := HBT.out.blk.cell (j := 2) (v := .int .i64 pp) rfl
      have y3 := HBT.out.blk.cell (j := 3) (v := .int .i64 pe) rfl
      have y4 := HBT.out.blk.cell (j := 4) (v := .slice lo pl lc) rfl
      have y5 := HBT.out.blk.cell (j := 5) (v := .int .i64 pn) rfl
      have y6 := HBT.out.blk.cell (j := 6) (v := .int .u64 pv) rfl
      have ly := HBT.out.blk.lt
      have f0 := HBT.out.blk.free 0
      have f1 := HBT.out.blk.free 1
      have f2 := HBT.out.blk.free 2
      have f3 := HBT.out.blk.free 3
      have f4 := HBT.out.blk.free 4
      have f5 := HBT.out.blk.free 5
      have f6 := HBT.out.blk.free 6
      go_wp2_with fail
      refine (HMK.out _).mono ?_
      rintro e w9 ⟨rfl, rfl⟩
      go_upto_region 25 with ((refine (HMI.out _).mono ?_); (rintro e w9 ⟨rfl, rfl⟩))
      obtain ⟨z, hz⟩ : ∃ z, wrap64 (d - 1) = z := ⟨_, rfl⟩
      rw [hz]
      obtain ⟨wv, hwv⟩ : ∃ y, w2.setCell ⟨bx, 1, none⟩ (.int .i64 z) = y := ⟨_, rfl⟩
      have HB : Hid (BtAt w wv g k cap1 bx X ⟨ps, z, pp, ⟨pe, pL, pn, pv⟩, .slice lo pl lc⟩) := HBT.out.turn (by rw [← hwv]; exact HBT.out.blk.set 1 (.int .i64 z)) (by rw [← hwv]; exact (Upd.refl [bx] w2).setCell (.inl (by simp)) _) rfl rfl
      rw [hwv]
      clear hwv hz
      clear y0 y1 y2 y3 y4 y5 y6 ly
      clear f0 f1 f2 f3 f4 f5 f6
      -- HB: the point as it is now, at wv
      have y0 := HB.out.blk.cell (j := 0) (v := .int .i64 ps) rfl
      have y1 := HB.out.blk.cell (j := 1) (v := .int .i64 z) rfl
      have y2 := HB.out.blk.cell (j := 2) (v := .int .i64 pp) rfl
      have y3 := HB.out.blk.cell (j := 3) (v := .int .i64 pe) rfl
      have y4 := HB.out.blk.cell (j := 4) (v := .slice lo pl lc) rfl
      have y5 := HB.out.blk.cell (j := 5) (v := .int .i64 pn) rfl
      have y6 := HB.out.blk.cell (j := 6) (v := .int .u64 pv) rfl
      have ly := HB.out.blk.lt
      have r0 := HB.out.row.free (j * 7)
      have r1 := HB.out.row.free (j * 7 + 1)
      have r2 := HB.out.row.free (j * 7 + 2)
      have r3 := HB.out.row.free (j * 7 + 3)
      have r4 := HB.out.row.free (j * 7 + 4)
      have r5 := HB.out.row.free (j * 7 + 5)
      have r6 := HB.out.row.free (j * 7 + 6)
      obtain ⟨pj, hpj⟩ : ∃ z, X[j]? = some z := ⟨_, List.getElem?_eq_getElem (by rw [HB.out.len]; exact HJ.out)⟩
      have HPJ := Lib.hid hpj
      have s0 := pts_cell HB.out.row hpj 0 (by decide) rfl
      have s1 := pts_cell HB.out.row hpj 1 (by decide) rfl
      have s2 := pts_cell HB.out.row hpj 2 (by decide) rfl
      have s3 := pts_cell HB.out.row hpj 3 (by decide) rfl
      have s4 := pts_cell HB.out.row hpj 4 (by decide) rfl
      have s5 := pts_cell HB.out.row hpj 5 (by decide) rfl
      have s6 := pts_cell HB.out.row hpj 6 (by decide) rfl
      have lr := HB.out.row.lt
      simp only [Nat.add_zero] at s0
      clear hpj
      go_wp2_with fail
      go_ret
      exact HB.out.fin HPJ.out rfl
    · -- where
      obtain ⟨d, hd⟩ : ∃ y, modI n 7 = y := ⟨_, rfl⟩
      have HMI : Hid (∀ w', Calls Tryz.prog 13 #[.int .i64 n, .int .i64 7] w' (fun e w2 => e = .returned (.int .i64 d) ∧ w' = w2)) := fun w' => by rw [← hd]; exact mod_any n 7 (by decide) (by decide) w'
      clear hd
      have y0 := HBT.out.blk.cell (j := 0) (v := .int .i64 ps) rfl
      have y1 := HBT.out.blk.cell (j := 1) (v := .int .i64 pw) rfl
      have y2 := HBT.out.blk.cell (j := 2) (v := .int .i64 pp) rfl
      have y3 := HBT.out.blk.cell (j := 3) (v := .int .i64 pe) rfl
      have y4 := HBT.out.blk.cell (j := 4) (v := .slice lo pl lc) rfl
      have y5 := HBT.out.blk.cell (j := 5) (v := .int .i64 pn) rfl
      have y6 := HBT.out.blk.cell (j := 6) (v := .int .u64 pv) rfl
      have ly := HBT.out.blk.lt
      have f0 := HBT.out.blk.free 0
      have f1 := HBT.out.blk.free 1
      have f2 := HBT.out.blk.free 2
      have f3 := HBT.out.blk.free 3
      have f4 := HBT.out.blk.free 4
      have f5 := HBT.out.blk.free 5
      have f6 := HBT.out.blk.free 6
      go_wp2_with fail
      refine (HMK.out _).mono ?_
      rintro e w9 ⟨rfl, rfl⟩
      go_upto_region 25 with ((refine (HMI.out _).mono ?_); (rintro e w9 ⟨rfl, rfl⟩))
      obtain ⟨z, hz⟩ : ∃ z, wrap64 (d - 1) = z := ⟨_, rfl⟩
      rw [hz]
      obtain ⟨wv, hwv⟩ : ∃ y, w2.setCell ⟨bx, 2, none⟩ (.int .i64 z) = y := ⟨_, rfl⟩
      have HB : Hid (BtAt w wv g k cap1 bx X ⟨ps, pw, z, ⟨pe, pL, pn, pv⟩, .slice lo pl lc⟩) := HBT.out.turn (by rw [← hwv]; exact HBT.out.blk.set 2 (.int .i64 z)) (by rw [← hwv]; exact (Upd.refl [bx] w2).setCell (.inl (by simp)) _) rfl rfl
      rw [hwv]
      clear hwv hz
      clear y0 y1 y2 y3 y4 y5 y6 ly
      clear f0 f1 f2 f3 f4 f5 f6
      -- HB: the point as it is now, at wv
      have y0 := HB.out.blk.cell (j := 0) (v := .int .i64 ps) rfl
      have y1 := HB.out.blk.cell (j := 1) (v := .int .i64 pw) rfl
      have y2 := HB.out.blk.cell (j := 2) (v := .int .i64 z) rfl
      have y3 := HB.out.blk.cell (j := 3) (v := .int .i64 pe) rfl
      have y4 := HB.out.blk.cell (j := 4) (v := .slice lo pl lc) rfl
      have y5 := HB.out.blk.cell (j := 5) (v := .int .i64 pn) rfl
      have y6 := HB.out.blk.cell (j := 6) (v := .int .u64 pv) rfl
      have ly := HB.out.blk.lt
      have r0 := HB.out.row.free (j * 7)
      have r1 := HB.out.row.free (j * 7 + 1)
      have r2 := HB.out.row.free (j * 7 + 2)
      have r3 := HB.out.row.free (j * 7 + 3)
      have r4 := HB.out.row.free (j * 7 + 4)
      have r5 := HB.out.row.free (j * 7 + 5)
      have r6 := HB.out.row.free (j * 7 + 6)
      obtain ⟨pj, hpj⟩ : ∃ z, X[j]? = some z := ⟨_, List.getElem?_eq_getElem (by rw [HB.out.len]; exact HJ.out)⟩
      have HPJ := Lib.hid hpj
      have s0 := pts_cell HB.out.row hpj 0 (by decide) rfl
      have s1 := pts_cell HB.out.row hpj 1 (by decide) rfl
      have s2 := pts_cell HB.out.row hpj 2 (by decide) rfl
      have s3 := pts_cell HB.out.row hpj 3 (by decide) rfl
      have s4 := pts_cell HB.out.row hpj 4 (by decide) rfl
      have s5 := pts_cell HB.out.row hpj 5 (by decide) rfl
      have s6 := pts_cell HB.out.row hpj 6 (by decide) rfl
      have lr := HB.out.row.lt
      simp only [Nat.add_zero] at s0
      clear hpj
      go_wp2_with fail
      go_ret
      exact HB.out.fin HPJ.out rfl
    · -- two Rets change places
      obtain ⟨j2, hj2, hjk2, bj2, -, -, -⟩ := bt_j n h0 hk
      have HMI : Hid (∀ w', Calls Tryz.prog 13 #[.int .i64 n, .int .i64 k] w' (fun e w2 => e = .returned (.int .i64 j2) ∧ w' = w2)) := fun w' => by rw [← hj2]; exact mod_any n (k : Int) (bt_kp h0) (bt_kq hk) w'
      obtain ⟨q2, hq2⟩ : ∃ x, X[j2]? = some x := ⟨_, List.getElem?_eq_getElem (by rw [HK.out]; exact hjk2)⟩
      obtain ⟨qs, qw, qp, ⟨qe, qL, qn, qv⟩, qlv⟩ := q2
      obtain ⟨lo2, lc2, hlv2, -⟩ := HL.out.2 _ (List.mem_of_getElem? hq2)
      simp only at hlv2
      subst hlv2
      obtain ⟨pl2, hpl2⟩ : ∃ y, qL.length = y := ⟨_, rfl⟩
      rw [hpl2] at hq2
      have HQ2 := Lib.hid hq2
      have hrow2 := HBT.out.row
      have r3 := pts_cell hrow2 hq2 3 (by decide) (u := .int .i64 qe) rfl
      have r4 := pts_cell hrow2 hq2 4 (by decide) (u := .slice lo2 pl2 lc2) rfl
      have r5 := pts_cell hrow2 hq2 5 (by decide) (u := .int .i64 qn) rfl
      have r6 := pts_cell hrow2 hq2 6 (by decide) (u := .int .u64 qv) rfl
      have e3 := hrow2.free (j2 * 7 + 3)
      have e4 := hrow2.free (j2 * 7 + 4)
      have e5 := hrow2.free (j2 * 7 + 5)
      have e6 := hrow2.free (j2 * 7 + 6)
      have lr2 := hrow2.lt
      have ngb : g ≠ bx := HBT.out.ne
      have nbg : bx ≠ g := HBT.out.ne.symm
      clear hj2 hq2 hpl2 hrow2
      have y0 := HBT.out.blk.cell (j := 0) (v := .int .i64 ps) rfl
      have y1 := HBT.out.blk.cell (j := 1) (v := .int .i64 pw) rfl
      have y2 := HBT.out.blk.cell (j := 2) (v := .int .i64 pp) rfl
      have y3 := HBT.out.blk.cell (j := 3) (v := .int .i64 pe) rfl
      have y4 := HBT.out.blk.cell (j := 4) (v := .slice lo pl lc) rfl
      have y5 := HBT.out.blk.cell (j := 5) (v := .int .i64 pn) rfl
      have y6 := HBT.out.blk.cell (j := 6) (v := .int .u64 pv) rfl
      have ly := HBT.out.blk.lt
      have f0 := HBT.out.blk.free 0
      have f1 := HBT.out.blk.free 1
      have f2 := HBT.out.blk.free 2
      have f3 := HBT.out.blk.free 3
      have f4 := HBT.out.blk.free 4
      have f5 := HBT.out.blk.free 5
      have f6 := HBT.out.blk.free 6
      go_wp2_with fail
      refine (HMK.out _).mono ?_
      rintro e w9 ⟨rfl, rfl⟩
      go_upto_region 20 with ((refine (HMI.out _).mono ?_); (rintro e w9 ⟨rfl, rfl⟩))
      have c3 : w2.drew.cell? ⟨bx, 3, none⟩ = _ := y3
      have c4 : w2.drew.cell? ⟨bx, 4, none⟩ = _ := y4
      have c5 : w2.drew.cell? ⟨bx, 5, none⟩ = _ := y5
      have c6 : w2.drew.cell? ⟨bx, 6, none⟩ = _ := y6
      have d3 : w2.drew.cell? ⟨g, j2 * 7 + 3, none⟩ = _ := r3
      have d4 : w2.drew.cell? ⟨g, j2 * 7 + 4, none⟩ = _ := r4
      have d5 : w2.drew.cell? ⟨g, j2 * 7 + 5, none⟩ = _ := r5
      have d6 : w2.drew.cell? ⟨g, j2 * 7 + 6, none⟩ = _ := r6
      go_region
      all_goals go_upto_region 25 with (fail)
      all_goals
        obtain ⟨wv, hwv⟩ : ∃ y, ((((((((w2.setCell ⟨bx, 3, none⟩ (.int .i64 qe)).setCell ⟨bx, 4, none⟩ (.slice lo2 pl2 lc2)).setCell ⟨bx, 5, none⟩ (.int .i64 qn)).setCell ⟨bx, 6, none⟩ (.int .u64 qv)).setCell ⟨g, j2 * 7 + 3, none⟩ (.int .i64 pe)).setCell ⟨g, j2 * 7 + 4, none⟩ (.slice lo pl lc)).setCell ⟨g, j2 * 7 + 5, none⟩ (.int .i64 pn)).setCell ⟨g, j2 * 7 + 6, none⟩ (.int .u64 pv)).drew = y := ⟨_, rfl⟩
        have HB : Hid (BtAt w wv g k cap1 bx (X.set j2 ⟨qs, qw, qp, ⟨pe, pL, pn, pv⟩, .slice lo pl lc⟩) ⟨ps, pw, pp, ⟨qe, qL, qn, qv⟩, .slice lo2 pl2 lc2⟩) := bt_swap HBT.out HQ2.out hwv.symm
        rw [hwv]
        clear y0 y1 y2 y3 y4 y5 y6 ly r3 r4 r5 r6 e3 e4 e5 e6 lr2 c3 c4 c5 c6 d3 d4 d5 d6 f0 f1 f2 f3 f4 f5 f6 hwv ngb nbg
        obtain ⟨X2, hX2⟩ : ∃ y, X.set j2 ⟨qs, qw, qp, ⟨pe, pL, pn, pv⟩, .slice lo pl lc⟩ = y := ⟨_, rfl⟩
        rw [hX2] at HB
        clear hX2
        -- HB: the point as it is now, at wv
        have y0 := HB.out.blk.cell (j := 0) (v := .int .i64 ps) rfl
        have y1 := HB.out.blk.cell (j := 1) (v := .int .i64 pw) rfl
        have y2 := HB.out.blk.cell (j := 2) (v := .int .i64 pp) rfl
        have y3 := HB.out.blk.cell (j := 3) (v := .int .i64 qe) rfl
        have y4 := HB.out.blk.cell (j := 4) (v := .slice lo2 pl2 lc2) rfl
        have y5 := HB.out.blk.cell (j := 5) (v := .int .i64 qn) rfl
        have y6 := HB.out.blk.cell (j := 6) (v := .int .u64 qv) rfl
        have ly := HB.out.blk.lt
        have r0 := HB.out.row.free (j * 7)
        have r1 := HB.out.row.free (j * 7 + 1)
        have r2 := HB.out.row.free (j * 7 + 2)
        have r3 := HB.out.row.free (j * 7 + 3)
        have r4 := HB.out.row.free (j * 7 + 4)
        have r5 := HB.out.row.free (j * 7 + 5)
        have r6 := HB.out.row.free (j * 7 + 6)
        obtain ⟨pj, hpj⟩ : ∃ z, X2[j]? = some z := ⟨_, List.getElem?_eq_getElem (by rw [HB.out.len]; exact HJ.out)⟩
        have HPJ := Lib.hid hpj
        have s0 := pts_cell HB.out.row hpj 0 (by decide) rfl
        have s1 := pts_cell HB.out.row hpj 1 (by decide) rfl
        have s2 := pts_cell HB.out.row hpj 2 (by decide) rfl
        have s3 := pts_cell HB.out.row hpj 3 (by decide) rfl
        have s4 := pts_cell HB.out.row hpj 4 (by decide) rfl
        have s5 := pts_cell HB.out.row hpj 5 (by decide) rfl
        have s6 := pts_cell HB.out.row hpj 6 (by decide) rfl
        have lr := HB.out.row.lt
        simp only [Nat.add_zero] at s0
        clear hpj
        go_wp2_with fail
        go_ret
        exact HB.out.fin HPJ.out rfl
    · -- one packet more
      obtain ⟨d, hd⟩ : ∃ y, modI n 3 = y := ⟨_, rfl⟩
      have HMI : Hid (∀ w', Calls Tryz.prog 13 #[.int .i64 n, .int .i64 3] w' (fun e w2 => e = .returned (.int .i64 d) ∧ w' = w2)) := fun w' => by rw [← hd]; exact mod_any n 3 (by decide) (by decide) w'
      clear hd
      obtain ⟨ik, hik, hk0, hk1, hk2⟩ := info_parts infoPk
      have HPL15 : Hid (pl ≤ 16) := by have := HB16.out _ (List.mem_of_getElem? HP.out); simp only [HPLN.out] at this; exact this
      have HPL16 : Hid (pl ≤ 17) := Nat.le_succ_of_le HPL15.out
      have HKS : Hid (Src w2 3 lo pl (pL.flatMap pkVs)) := by
        have := HBT.out.py.1
        unfold PtAt at this
        simp only [HPLN.out] at this
        exact pk_srcS this
      have HB1 : Hid ((0 + pl ≤ maxLen ∧ (0 + pl) * 24 ≤ 140737488355328) ∧ (pl + 1 ≤ maxLen ∧ (pl + 1) * 24 ≤ 140737488355328)) := bt_pk HPL16.out
      have HBXL : Hid (bx < w2.heap.size) := HBT.out.blk.lt
      have y0 := HBT.out.blk.cell (j := 0) (v := .int .i64 ps) rfl
      have y1 := HBT.out.blk.cell (j := 1) (v := .int .i64 pw) rfl
      have y2 := HBT.out.blk.cell (j := 2) (v := .int .i64 pp) rfl
      have y3 := HBT.out.blk.cell (j := 3) (v := .int .i64 pe) rfl
      have y4 := HBT.out.blk.cell (j := 4) (v := .slice lo pl lc) rfl
      have y5 := HBT.out.blk.cell (j := 5) (v := .int .i64 pn) rfl
      have y6 := HBT.out.blk.cell (j := 6) (v := .int .u64 pv) rfl
      have ly := HBT.out.blk.lt
      go_wp2_with fail
      refine (HMK.out _).mono ?_
      rintro e w9 ⟨rfl, rfl⟩
      go_upto_region 25 with (first
        | (at_builtin; (refine wpList_app2 _ (by rfl) _ _ _ (by rfl) 54 ik _ 3 24 underlyingPks hik hk0 hk1 hk2 rfl (by omega) none 0 0 [] (by rfl) (RowO.nil _ _ _) lo pl lc (pL.flatMap pkVs) (by rfl) HKS.out HB1.out.1.1 HB1.out.1.2 ?_); (intro ao3 cap3 w3 hA3; have HA3 : Hid (Apped w2 54 3 none pl (pL.flatMap pkVs) ao3 cap3 w3) := (by have := hA3; rw [Nat.zero_add, List.nil_append] at this; exact this); clear hA3 y0 y1 y2 y3 y4 y5 y6 ly))
        | (at_builtin; (refine wpList_app2 _ (by rfl) _ _ _ (by rfl) 54 ik _ 3 24 underlyingPks hik hk0 hk1 hk2 rfl (by omega) ao3 pl cap3 (pL.flatMap pkVs) (by rfl) (HA3.out.row.upd ((Upd.refl [] w3).alloc (.cells #[.int .i64 d, .int .i64 1, .int .i64 0] 54)) (by simp)) (some ⟨w3.heap.size, 0, none⟩) 1 1 [.int .i64 d, .int .i64 1, .int .i64 0] (by rfl) (one_src w3 54 [.int .i64 d, .int .i64 1, .int .i64 0] (by simp [Value.oneCell']) 3 rfl) HB1.out.2.1 HB1.out.2.2 ?_); (intro ao5 cap5 w5 hA5; have HA5 := Lib.hid hA5; have hu5 := bt_upd HBXL.out HA3.out.upd HA3.out.at_ HA5.out.upd; have HU5 := Lib.hid hu5; have hb5 := HBT.out.blk.upd hu5 (by simp); have y4 := hb5.cell (j := 4) (v := .slice lo pl lc) rfl; have f4 := hb5.free 4; have ly := hb5.lt; clear hA5 hu5 hb5))
        | ((refine (HMI.out _).mono ?_); (rintro e w9 ⟨rfl, rfl⟩)))
      have HB := Lib.hid (HBT.out.pack (ao := ao5) (n := pl + 1) (c := cap5) (L := pL ++ [⟨d, 1, 0⟩]) HU5.out (by
        have h1 : RowO w5 54 3 ao5 (pl + 1) cap5 ((pL ++ [⟨d, 1, 0⟩] : List Pk).flatMap pkVs) := by have := HA5.out.row; rw [List.flatMap_append]; exact this
        rw [List.length_append, HPLN.out]; exact h1.sl) (fun b hm => by
        have h1 := lvB_blk hm
        rcases HA5.out.at_ b h1 with h | h
        · rcases HA3.out.at_ b h with h | h
          · cases h
          · exact Nat.le_of_eq h.symm
        · rw [h]; exact bt_alloc HA3.out.upd.size) (by rw [List.length_append, HPLN.out]; exact bt_17 HPL15.out))
      obtain ⟨wv, hwv⟩ : ∃ y, w5.setCell ⟨bx, 4, none⟩ (.slice ao5 (pl + 1) cap5) = y := ⟨_, rfl⟩
      rw [hwv] at HB ⊢
      clear hwv y4 f4 ly
      obtain ⟨pl1, hpl1⟩ : ∃ y, pl + 1 = y := ⟨_, rfl⟩
      rw [hpl1] at HB ⊢
      clear hpl1
      -- HB: the point as it is now, at wv
      have y0 := HB.out.blk.cell (j := 0) (v := .int .i64 ps) rfl
      have y1 := HB.out.blk.cell (j := 1) (v := .int .i64 pw) rfl
      have y2 := HB.out.blk.cell (j := 2) (v := .int .i64 pp) rfl
      have y3 := HB.out.blk.cell (j := 3) (v := .int .i64 pe) rfl
      have y4 := HB.out.blk.cell (j := 4) (v := .slice ao5 pl1 cap5) rfl
      have y5 := HB.out.blk.cell (j := 5) (v := .int .i64 pn) rfl
      have y6 := HB.out.blk.cell (j := 6) (v := .int .u64 pv) rfl
      have ly := HB.out.blk.lt
      have r0 := HB.out.row.free (j * 7)
      have r1 := HB.out.row.free (j * 7 + 1)
      have r2 := HB.out.row.free (j * 7 + 2)
      have r3 := HB.out.row.free (j * 7 + 3)
      have r4 := HB.out.row.free (j * 7 + 4)
      have r5 := HB.out.row.free (j * 7 + 5)
      have r6 := HB.out.row.free (j * 7 + 6)
      obtain ⟨pj, hpj⟩ : ∃ z, X[j]? = some z := ⟨_, List.getElem?_eq_getElem (by rw [HB.out.len]; exact HJ.out)⟩
      have HPJ := Lib.hid hpj
      have s0 := pts_cell HB.out.row hpj 0 (by decide) rfl
      have s1 := pts_cell HB.out.row hpj 1 (by decide) rfl
      have s2 := pts_cell HB.out.row hpj 2 (by decide) rfl
      have s3 := pts_cell HB.out.row hpj 3 (by decide) rfl
      have s4 := pts_cell HB.out.row hpj 4 (by decide) rfl
      have s5 := pts_cell HB.out.row hpj 5 (by decide) rfl
      have s6 := pts_cell HB.out.row hpj 6 (by decide) rfl
      have lr := HB.out.row.lt
      simp only [Nat.add_zero] at s0
      clear hpj
      go_wp2_with fail
      go_ret
      exact HB.out.fin HPJ.out rfl
    · -- one point less
      go_wp2_with fail
      refine (HMK.out _).mono ?_
      rintro e w9 ⟨rfl, rfl⟩
      have hkc : k ≤ cap1 := HROW1.out.o.cap_le.1
      have hjc : j ≤ cap1 := Nat.le_trans (Nat.le_of_lt HJ.out) hkc
      have hj1k : j + 1 ≤ k := HJ.out
      have hj1c : j + 1 ≤ cap1 := Nat.le_trans hj1k hkc
      obtain ⟨hj1i, hj2i, hj3i, wj1, wj2, tj⟩ := bt_jj HJ.out HK59.out
      have HRT : Hid (∀ w', Upd [] w2 w' → RowO w' 59 7 (some ⟨g, 0, none⟩) j cap1 ((X.take j).flatMap ptVs)) := fun w' hu => (pts_rowTake (HBT.out.row.upd hu (by simp)) HK.out (Nat.le_of_lt HJ.out)).o
      have HSD : Hid (∀ w' off, Upd [] w2 w' → (off = (j + 1) * 7 ∨ k - (j + 1) = 0) → Src w' 7 (some ⟨g, off, none⟩) (k - (j + 1)) ((X.drop (j + 1)).flatMap ptVs)) := fun w' off hu ho => pts_srcDrop (HBT.out.row.upd hu (by simp)) HK.out (fun x hx => (HBT.out.pts x hx).1.upd hu) HJ.out off ho
      have HBZ : Hid (j + (k - (j + 1)) ≤ maxLen ∧ (j + (k - (j + 1))) * 72 ≤ 140737488355328) := bt_z HJ.out HK59.out
      have HLT0 : Hid (cap1 = j + 1 → k - (j + 1) = 0) := fun e => by omega
      by_cases hce : cap1 = j + 1
      · have HZ0 : Hid (k - (j + 1) = 0) := HLT0.out hce
        have HSX : Hid (Src w2.drew 7 (some ⟨g, 0, none⟩) 0 ((X.drop (j + 1)).flatMap ptVs)) := by have := HSD.out w2.drew 0 (Upd.refl [] w2).drew (.inr HZ0.out); rw [HZ0.out] at this; exact this
        have HBY : Hid (j + 0 ≤ maxLen ∧ (j + 0) * 72 ≤ 140737488355328) := by have := HBZ.out; rw [HZ0.out] at this; exact this
        subst hce
        go_upto_region 24 with (fail)
        refine wp_region_held_drew (S := fun w' => Upd [g] w2 w' ∧ ∀ (b o : Nat), b < w2.heap.size → b ∉ [g] → w'.cell? ⟨b, o, none⟩ = w2.cell? ⟨b, o, none⟩) (by kernel_rfl) (Held.init _ _) (fun hHeld => ?_)
        refine wpAnyH_take (i := 0) (v := ?_) rfl (by kernel_rfl) (by kernel_rfl) (by kernel_rfl) (fun _ _ _ h => h) (Or.inl ⟨by rfl, ?_⟩) (by assumption) ?_
        rotate_left
        · intro w hSw
          try dsimp only at hSw
          go_simp
          try with_reducible rfl
        try simp only [List.getElem_toArray, List.getElem_cons_zero, List.getElem_cons_succ, Act.put, List.setIfInBounds_toArray, List.set_cons_zero, List.set_cons_succ]
        refine wpAnyH_take (i := 1) (v := ?_) rfl (by kernel_rfl) (by kernel_rfl) (by kernel_rfl) (fun _ _ _ h => h) (Or.inl ⟨by rfl, ?_⟩) (by assumption) ?_
        rotate_left
        · intro w hSw
          try dsimp only at hSw
          go_simp
          try with_reducible rfl
        try simp only [List.getElem_toArray, List.getElem_cons_zero, List.getElem_cons_succ, Act.put, List.setIfInBounds_toArray, List.set_cons_zero, List.set_cons_succ]
        refine wpAnyH_take (i := 2) (v := ?_) rfl (by kernel_rfl) (by kernel_rfl) (by kernel_rfl) (fun _ _ _ h => h) (Or.inl ⟨by rfl, ?_⟩) (by assumption) ?_
        rotate_left
        · intro w hSw
          try dsimp only at hSw
          go_simp
          try with_reducible rfl
        try simp only [List.getElem_toArray, List.getElem_cons_zero, List.getElem_cons_succ, Act.put, List.setIfInBounds_toArray, List.set_cons_zero, List.set_cons_succ]
        refine wpAnyH_take (i := 3) (v := ?_) rfl (by kernel_rfl) (by kernel_rfl) (by kernel_rfl) (fun _ _ _ h => h) (Or.inl ⟨by rfl, ?_⟩) (by assumption) ?_
        rotate_left
        · intro w hSw
          try dsimp only at hSw
          go_simp
          try with_reducible rfl
        try simp only [List.getElem_toArray, List.getElem_cons_zero, List.getElem_cons_succ, Act.put, List.setIfInBounds_toArray, List.set_cons_zero, List.set_cons_succ]
        refine wpAnyH_take (i := 4) (v := ?_) rfl (by kernel_rfl) (by kernel_rfl) (by kernel_rfl) (fun _ _ _ h => h) (Or.inl ⟨by rfl, ?_⟩) (by assumption) ?_
        rotate_left
        · intro w hSw
          try dsimp only at hSw
          go_simp
          try with_reducible rfl
        try simp only [List.getElem_toArray, List.getElem_cons_zero, List.getElem_cons_succ, Act.put, List.setIfInBounds_toArray, List.set_cons_zero, List.set_cons_succ]
        refine wpAnyH_take (i := 5) (v := ?_) rfl (by kernel_rfl) (by kernel_rfl) (by kernel_rfl) (fun _ _ _ h => h) (Or.inl ⟨by rfl, ?_⟩) (by assumption) ?_
        rotate_left
        · intro w hSw
          try dsimp only at hSw
          go_simp
          try with_reducible rfl
        try simp only [List.getElem_toArray, List.getElem_cons_zero, List.getElem_cons_succ, Act.put, List.setIfInBounds_toArray, List.set_cons_zero, List.set_cons_succ]
        refine wpAnyH_take (i := 6) (v := ?_) rfl (by kernel_rfl) (by kernel_rfl) (by kernel_rfl) (fun _ _ _ h => h) (Or.inl ⟨by rfl, ?_⟩) (by assumption) ?_
        rotate_left
        · intro w hSw
          try dsimp only at hSw
          go_simp
          try with_reducible rfl
        try simp only [List.getElem_toArray, List.getElem_cons_zero, List.getElem_cons_succ, Act.put, List.setIfInBounds_toArray, List.set_cons_zero, List.set_cons_succ]
        refine wpAnyH_ready (rs := [7]) (by kernel_rfl) (by simp) ?_
        refine AllReadyH.cons rfl (fun K hK => ?_) AllReadyH.nil
        refine step_app2 _ (by rfl) _ _ _ (by rfl) 59 ip _ 7 72 underlyingPts_ hip hp0 hp1 hp2 rfl (by decide) (some ⟨g, 0, none⟩) j (j + 1) ((X.take j).flatMap ptVs) (by rfl) (HRT.out w2.drew (Upd.refl [] w2).drew) (some ⟨g, 0, none⟩) 0 _ ((X.drop (j + 1)).flatMap ptVs) (by rfl) HSX.out HBY.out.1 HBY.out.2 ?_
        intro ao7 cap7 w7 hA7
        have HA7 := Lib.hid hA7
        have hu7 : Upd [g] w2 w7 := (Upd.refl [g] w2).drew.trans hA7.upd
        clear hA7
        refine hK.out _ _ (And.intro hu7 hu7.cells) (fun hHeldN => ?_)
        clear hu7
        clear hK K hHeld
        have hHeld := hHeldN
        clear hHeldN
        try simp only [List.getElem_toArray, List.getElem_cons_zero, List.getElem_cons_succ, Act.put, List.setIfInBounds_toArray, List.set_cons_zero, List.set_cons_succ]
        refine wpAnyH_take (i := 8) (v := ?_) rfl (by kernel_rfl) (by kernel_rfl) (by kernel_rfl) (fun _ _ _ h => h) (Or.inl ⟨by rfl, ?_⟩) (by assumption) ?_
        rotate_left
        · intro w hSw
          try dsimp only at hSw
          go_simp
          try with_reducible rfl
        try simp only [List.getElem_toArray, List.getElem_cons_zero, List.getElem_cons_succ, Act.put, List.setIfInBounds_toArray, List.set_cons_zero, List.set_cons_succ]
        refine wpAnyH_done (by kernel_rfl) ?_ _
        go_wp2_with fail
        go_ret
        (exact btLessZ HBT.out HK.out HJ.out HZ0.out HA7.out)
      · have HSX : Hid (Src w2.drew 7 (some ⟨g, (j + 1) * 7, none⟩) (k - (j + 1)) ((X.drop (j + 1)).flatMap ptVs)) := HSD.out w2.drew _ (Upd.refl [] w2).drew (.inl rfl)
        have HBY := HBZ
        go_upto_region 24 with (fail)
        refine wp_region_held_drew (S := fun w' => Upd [g] w2 w' ∧ ∀ (b o : Nat), b < w2.heap.size → b ∉ [g] → w'.cell? ⟨b, o, none⟩ = w2.cell? ⟨b, o, none⟩) (by kernel_rfl) (Held.init _ _) (fun hHeld => ?_)
        refine wpAnyH_take (i := 0) (v := ?_) rfl (by kernel_rfl) (by kernel_rfl) (by kernel_rfl) (fun _ _ _ h => h) (Or.inl ⟨by rfl, ?_⟩) (by assumption) ?_
        rotate_left
        · intro w hSw
          try dsimp only at hSw
          go_simp
          try with_reducible rfl
        try simp only [List.getElem_toArray, List.getElem_cons_zero, List.getElem_cons_succ, Act.put, List.setIfInBounds_toArray, List.set_cons_zero, List.set_cons_succ]
        refine wpAnyH_take (i := 1) (v := ?_) rfl (by kernel_rfl) (by kernel_rfl) (by kernel_rfl) (fun _ _ _ h => h) (Or.inl ⟨by rfl, ?_⟩) (by assumption) ?_
        rotate_left
        · intro w hSw
          try dsimp only at hSw
          go_simp
          try with_reducible rfl
        try simp only [List.getElem_toArray, List.getElem_cons_zero, List.getElem_cons_succ, Act.put, List.setIfInBounds_toArray, List.set_cons_zero, List.set_cons_succ]
        refine wpAnyH_take (i := 2) (v := ?_) rfl (by kernel_rfl) (by kernel_rfl) (by kernel_rfl) (fun _ _ _ h => h) (Or.inl ⟨by rfl, ?_⟩) (by assumption) ?_
        rotate_left
        · intro w hSw
          try dsimp only at hSw
          go_simp
          try with_reducible rfl
        try simp only [List.getElem_toArray, List.getElem_cons_zero, List.getElem_cons_succ, Act.put, List.setIfInBounds_toArray, List.set_cons_zero, List.set_cons_succ]
        refine wpAnyH_take (i := 3) (v := ?_) rfl (by kernel_rfl) (by kernel_rfl) (by kernel_rfl) (fun _ _ _ h => h) (Or.inl ⟨by rfl, ?_⟩) (by assumption) ?_
        rotate_left
        · intro w hSw
          try dsimp only at hSw
          go_simp
          try with_reducible rfl
        try simp only [List.getElem_toArray, List.getElem_cons_zero, List.getElem_cons_succ, Act.put, List.setIfInBounds_toArray, List.set_cons_zero, List.set_cons_succ]
        refine wpAnyH_take (i := 4) (v := ?_) rfl (by kernel_rfl) (by kernel_rfl) (by kernel_rfl) (fun _ _ _ h => h) (Or.inl ⟨by rfl, ?_⟩) (by assumption) ?_
        rotate_left
        · intro w hSw
          try dsimp only at hSw
          go_simp
          try with_reducible rfl
        try simp only [List.getElem_toArray, List.getElem_cons_zero, List.getElem_cons_succ, Act.put, List.setIfInBounds_toArray, List.set_cons_zero, List.set_cons_succ]
        refine wpAnyH_take (i := 5) (v := ?_) rfl (by kernel_rfl) (by kernel_rfl) (by kernel_rfl) (fun _ _ _ h => h) (Or.inl ⟨by rfl, ?_⟩) (by assumption) ?_
        rotate_left
        · intro w hSw
          try dsimp only at hSw
          go_simp
          try with_reducible rfl
        try simp only [List.getElem_toArray, List.getElem_cons_zero, List.getElem_cons_succ, Act.put, List.setIfInBounds_toArray, List.set_cons_zero, List.set_cons_succ]
        refine wpAnyH_take (i := 6) (v := ?_) rfl (by kernel_rfl) (by kernel_rfl) (by kernel_rfl) (fun _ _ _ h => h) (Or.inl ⟨by rfl, ?_⟩) (by assumption) ?_
        rotate_left
        · intro w hSw
          try dsimp only at hSw
          go_simp
          try with_reducible rfl
        try simp only [List.getElem_toArray, List.getElem_cons_zero, List.getElem_cons_succ, Act.put, List.setIfInBounds_toArray, List.set_cons_zero, List.set_cons_succ]
        refine wpAnyH_ready (rs := [7]) (by kernel_rfl) (by simp) ?_
        refine AllReadyH.cons rfl (fun K hK => ?_) AllReadyH.nil
        refine step_app2 _ (by rfl) _ _ _ (by rfl) 59 ip _ 7 72 underlyingPts_ hip hp0 hp1 hp2 rfl (by decide) (some ⟨g, 0, none⟩) j cap1 ((X.take j).flatMap ptVs) (by rfl) (HRT.out w2.drew (Upd.refl [] w2).drew) (some ⟨g, ((j + 1) * 7), none⟩) (k - (j + 1)) _ ((X.drop (j + 1)).flatMap ptVs) (by rfl) HSX.out HBY.out.1 HBY.out.2 ?_
        intro ao7 cap7 w7 hA7
        have HA7 := Lib.hid hA7
        have hu7 : Upd [g] w2 w7 := (Upd.refl [g] w2).drew.trans hA7.upd
        clear hA7
        refine hK.out _ _ (And.intro hu7 hu7.cells) (fun hHeldN => ?_)
        clear hu7
        clear hK K hHeld
        have hHeld := hHeldN
        clear hHeldN
        try simp only [List.getElem_toArray, List.getElem_cons_zero, List.getElem_cons_succ, Act.put, List.setIfInBounds_toArray, List.set_cons_zero, List.set_cons_succ]
        refine wpAnyH_take (i := 8) (v := ?_) rfl (by kernel_rfl) (by kernel_rfl) (by kernel_rfl) (fun _ _ _ h => h) (Or.inl ⟨by rfl, ?_⟩) (by assumption) ?_
        rotate_left
        · intro w hSw
          try dsimp only at hSw
          go_simp
          try with_reducible rfl
        try simp only [List.getElem_toArray, List.getElem_cons_zero, List.getElem_cons_succ, Act.put, List.setIfInBounds_toArray, List.set_cons_zero, List.set_cons_succ]
        refine wpAnyH_done (by kernel_rfl) ?_ _
        go_wp2_with fail
        go_ret
        (exact btLess HBT.out HK.out HJ.out HA7.out)
    · -- all is as it was
      have HFIN : Hid (BentTo w (.returned (.slice (some ⟨g, 0, none⟩) k cap1)) w2) := ⟨_, k, cap1, X, rfl, ⟨by rw [HK.out]; exact HBT.out.row.o.sl, fun x hx => (HBT.out.pts x hx).1⟩, HK.out, HBT.out.k60, fun x hx => (HBT.out.pts x hx).2.1, HBT.out.upd⟩
      go_wp2_with ((refine (HMK.out _).mono ?_); (rintro e w9 ⟨rfl, rfl⟩))
      go_ret
      exact HFIN.out
end Go.Proofs.YtfeobcmcellcpaaGreat

/-! Kh -/
namespace Go.Proofs.YtfeobcmcellcpaaGreat
open Go.RowKit

set_option maxHeartbeats 400000 in
theorem iplainfE_any (x : It) (w : World) :
    Calls Tryz.prog 67 #[.agg #[.int .u64 x.1, .int .i64 x.2], .agg #[.int .u64 x.1, .int .i64 x.2]] w (RetUpd [] w (.bool true)) := by
  go_enter Tryz.func67, Tryz.ntmps67
  go_wp2
  go_ret
  exact ⟨rfl, ((Upd.refl _ _).alloc _).alloc _⟩

def SameAtE (w : World) (n : Nat) (iv : Value) (wr : World) : Prop := ∃ i : Nat, iv = .int .i64 i ∧ i ≤ n ∧ Upd [] w wr


set_option maxHeartbeats 4000000 in
theorem sameE_any (ao1 ao2 : Option Addr) (n cap1 cap2 : Nat) (L : List It) (w : World) (hn : L.length = n) (hs : n ≤ 1000) (h1 : RowO w 74 2 ao1 n cap1 (L.flatMap itVs)) (h2 : RowO w 74 2 ao2 n cap2 (L.flatMap itVs)) :
    Calls Tryz.prog 66 #[.slice ao1 n cap1, .slice ao2 n cap2, .func (.func 67) #[] #[]] w (RetUpd [] w (.bool true)) := by
  have HN := Lib.hid hn
  have H1 := Lib.hid h1
  have H2 := Lib.hid h2
  clear hn h1 h2
  go_enter Tryz.func66, Tryz.ntmps66
  go_wp2
  go_loopw [7] (fun iv wr => SameAtE w n iv wr) (fun iv _ => n - (intOf iv).toNat)
  case atStart => exact ⟨0, rfl, by omega, Upd.refl _ _⟩
  case round =>
    obtain ⟨i, rfl, hi, hU⟩ := hrel
    have HU := Lib.hid hU
    clear hU
    by_cases hlt : i < n
    · have t1 : decide (i < n) = true := by simp [hlt]
      have b1 : (i : Int) < (n : Int) := by omega
      obtain ⟨g1, hg1, l1, x0, x1⟩ := (H1.out.upd HU.out (by simp)).items HN.out hlt
      obtain ⟨g2, hg2, l2, y0, y1⟩ := (H2.out.upd HU.out (by simp)).items HN.out hlt
      subst hg1 hg2
      obtain ⟨x, hx⟩ : ∃ x, atI L i = x := ⟨_, rfl⟩
      rw [hx] at x0 x1 y0 y1
      clear hx
      go_wp2
      go_region_held3 (fun w' => Upd [] wr w' ∧ ∀ (b o : Nat), b < wr.heap.size → b ∉ ([] : List Nat) → w'.cell? ⟨b, o, none⟩ = wr.cell? ⟨b, o, none⟩)
        (first | exact Held.init _ _ | exact Held.step (by assumption) hB) (first | (go_at_call 67; refine (iplainfE_any x _).mono ?_; rintro e w' ⟨rfl, hB⟩))
      have hU2 := HU.out.trans ((Upd.refl [] wr).drew.trans hB)
      go_wp2
      exact ⟨⟨i + 1, by congr 1, by omega, hU2⟩, by first | (simp [intOf]; done) | (simp [intOf]; omega)⟩
    · have t1 : decide (i < n) = false := by simp; omega
      go_wp2
      go_ret
      exact ⟨rfl, HU.out⟩

theorem plainE_any (ao1 ao2 : Option Addr) (n cap1 cap2 : Nat) (L : List It) (w : World) (hn : L.length = n) (hs : n ≤ 1000) (h1 : RowO w 74 2 ao1 n cap1 (L.flatMap itVs)) (h2 : RowO w 74 2 ao2 n cap2 (L.flatMap itVs)) :
    Calls Tryz.prog 34 #[.slice ao1 n cap1, .slice ao2 n cap2] w (RetUpd [] w (.bool true)) := by
  have H1 := sameE_any ao1 ao2 n cap1 cap2 L w hn hs h1 h2
  clear hn h1 h2
  go_enter Tryz.func34, Tryz.ntmps34
  go_wp2_with fail
  refine H1.mono ?_
  rintro e w2 ⟨rfl, hU⟩
  go_wp2
  go_ret
  exact ⟨rfl, hU⟩
end Go.Proofs.YtfeobcmcellcpaaGreat
