/-
  Texts of this claim, joined: ItemsA, ItemsB, ItemsC, ItemsD, ItemsE, ItemsF. No condition.
-/
import Derived.Test.YtfeobcmcellcpaaPB
import Derived.Deep.RegionLaw
set_option linter.unusedVariables false
set_option linter.unusedSimpArgs false
/-! ItemsA -/
namespace Go.Proofs.Ytfeobcmcellcpaa
open Go.RowKit

/-- A list of items in order, its slice in the cell o of the block b. -/
structure ItsAt (w : World) (b o : Nat) (ao : Option Addr) (cap : Nat) (L : List It) : Prop where
  cell : w.cell? ⟨b, o, none⟩ = some (.slice ao L.length cap)
  free : w.frozen? ⟨b, o, none⟩ = false
  row : RowO w 142 2 ao L.length cap (L.flatMap itVs)
  lt : b < w.heap.size
  apart : b ∉ blkO ao
  small : L.length ≤ 1000
  nd : NdI L
  srt : Srt L

theorem ItsAt.upd {S : List Nat} {w w' : World} {b o cap : Nat} {ao : Option Addr} {L : List It} (h : ItsAt w b o ao cap L) (hu : Upd S w w') (h1 : b ∉ S) (h2 : ∀ c ∈ blkO ao, c ∉ S) : ItsAt w' b o ao cap L :=
  { h with cell := by rw [hu.cell h.lt h1]; exact h.cell, free := by rw [hu.frozen h.lt h1]; exact h.free, row := h.row.upd hu h2, lt := Nat.lt_of_lt_of_le h.lt hu.size }

def AtAt (L : List It) (id : Int) (w : World) (iv : Value) (wr : World) : Prop := ∃ i : Nat, iv = .int .i64 i ∧ i ≤ L.length ∧ (∀ j, j < i → (atI L j).2 ≠ id) ∧ wr = w


/-- Where an ID stands; -1. -/
def posI (L : List It) (id : Int) : Int := match L.findIdx? (fun x => x.2 == id) with | some i => i | none => -1
theorem posI_at {L : List It} {id : Int} {i : Nat} (hi : i < L.length) (h : (atI L i).2 = id) (hj : ∀ j, j < i → (atI L j).2 ≠ id) : posI L id = i := by
  unfold posI
  have : L.findIdx? (fun x => x.2 == id) = some i := by
    rw [List.findIdx?_eq_some_iff_getElem]
    refine ⟨hi, by rw [← atI_get L i hi]; simp [h], fun j hji => ?_⟩
    rw [← atI_get L j (by omega)]; simp [hj j hji]
  rw [this]
theorem posI_no {L : List It} {id : Int} (h : ∀ j, j < L.length → (atI L j).2 ≠ id) : posI L id = -1 := by
  unfold posI
  have : L.findIdx? (fun x => x.2 == id) = none := by
    rw [List.findIdx?_eq_none_iff]
    intro x hx
    obtain ⟨j, hj, rfl⟩ := List.getElem_of_mem hx
    rw [← atI_get L j hj]; simp [h j hj]
  rw [this]
theorem posI_has (L : List It) (id : Int) : (0 ≤ posI L id) = (hasI L id = true) := by
  unfold posI hasI
  cases h : L.findIdx? (fun x => x.2 == id) with
  | some i =>
    have h2 := h
    rw [List.findIdx?_eq_some_iff_getElem] at h2
    obtain ⟨hi, hp, _⟩ := h2
    have : L.any (fun x => x.2 == id) = true := List.any_eq_true.2 ⟨L[i], List.getElem_mem hi, hp⟩
    rw [this]; simp
  | none =>
    rw [List.findIdx?_eq_none_iff] at h
    have : L.any (fun x => x.2 == id) = false := by
      rw [List.any_eq_false]; intro x hx; simpa using h x hx
    rw [this]; simp
theorem posI_of {L : List It} {id : Int} (h : hasI L id = true) : ∃ i : Nat, posI L id = i ∧ i < L.length ∧ (atI L i).2 = id := by
  have h0 : 0 ≤ posI L id := by rw [posI_has]; exact h
  unfold posI at *
  cases h : L.findIdx? (fun x => x.2 == id) with
  | some i =>
    have h2 := h
    rw [List.findIdx?_eq_some_iff_getElem] at h2
    obtain ⟨hi, hp, _⟩ := h2
    exact ⟨i, rfl, hi, by rw [atI_get L i hi]; simpa using hp⟩
  | none => rw [h] at h0; simp at h0
theorem posI_neg {L : List It} {id : Int} (h : hasI L id = false) : posI L id = -1 := by
  apply posI_no
  intro j hj e
  rw [hasI_no] at h
  exact h (atI L j) (by rw [atI_get L j hj]; exact List.getElem_mem hj) e



end Go.Proofs.Ytfeobcmcellcpaa

/-! ItemsB -/
namespace Go.Proofs.Ytfeobcmcellcpaa
open Go.RowKit

/-- What a deed on a list leaves: the list anew, in an array of its own; of the block b nothing but its cell. -/
def ItsTo (w : World) (b o : Nat) (L' : List It) (w' : World) : Prop :=
  ∃ ao' cap', ItsAt w' b o ao' cap' L' ∧ (∀ c ∈ blkO ao', w.heap.size ≤ c) ∧ Upd [b] w w' ∧ (∀ ty cs, Blk w b ty cs → Blk w' b ty (cs.set o (.slice ao' L'.length cap'))) ∧
    ∀ e size n cap xs, Row w e size b n cap xs → Row w' e size b n cap (xs.set o (.slice ao' L'.length cap'))

theorem its_done {w w1 w' : World} {b o cap cap' n' N : Nat} {ao ao' : Option Addr} {L L' : List It} (h : ItsAt w b o ao cap L) (hU : Upd [] w w1) (hrow : RowO w1 142 2 ao' n' cap' (L'.flatMap itVs)) (hf : ∀ c ∈ blkO ao', N ≤ c) (hN : w.heap.size ≤ N)
    (hn : L'.length = n') (hnd : NdI L') (hsr : Srt L') (hsm : n' ≤ 1000) {S : List Nat} (hu : Upd S (w1.setCell ⟨b, o, none⟩ (.slice ao' n' cap')) w') (hS : ∀ c ∈ S, w.heap.size ≤ c ∧ c < N) : ItsTo w b o L' w' := by
  subst hn
  have hbl := h.lt
  have hb1 : b < w1.heap.size := Nat.lt_of_lt_of_le h.lt hU.size
  have hbS : b ∉ S := fun e => by have := (hS b e).1; omega
  have hba : b ∉ blkO ao' := fun e => by have := hf b e; omega
  have hu1 : Upd [b] w1 (w1.setCell ⟨b, o, none⟩ (.slice ao' L'.length cap')) := (Upd.refl _ _).setCell (by simp) _
  have hc1 : w1.cell? ⟨b, o, none⟩ = some (.slice ao L.length cap) := by rw [hU.cell h.lt (by simp)]; exact h.cell
  have hz1 : w1.frozen? ⟨b, o, none⟩ = false := by rw [hU.frozen h.lt (by simp)]; exact h.free
  have hsz : b < (w1.setCell ⟨b, o, none⟩ (.slice ao' L'.length cap')).heap.size := by simpa using hb1
  have hU0 : Upd [b] w (w1.setCell ⟨b, o, none⟩ (.slice ao' L'.length cap')) := hU.nil.trans hu1
  refine ⟨ao', cap', { cell := ?_, free := ?_, row := ?_, lt := Nat.lt_of_lt_of_le hsz hu.size, apart := hba, small := hsm, nd := hnd, srt := hsr }, fun c hc => Nat.le_trans hN (hf c hc), hU0.then hu (fun _ _ hm => hm) (fun i hi hm => by have := (hS i hm).1; omega), fun ty cs hB => ?_, fun e size n cap xs hB => ?_⟩
  · rw [hu.cell hsz hbS, World.cell?_setCell_same _ _ _ hc1]
  · rw [hu.frozen hsz hbS]; simpa using hz1
  · refine (hrow.upd hu1 (fun c hc => by simp; intro e; subst e; exact hba hc)).upd hu (fun c hc e => ?_)
    have := hf c hc; have := (hS c e).2; omega
  · exact ((hB.upd hU (by simp)).set o _).upd hu hbS
  · exact ((hB.upd hU (by simp)).set o _).upd hu hbS

end Go.Proofs.Ytfeobcmcellcpaa

/-! ItemsC -/
namespace Go.Proofs.Ytfeobcmcellcpaa
open Go.RowKit

end Go.Proofs.Ytfeobcmcellcpaa

/-! ItemsD -/
namespace Go.Proofs.Ytfeobcmcellcpaa
open Go.RowKit

/-- What a deed on a list leaves, whether or not it did anything. -/
def ItsGo (w : World) (b o : Nat) (ao : Option Addr) (L' : List It) (w' : World) : Prop :=
  ∃ ao' cap', ItsAt w' b o ao' cap' L' ∧ (∀ c ∈ blkO ao', c ∈ blkO ao ∨ w.heap.size ≤ c) ∧ Upd [b] w w' ∧ (∀ ty cs, Blk w b ty cs → Blk w' b ty (cs.set o (.slice ao' L'.length cap'))) ∧
    ∀ e size n cap xs, Row w e size b n cap xs → o < n * size → Row w' e size b n cap (xs.set o (.slice ao' L'.length cap'))

theorem set_same {α : Type} {cs : List α} {o : Nat} {v : α} (h : cs[o]? = some v) : cs.set o v = cs := by
  apply List.ext_getElem?
  intro j
  by_cases e : o = j
  · subst e
    have hlt : o < cs.length := by
      rcases Nat.lt_or_ge o cs.length with h1 | h1
      · exact h1
      · rw [List.getElem?_eq_none h1] at h; cases h
    rw [List.getElem?_set_self hlt, h]
  · rw [List.getElem?_set_ne e]
theorem ItsAt.stays {w w' : World} {b o cap : Nat} {ao : Option Addr} {L : List It} (h : ItsAt w b o ao cap L) (hu : Upd [] w w') : ItsGo w b o ao L w' := by
  refine ⟨ao, cap, h.upd hu (by simp) (by simp), fun c hc => .inl hc, hu.nil, fun ty cs hB => ?_, fun e size n c2 xs hB ho => ?_⟩
  · have : cs[o]? = some (.slice ao L.length cap) := by
      have hc := h.cell
      unfold Blk at hB
      simpa [World.cell?, hB] using hc
    rw [set_same this]
    exact hB.upd hu (by simp)
  · have : xs[o]? = some (.slice ao L.length cap) := by
      have hc := h.cell
      have hl := hB.len
      have h1 : xs[o]? = some (xs[o]'(by omega)) := List.getElem?_eq_getElem _
      rw [hB.cell h1] at hc
      rw [h1, hc]
    rw [set_same this]
    exact hB.upd hu (by simp)
theorem ItsTo.go {w w0 w1 w' : World} {b o : Nat} {ao : Option Addr} {L' : List It} (h : ItsTo w0 b o L' w1) (h0 : Upd [] w w0) {S : List Nat} (hu : Upd S w1 w') (hb : b < w.heap.size) (hS : ∀ c ∈ S, w.heap.size ≤ c ∧ c < w0.heap.size) : ItsGo w b o ao L' w' := by
  obtain ⟨ao', cap', h1, h2, h3, h4, h5⟩ := h
  have hbS : b ∉ S := fun e => by have := (hS b e).1; omega
  refine ⟨ao', cap', h1.upd hu hbS (fun c hc e => by have := h2 c hc; have := (hS c e).2; omega), fun c hc => .inr (Nat.le_trans h0.size (h2 c hc)), (h0.nil.trans h3).then hu (fun _ _ hm => hm) (fun i hi hm => by have := (hS i hm).1; omega), fun ty cs hB => (h4 ty cs (hB.upd h0 (by simp))).upd hu hbS, fun e size n cap xs hB _ => (h5 e size n cap xs (hB.upd h0 (by simp))).upd hu hbS⟩



end Go.Proofs.Ytfeobcmcellcpaa

/-! ItemsE -/
namespace Go.Proofs.Ytfeobcmcellcpaa
open Go.RowKit

/-- A slice of m elements that is read: its cells, if there are any. -/
def Src (w : World) (size : Nat) (sx : Option Addr) (m : Nat) (news : List Value) : Prop :=
  news.length = m * size ∧ (∀ u ∈ news, u.oneCell' = true) ∧ ((sx = none ∧ m = 0) ∨ ∃ ad, sx = some ad ∧ ∀ j u, news[j]? = some u → w.cell? (ad.add j) = some u)
theorem Src.drew {w : World} {size m : Nat} {sx : Option Addr} {news : List Value} (h : Src w size sx m news) : Src w.drew size sx m news := h
theorem Src.upd {S : List Nat} {w w' : World} {size m : Nat} {sx : Option Addr} {news : List Value} (h : Src w size sx m news) (hu : Upd S w w') (hs : ∀ ad, sx = some ad → ad.spot = none ∧ ad.block ∉ S ∧ ad.block < w.heap.size) : Src w' size sx m news := by
  refine ⟨h.1, h.2.1, ?_⟩
  rcases h.2.2 with h | ⟨ad, rfl, hc⟩
  · exact .inl h
  · obtain ⟨h1, h2, h3⟩ := hs ad rfl
    refine .inr ⟨ad, rfl, fun j u hj => ?_⟩
    have := hc j u hj
    obtain ⟨b, o, s⟩ := ad
    simp only at h1
    subst h1
    rw [add_none] at this ⊢
    rw [hu.cell h3 h2]
    exact this

section
variable {P : Program} (w : World)
theorem run_append_of_nil (base : Nat) (t ty e : TypeId) (i : TypeInfo) (size : Nat) (ht : P.underlying t = some (.slice e)) (hi : P.info? e = some i)
    (v : Value) (n : Nat) (xs : List Value) (hown : w.ownsRow base e size v n xs) (c : Nat) : (Builtin.append_ #[t, t] ty #[v, .slice none 0 c]).run P w = .ok v w := by
  rcases hown.2 with ⟨rfl, rfl⟩ | ⟨g, cap, cur, rfl, _, _, hnc, _⟩
  · simp [Builtin.append_, run_underlying ht, sizeOf, typeInfo, hi, Builtin.lenOf, Builtin.firstCells]
  · simp [Builtin.append_, run_underlying ht, sizeOf, typeInfo, hi, Builtin.lenOf, Builtin.firstCells, hnc, storeCells]

theorem run_app (t ty : TypeId) (e : TypeId) (i : TypeInfo) (z : Value) (size bytes : Nat) (ht : P.underlying t = some (.slice e)) (hi : P.info? e = some i) (hz : i.zero = some z)
    (hsize : i.size = size) (hby : i.bytes = bytes) (hzs : z.cells.size = size) (hsz : 0 < size)
    (ao : Option Addr) (n cap : Nat) (xs : List Value) (hown : RowO w e size ao n cap xs)
    (sx : Option Addr) (m c : Nat) (news : List Value) (hsrc : Src w size sx m news)
    (h63 : n + m ≤ maxLen) (hbytes : (n + m) * bytes ≤ 140737488355328) :
    ∃ ao' cap' w', (Builtin.append_ #[t, t] ty #[.slice ao n cap, .slice sx m c]).run P w = .ok (.slice ao' (n + m) cap') w' ∧ Apped w e size ao (n + m) (xs ++ news) ao' cap' w' := by
  obtain ⟨hl, h1, hsrc⟩ := hsrc
  rcases hsrc with ⟨rfl, rfl⟩ | ⟨ad, rfl, hnews⟩
  · have hn : news = [] := List.eq_nil_of_length_eq_zero (by simpa using hl)
    subst hn
    exact ⟨ao, cap, w, run_append_of_nil w 0 t ty e i size ht hi _ n xs hown c, by simpa using hown, Upd.refl _ _, fun b hb => .inl hb⟩
  obtain ⟨v', w', hr, h2, h3, _, h5⟩ := run_append_own_at (P := P) w 0 t ty e i z size bytes ht hi hz hsize hby hzs hsz (.slice ao n cap) n xs hown ad m c news hl hnews h1 h63 hbytes (Nat.zero_le _)
  obtain ⟨ao', cap', rfl⟩ : ∃ ao' cap', v' = .slice ao' (n + m) cap' := by
    rcases h2.2 with ⟨rfl, hn⟩ | ⟨g, cap', _, rfl, _⟩
    · exact ⟨none, 0, by rw [hn]⟩
    · exact ⟨_, _, rfl⟩
  refine ⟨ao', cap', w', hr, h2, ?_, ?_⟩
  · refine (Upd.refl _ w).grown h3 (fun k hk => .inl ?_)
    cases ao with
    | none => cases hk
    | some ad0 => simp [Value.ownBlock] at hk; simp [blkO, hk]
  · intro b hb
    cases ao' with
    | none => cases hb
    | some ad' =>
      simp only [blkO, List.mem_singleton] at hb
      subst hb
      rcases h5 with h5 | h5
      · cases ao with
        | none => simp [Value.ownBlock] at h5
        | some ad0 => simp only [Value.ownBlock, Option.some.injEq] at h5; left; simp [blkO, h5]
      · simp only [Value.ownBlock, Option.some.injEq] at h5; right; exact h5

theorem wp_app2 {o : Oper} {a : Act} {K : Act → World → Prop} {Q : Exit → Act → World → Prop} (s x : Operand) (t : TypeId)
    (ho : o.op = .call { callee := .builtin .append, args := #[s, x], argTypes := #[t, t] })
    (e : TypeId) (i : TypeInfo) (z : Value) (size bytes : Nat) (ht : P.underlying t = some (.slice e)) (hi : P.info? e = some i) (hz : i.zero = some z)
    (hsize : i.size = size) (hby : i.bytes = bytes) (hzs : z.cells.size = size) (hsz : 0 < size)
    (ao : Option Addr) (n cap : Nat) (xs : List Value) (hs : a.eval s = .slice ao n cap) (hown : RowO w e size ao n cap xs)
    (sx : Option Addr) (m c : Nat) (news : List Value) (hx : a.eval x = .slice sx m c) (hsrc : Src w size sx m news)
    (h63 : n + m ≤ maxLen) (hbytes : (n + m) * bytes ≤ 140737488355328)
    (h : ∀ ao' cap' w', Apped w e size ao (n + m) (xs ++ news) ao' cap' w' → K (a.put o.dst (.slice ao' (n + m) cap')) w') : o.wp P a w K Q := by
  obtain ⟨ao', cap', w', hr, h2⟩ := run_app (P := P) w t o.type e i z size bytes ht hi hz hsize hby hzs hsz ao n cap xs hown sx m c news hsrc h63 hbytes
  unfold Oper.wp execOp
  simp only [ho, resolve, invoke, builtin, Sem.run_bind, Sem.run_pure, Result.andThen_ok, List.map_toArray, List.map_cons, List.map_nil, hs, hx, hr]
  exact h ao' cap' w' h2
theorem wpList_app2 {ops : Array Oper} {rest : List Oper} {o : Oper} {a : Act} {Q : Exit → Act → World → Prop} (hgd : o.guard = none) (s x : Operand) (t : TypeId)
    (ho : o.op = .call { callee := .builtin .append, args := #[s, x], argTypes := #[t, t] })
    (e : TypeId) (i : TypeInfo) (z : Value) (size bytes : Nat) (ht : P.underlying t = some (.slice e)) (hi : P.info? e = some i) (hz : i.zero = some z)
    (hsize : i.size = size) (hby : i.bytes = bytes) (hzs : z.cells.size = size) (hsz : 0 < size)
    (ao : Option Addr) (n cap : Nat) (xs : List Value) (hs : a.eval s = .slice ao n cap) (hown : RowO w e size ao n cap xs)
    (sx : Option Addr) (m c : Nat) (news : List Value) (hx : a.eval x = .slice sx m c) (hsrc : Src w size sx m news)
    (h63 : n + m ≤ maxLen) (hbytes : (n + m) * bytes ≤ 140737488355328)
    (h : ∀ ao' cap' w', Apped w e size ao (n + m) (xs ++ news) ao' cap' w' → wpList P ops Q rest (a.put o.dst (.slice ao' (n + m) cap')) w') : wpList P ops Q (o :: rest) a w :=
  wpList_plain hgd fun _ hK => wp_app2 w s x t ho e i z size bytes ht hi hz hsize hby hzs hsz ao n cap xs hs hown sx m c news hx hsrc h63 hbytes fun ao' cap' w' h2 => hK _ _ (h ao' cap' w' h2)

theorem step_app2 {ops : Array Oper} {o : Oper} {a : Act} {K : Act → World → Prop} {Q : Exit → Act → World → Prop} {E : Prop} (hgd : o.guard = none) (s x : Operand) (t : TypeId)
    (ho : o.op = .call { callee := .builtin .append, args := #[s, x], argTypes := #[t, t] })
    (e : TypeId) (i : TypeInfo) (z : Value) (size bytes : Nat) (ht : P.underlying t = some (.slice e)) (hi : P.info? e = some i) (hz : i.zero = some z)
    (hsize : i.size = size) (hby : i.bytes = bytes) (hzs : z.cells.size = size) (hsz : 0 < size)
    (ao : Option Addr) (n cap : Nat) (xs : List Value) (hs : a.eval s = .slice ao n cap) (hown : RowO w e size ao n cap xs)
    (sx : Option Addr) (m c : Nat) (news : List Value) (hx : a.eval x = .slice sx m c) (hsrc : Src w size sx m news)
    (h63 : n + m ≤ maxLen) (hbytes : (n + m) * bytes ≤ 140737488355328)
    (h : ∀ ao' cap' w', Apped w e size ao (n + m) (xs ++ news) ao' cap' w' → K (a.put o.dst (.slice ao' (n + m) cap')) w') :
    if Region.wanted o (yielded ops a.tmps) = true then Oper.wp P o a w K Q else E := by
  have hw : Region.wanted o (yielded ops a.tmps) = true := by simp [Region.wanted, hgd]
  rw [if_pos hw]
  exact wp_app2 w s x t ho e i z size bytes ht hi hz hsize hby hzs hsz ao n cap xs hs hown sx m c news hx hsrc h63 hbytes h
end

/-- A part of a row of items as a source. -/
theorem part_src {w W : World} {ao : Option Addr} {n cap : Nat} {L : List It} (h : RowO w 142 2 ao n cap (L.flatMap itVs)) (hn : L.length = n) (hU : Upd [] w W) (a m : Nat) (ha : a + m ≤ n) (off : Nat) (hoff : off = a * 2 ∨ m = 0) :
    Src W 2 (ao.map fun ad => ⟨ad.block, off, none⟩) m (((L.drop a).take m).flatMap itVs) := by
  refine ⟨by rw [flat_len itVs 2 itVs_len]; simp; omega, flat_one _, ?_⟩
  rcases h.cases with ⟨rfl, rfl, _, _⟩ | ⟨g, rfl, hr⟩
  · exact .inl ⟨rfl, by omega⟩
  · refine .inr ⟨_, rfl, fun j u hu => ?_⟩
    rcases hoff with rfl | rfl
    · exact part_cells hr hU a m j u hu
    · simp at hu
end Go.Proofs.Ytfeobcmcellcpaa

/-! ItemsF -/
namespace Go.Proofs.Ytfeobcmcellcpaa
open Go.RowKit

theorem ins_split {L : List It} {x : It} {k : Nat} (hk : k ≤ L.length) (h1 : ∀ j, j < k → ahead (atI L j) x = true) (h2 : k = L.length ∨ ahead (atI L k) x = false) : insI x L = L.take k ++ x :: L.drop k := by
  induction L generalizing k with
  | nil => simp [insI]
  | cons y r ih =>
    cases k with
    | zero =>
      rcases h2 with h2 | h2
      · simp at h2
      · have h3 : ahead y x = false := h2
        simp [insI, h3]
    | succ k =>
      have h3 : ahead y x = true := h1 0 (by omega)
      simp only [insI, h3, if_true, List.take_succ_cons, List.drop_succ_cons, List.cons_append]
      rw [ih (by simpa using hk) (fun j hj => h1 (j + 1) (by omega)) (by rcases h2 with h2 | h2; (left; simpa using h2); (right; exact h2))]


/-- How far the look for a place has come. -/
def PushK (L : List It) (x : It) (w1 : World) (kv : Value) (wr : World) : Prop := ∃ k : Nat, kv = .int .i64 k ∧ k ≤ L.length ∧ (∀ j, j < k → ahead (atI L j) x = true) ∧ Upd [] w1 wr



end Go.Proofs.Ytfeobcmcellcpaa
