/-
  Texts of this claim, joined: ItemsA, ItemsB, ItemsC, ItemsD, ItemsE, ItemsF. No condition.
-/
import Derived.Test.YtfeobcmcellcpaaGreatPB
import Derived.Deep.RegionLaw
set_option linter.unusedVariables false
set_option linter.unusedSimpArgs false
/-! ItemsA -/
namespace Go.Proofs.YtfeobcmcellcpaaGreat
open Go.RowKit

/-- A list of items in order, its slice in the cell o of the block b. -/
structure ItsAt (w : World) (b o : Nat) (ao : Option Addr) (cap : Nat) (L : List It) : Prop where
  cell : w.cell? ⟨b, o, none⟩ = some (.slice ao L.length cap)
  free : w.frozen? ⟨b, o, none⟩ = false
  row : RowO w 74 2 ao L.length cap (L.flatMap itVs)
  lt : b < w.heap.size
  apart : b ∉ blkO ao
  small : L.length ≤ 1000
  nd : NdI L
  srt : Srt L

theorem ItsAt.upd {S : List Nat} {w w' : World} {b o cap : Nat} {ao : Option Addr} {L : List It} (h : ItsAt w b o ao cap L) (hu : Upd S w w') (h1 : b ∉ S) (h2 : ∀ c ∈ blkO ao, c ∉ S) : ItsAt w' b o ao cap L :=
  { h with cell := by rw [hu.cell h.lt h1]; exact h.cell, free := by rw [hu.frozen h.lt h1]; exact h.free, row := h.row.upd hu h2, lt := Nat.lt_of_lt_of_le h.lt hu.size }

def AtAt (L : List It) (id : Int) (w : World) (iv : Value) (wr : World) : Prop := ∃ i : Nat, iv = .int .i64 i ∧ i ≤ L.length ∧ (∀ j, j < i → (atI L j).2 ≠ id) ∧ wr = w


/-- Where an ID stands; -1. -/
def posI (L : List It) (id : Int) : Int := match L.findIdx? (fun x => x.2 == id) with | some i => i | none => -1
theorem posI_at {L : List It} {id : Int} {i : Nat} (hi : i < L.length) (h : (atI L i).2 = id) (hj : ∀ j, j < i → (atI L j).2 ≠ id) : posI L id = i := by
  unfold posI
  have : L.findIdx? (fun x => x.2 == id) = some i := by
    rw [List.findIdx?_eq_some_iff_getElem]
    refine ⟨hi, by rw [← atI_get L i hi]; simp [h], fun j hji => ?_⟩
    rw [← atI_get L j (by omega)]; simp [hj j hji]
  rw [this]
theorem posI_no {L : List It} {id : Int} (h : ∀ j, j < L.length → (atI L j).2 ≠ id) : posI L id = -1 := by
  unfold posI
  have : L.findIdx? (fun x => x.2 == id) = none := by
    rw [List.findIdx?_eq_none_iff]
    intro x hx
    obtain ⟨j, hj, rfl⟩ := List.getElem_of_mem hx
    rw [← atI_get L j hj]; simp [h j hj]
  rw [this]
theorem posI_has (L : List It) (id : Int) : (0 ≤ posI L id) = (hasI L id = true) := by
  unfold posI hasI
  cases h : L.findIdx? (fun x => x.2 == id) with
  | some i =>
    have h2 := h
    rw [List.findIdx?_eq_some_iff_getElem] at h2
    obtain ⟨hi, hp, _⟩ := h2
    have : L.any (fun x => x.2 == id) = true := List.any_eq_true.2 ⟨L[i], List.getElem_mem hi, hp⟩
    rw [this]; simp
  | none =>
    rw [List.findIdx?_eq_none_iff] at h
    have : L.any (fun x => x.2 == id) = false := by
      rw [List.any_eq_false]; intro x hx; simpa using h x hx
    rw [this]; simp
theorem posI_of {L : List It} {id : Int} (h : hasI L id = true) : ∃ i : Nat, posI L id = i ∧ i < L.length ∧ (atI L i).2 = id := by
  have h0 : 0 ≤ posI L id := by rw [posI_has]; exact h
  unfold posI at *
  cases h : L.findIdx? (fun x => x.2 == id) with
  | some i =>
    have h2 := h
    rw [List.findIdx?_eq_some_iff_getElem] at h2
    obtain ⟨hi, hp, _⟩ := h2
    exact ⟨i, rfl, hi, by rw [atI_get L i hi]; simpa using hp⟩
  | none => rw [h] at h0; simp at h0
theorem posI_neg {L : List It} {id : Int} (h : hasI L id = false) : posI L id = -1 := by
  apply posI_no
  intro j hj e
  rw [hasI_no] at h
  exact h (atI L j) (by rw [atI_get L j hj]; exact List.getElem_mem hj) e


set_option maxHeartbeats 4000000 in
theorem ri_at (b o : Nat) (ao : Option Addr) (cap : Nat) (L : List It) (id : Int) (w : World) (h : ItsAt w b o ao cap L) :
    Calls Tryz.prog 107 #[.pointer (some ⟨b, o, none⟩), .int .i64 id] w (fun e w' => e = .returned (.int .i64 (posI L id)) ∧ w = w') := by
  have c0 := h.cell
  have lb := h.lt
  have small := h.small
  have HH := Lib.hid h
  obtain ⟨n, hn⟩ : ∃ n, L.length = n := ⟨_, rfl⟩
  rw [hn] at c0 small
  have HN := Lib.hid hn
  clear h hn
  go_enter Tryz.func107, Tryz.ntmps107
  go_wp2
  go_loopw [5] (fun iv wr => AtAt L id w iv wr) (fun iv _ => L.length - (intOf iv).toNat)
  case atStart => exact ⟨0, rfl, by omega, fun j hj => by omega, rfl⟩
  case round =>
    obtain ⟨i, rfl, hi, hj, rfl⟩ := hrel
    have HJ := Lib.hid hj
    rw [HN.out] at hi
    clear hj
    by_cases hlt : i < n
    · have t1 : decide (i < n) = true := by simp [hlt]
      have b1 : (i : Int) < (n : Int) := by omega
      obtain ⟨g, hg, hr⟩ := HH.out.row.row (by rw [HN.out]; omega)
      subst hg
      obtain ⟨x0, x1⟩ := item_cells hr (i := i) (by rw [HN.out]; exact hlt)
      obtain ⟨y, hy⟩ : ∃ y, (atI L i).2 = y := ⟨_, rfl⟩
      rw [hy] at x1
      have HY := Lib.hid hy
      clear hr hy
      by_cases he : y = id
      · have t2 : (y == id) = true := by simp [he]
        have hp : Hid (posI L id = i) := posI_at (by rw [HN.out]; exact hlt) (by rw [HY.out]; exact he) HJ.out
        clear he
        go_wp2
        go_ret
        exact ⟨by rw [hp.out]; rfl, rfl⟩
      · have t2 : (y == id) = false := by simp [he]
        have hne : Hid (y ≠ id) := he
        clear he
        go_wp2
        exact ⟨⟨i + 1, by congr 1, by rw [HN.out]; omega, fun j hj e => by
          by_cases h : j = i
          · subst h; exact hne.out (HY.out.symm.trans e)
          · exact HJ.out j (by omega) e, rfl⟩, by have := HN.out; first | (simp [intOf]; done) | (simp [intOf]; omega)⟩
    · have t1 : decide (i < n) = false := by simp; omega
      have hp : Hid (posI L id = -1) := posI_no (fun j hj => HJ.out j (by have := HN.out; omega))
      go_wp2
      go_ret
      exact ⟨by rw [hp.out]; rfl, rfl⟩


end Go.Proofs.YtfeobcmcellcpaaGreat

/-! ItemsB -/
namespace Go.Proofs.YtfeobcmcellcpaaGreat
open Go.RowKit

/-- What a deed on a list leaves: the list anew, in an array of its own; of the block b nothing but its cell. -/
def ItsTo (w : World) (b o : Nat) (L' : List It) (w' : World) : Prop :=
  ∃ ao' cap', ItsAt w' b o ao' cap' L' ∧ (∀ c ∈ blkO ao', w.heap.size ≤ c) ∧ Upd [b] w w' ∧ (∀ ty cs, Blk w b ty cs → Blk w' b ty (cs.set o (.slice ao' L'.length cap'))) ∧
    ∀ e size n cap xs, Row w e size b n cap xs → Row w' e size b n cap (xs.set o (.slice ao' L'.length cap'))

theorem its_done {w w1 w' : World} {b o cap cap' n' N : Nat} {ao ao' : Option Addr} {L L' : List It} (h : ItsAt w b o ao cap L) (hU : Upd [] w w1) (hrow : RowO w1 74 2 ao' n' cap' (L'.flatMap itVs)) (hf : ∀ c ∈ blkO ao', N ≤ c) (hN : w.heap.size ≤ N)
    (hn : L'.length = n') (hnd : NdI L') (hsr : Srt L') (hsm : n' ≤ 1000) {S : List Nat} (hu : Upd S (w1.setCell ⟨b, o, none⟩ (.slice ao' n' cap')) w') (hS : ∀ c ∈ S, w.heap.size ≤ c ∧ c < N) : ItsTo w b o L' w' := by
  subst hn
  have hbl := h.lt
  have hb1 : b < w1.heap.size := Nat.lt_of_lt_of_le h.lt hU.size
  have hbS : b ∉ S := fun e => by have := (hS b e).1; omega
  have hba : b ∉ blkO ao' := fun e => by have := hf b e; omega
  have hu1 : Upd [b] w1 (w1.setCell ⟨b, o, none⟩ (.slice ao' L'.length cap')) := (Upd.refl _ _).setCell (by simp) _
  have hc1 : w1.cell? ⟨b, o, none⟩ = some (.slice ao L.length cap) := by rw [hU.cell h.lt (by simp)]; exact h.cell
  have hz1 : w1.frozen? ⟨b, o, none⟩ = false := by rw [hU.frozen h.lt (by simp)]; exact h.free
  have hsz : b < (w1.setCell ⟨b, o, none⟩ (.slice ao' L'.length cap')).heap.size := by simpa using hb1
  have hU0 : Upd [b] w (w1.setCell ⟨b, o, none⟩ (.slice ao' L'.length cap')) := hU.nil.trans hu1
  refine ⟨ao', cap', { cell := ?_, free := ?_, row := ?_, lt := Nat.lt_of_lt_of_le hsz hu.size, apart := hba, small := hsm, nd := hnd, srt := hsr }, fun c hc => Nat.le_trans hN (hf c hc), hU0.then hu (fun _ _ hm => hm) (fun i hi hm => by have := (hS i hm).1; omega), fun ty cs hB => ?_, fun e size n cap xs hB => ?_⟩
  · rw [hu.cell hsz hbS, World.cell?_setCell_same _ _ _ hc1]
  · rw [hu.frozen hsz hbS]; simpa using hz1
  · refine (hrow.upd hu1 (fun c hc => by simp; intro e; subst e; exact hba hc)).upd hu (fun c hc e => ?_)
    have := hf c hc; have := (hS c e).2; omega
  · exact ((hB.upd hU (by simp)).set o _).upd hu hbS
  · exact ((hB.upd hU (by simp)).set o _).upd hu hbS

end Go.Proofs.YtfeobcmcellcpaaGreat

/-! ItemsC -/
namespace Go.Proofs.YtfeobcmcellcpaaGreat
open Go.RowKit

end Go.Proofs.YtfeobcmcellcpaaGreat

/-! ItemsD -/
namespace Go.Proofs.YtfeobcmcellcpaaGreat
open Go.RowKit

/-- What a deed on a list leaves, whether or not it did anything. -/
def ItsGo (w : World) (b o : Nat) (ao : Option Addr) (L' : List It) (w' : World) : Prop :=
  ∃ ao' cap', ItsAt w' b o ao' cap' L' ∧ (∀ c ∈ blkO ao', c ∈ blkO ao ∨ w.heap.size ≤ c) ∧ Upd [b] w w' ∧ (∀ ty cs, Blk w b ty cs → Blk w' b ty (cs.set o (.slice ao' L'.length cap'))) ∧
    ∀ e size n cap xs, Row w e size b n cap xs → o < n * size → Row w' e size b n cap (xs.set o (.slice ao' L'.length cap'))

theorem set_same {α : Type} {cs : List α} {o : Nat} {v : α} (h : cs[o]? = some v) : cs.set o v = cs := by
  apply List.ext_getElem?
  intro j
  by_cases e : o = j
  · subst e
    have hlt : o < cs.length := by
      rcases Nat.lt_or_ge o cs.length with h1 | h1
      · exact h1
      · rw [List.getElem?_eq_none h1] at h; cases h
    rw [List.getElem?_set_self hlt, h]
  · rw [List.getElem?_set_ne e]
theorem ItsAt.stays {w w' : World} {b o cap : Nat} {ao : Option Addr} {L : List It} (h : ItsAt w b o ao cap L) (hu : Upd [] w w') : ItsGo w b o ao L w' := by
  refine ⟨ao, cap, h.upd hu (by simp) (by simp), fun c hc => .inl hc, hu.nil, fun ty cs hB => ?_, fun e size n c2 xs hB ho => ?_⟩
  · have : cs[o]? = some (.slice ao L.length cap) := by
      have hc := h.cell
      unfold Blk at hB
      simpa [World.cell?, hB] using hc
    rw [set_same this]
    exact hB.upd hu (by simp)
  · have : xs[o]? = some (.slice ao L.length cap) := by
      have hc := h.cell
      have hl := hB.len
      have h1 : xs[o]? = some (xs[o]'(by omega)) := List.getElem?_eq_getElem _
      rw [hB.cell h1] at hc
      rw [h1, hc]
    rw [set_same this]
    exact hB.upd hu (by simp)
theorem ItsTo.go {w w0 w1 w' : World} {b o : Nat} {ao : Option Addr} {L' : List It} (h : ItsTo w0 b o L' w1) (h0 : Upd [] w w0) {S : List Nat} (hu : Upd S w1 w') (hb : b < w.heap.size) (hS : ∀ c ∈ S, w.heap.size ≤ c ∧ c < w0.heap.size) : ItsGo w b o ao L' w' := by
  obtain ⟨ao', cap', h1, h2, h3, h4, h5⟩ := h
  have hbS : b ∉ S := fun e => by have := (hS b e).1; omega
  refine ⟨ao', cap', h1.upd hu hbS (fun c hc e => by have := h2 c hc; have := (hS c e).2; omega), fun c hc => .inr (Nat.le_trans h0.size (h2 c hc)), (h0.nil.trans h3).then hu (fun _ _ hm => hm) (fun i hi hm => by have := (hS i hm).1; omega), fun ty cs hB => (h4 ty cs (hB.upd h0 (by simp))).upd hu hbS, fun e size n cap xs hB _ => (h5 e size n cap xs (hB.upd h0 (by simp))).upd hu hbS⟩



end Go.Proofs.YtfeobcmcellcpaaGreat

/-! ItemsE -/
namespace Go.Proofs.YtfeobcmcellcpaaGreat
open Go.RowKit

/-- A slice of m elements that is read: its cells, if there are any. -/
def Src (w : World) (size : Nat) (sx : Option Addr) (m : Nat) (news : List Value) : Prop :=
  news.length = m * size ∧ (∀ u ∈ news, u.oneCell' = true) ∧ ((sx = none ∧ m = 0) ∨ ∃ ad, sx = some ad ∧ ∀ j u, news[j]? = some u → w.cell? (ad.add j) = some u)
theorem Src.drew {w : World} {size m : Nat} {sx : Option Addr} {news : List Value} (h : Src w size sx m news) : Src w.drew size sx m news := h
theorem Src.upd {S : List Nat} {w w' : World} {size m : Nat} {sx : Option Addr} {news : List Value} (h : Src w size sx m news) (hu : Upd S w w') (hs : ∀ ad, sx = some ad → ad.spot = none ∧ ad.block ∉ S ∧ ad.block < w.heap.size) : Src w' size sx m news := by
  refine ⟨h.1, h.2.1, ?_⟩
  rcases h.2.2 with h | ⟨ad, rfl, hc⟩
  · exact .inl h
  · obtain ⟨h1, h2, h3⟩ := hs ad rfl
    refine .inr ⟨ad, rfl, fun j u hj => ?_⟩
    have := hc j u hj
    obtain ⟨b, o, s⟩ := ad
    simp only at h1
    subst h1
    rw [add_none] at this ⊢
    rw [hu.cell h3 h2]
    exact this

section
variable {P : Program} (w : World)
theorem run_append_of_nil (base : Nat) (t ty e : TypeId) (i : TypeInfo) (size : Nat) (ht : P.underlying t = some (.slice e)) (hi : P.info? e = some i)
    (v : Value) (n : Nat) (xs : List Value) (hown : w.ownsRow base e size v n xs) (c : Nat) : (Builtin.append_ #[t, t] ty #[v, .slice none 0 c]).run P w = .ok v w := by
  rcases hown.2 with ⟨rfl, rfl⟩ | ⟨g, cap, cur, rfl, _, _, hnc, _⟩
  · simp [Builtin.append_, run_underlying ht, sizeOf, typeInfo, hi, Builtin.lenOf, Builtin.firstCells]
  · simp [Builtin.append_, run_underlying ht, sizeOf, typeInfo, hi, Builtin.lenOf, Builtin.firstCells, hnc, storeCells]

theorem run_app (t ty : TypeId) (e : TypeId) (i : TypeInfo) (z : Value) (size bytes : Nat) (ht : P.underlying t = some (.slice e)) (hi : P.info? e = some i) (hz : i.zero = some z)
    (hsize : i.size = size) (hby : i.bytes = bytes) (hzs : z.cells.size = size) (hsz : 0 < size)
    (ao : Option Addr) (n cap : Nat) (xs : List Value) (hown : RowO w e size ao n cap xs)
    (sx : Option Addr) (m c : Nat) (news : List Value) (hsrc : Src w size sx m news)
    (h63 : n + m ≤ maxLen) (hbytes : (n + m) * bytes ≤ 140737488355328) :
    ∃ ao' cap' w', (Builtin.append_ #[t, t] ty #[.slice ao n cap, .slice sx m c]).run P w = .ok (.slice ao' (n + m) cap') w' ∧ Apped w e size ao (n + m) (xs ++ news) ao' cap' w' := by
  obtain ⟨hl, h1, hsrc⟩ := hsrc
  rcases hsrc with ⟨rfl, rfl⟩ | ⟨ad, rfl, hnews⟩
  · have hn : news = [] := List.eq_nil_of_length_eq_zero (by simpa using hl)
    subst hn
    exact ⟨ao, cap, w, run_append_of_nil w 0 t ty e i size ht hi _ n xs hown c, by simpa using hown, Upd.refl _ _, fun b hb => .inl hb⟩
  obtain ⟨v', w', hr, h2, h3, _, h5⟩ := run_append_own_at (P := P) w 0 t ty e i z size bytes ht hi hz hsize hby hzs hsz (.slice ao n cap) n xs hown ad m c news hl hnews h1 h63 hbytes (Nat.zero_le _)
  obtain ⟨ao', cap', rfl⟩ : ∃ ao' cap', v' = .slice ao' (n + m) cap' := by
    rcases h2.2 with ⟨rfl, hn⟩ | ⟨g, cap', _, rfl, _⟩
    · exact ⟨none, 0, by rw [hn]⟩
    · exact ⟨_, _, rfl⟩
  refine ⟨ao', cap', w', hr, h2, ?_, ?_⟩
  · refine (Upd.refl _ w).grown h3 (fun k hk => .inl ?_)
    cases ao with
    | none => cases hk
    | some ad0 => simp [Value.ownBlock] at hk; simp [blkO, hk]
  · intro b hb
    cases ao' with
    | none => cases hb
    | some ad' =>
      simp only [blkO, List.mem_singleton] at hb
      subst hb
      rcases h5 with h5 | h5
      · cases ao with
        | none => simp [Value.ownBlock] at h5
        | some ad0 => simp only [Value.ownBlock, Option.some.injEq] at h5; left; simp [blkO, h5]
      · simp only [Value.ownBlock, Option.some.injEq] at h5; right; exact h5

theorem wp_app2 {o : Oper} {a : Act} {K : Act → World → Prop} {Q : Exit → Act → World → Prop} (s x : Operand) (t : TypeId)
    (ho : o.op = .call { callee := .builtin .append, args := #[s, x], argTypes := #[t, t] })
    (e : TypeId) (i : TypeInfo) (z : Value) (size bytes : Nat) (ht : P.underlying t = some (.slice e)) (hi : P.info? e = some i) (hz : i.zero = some z)
    (hsize : i.size = size) (hby : i.bytes = bytes) (hzs : z.cells.size = size) (hsz : 0 < size)
    (ao : Option Addr) (n cap : Nat) (xs : List Value) (hs : a.eval s = .slice ao n cap) (hown : RowO w e size ao n cap xs)
    (sx : Option Addr) (m c : Nat) (news : List Value) (hx : a.eval x = .slice sx m c) (hsrc : Src w size sx m news)
    (h63 : n + m ≤ maxLen) (hbytes : (n + m) * bytes ≤ 140737488355328)
    (h : ∀ ao' cap' w', Apped w e size ao (n + m) (xs ++ news) ao' cap' w' → K (a.put o.dst (.slice ao' (n + m) cap')) w') : o.wp P a w K Q := by
  obtain ⟨ao', cap', w', hr, h2⟩ := run_app (P := P) w t o.type e i z size bytes ht hi hz hsize hby hzs hsz ao n cap xs hown sx m c news hsrc h63 hbytes
  unfold Oper.wp execOp
  simp only [ho, resolve, invoke, builtin, Sem.run_bind, Sem.run_pure, Result.andThen_ok, List.map_toArray, List.map_cons, List.map_nil, hs, hx, hr]
  exact h ao' cap' w' h2
theorem wpList_app2 {ops : Array Oper} {rest : List Oper} {o : Oper} {a : Act} {Q : Exit → Act → World → Prop} (hgd : o.guard = none) (s x : Operand) (t : TypeId)
    (ho : o.op = .call { callee := .builtin .append, args := #[s, x], argTypes := #[t, t] })
    (e : TypeId) (i : TypeInfo) (z : Value) (size bytes : Nat) (ht : P.underlying t = some (.slice e)) (hi : P.info? e = some i) (hz : i.zero = some z)
    (hsize : i.size = size) (hby : i.bytes = bytes) (hzs : z.cells.size = size) (hsz : 0 < size)
    (ao : Option Addr) (n cap : Nat) (xs : List Value) (hs : a.eval s = .slice ao n cap) (hown : RowO w e size ao n cap xs)
    (sx : Option Addr) (m c : Nat) (news : List Value) (hx : a.eval x = .slice sx m c) (hsrc : Src w size sx m news)
    (h63 : n + m ≤ maxLen) (hbytes : (n + m) * bytes ≤ 140737488355328)
    (h : ∀ ao' cap' w', Apped w e size ao (n + m) (xs ++ news) ao' cap' w' → wpList P ops Q rest (a.put o.dst (.slice ao' (n + m) cap')) w') : wpList P ops Q (o :: rest) a w :=
  wpList_plain hgd fun _ hK => wp_app2 w s x t ho e i z size bytes ht hi hz hsize hby hzs hsz ao n cap xs hs hown sx m c news hx hsrc h63 hbytes fun ao' cap' w' h2 => hK _ _ (h ao' cap' w' h2)

theorem step_app2 {ops : Array Oper} {o : Oper} {a : Act} {K : Act → World → Prop} {Q : Exit → Act → World → Prop} {E : Prop} (hgd : o.guard = none) (s x : Operand) (t : TypeId)
    (ho : o.op = .call { callee := .builtin .append, args := #[s, x], argTypes := #[t, t] })
    (e : TypeId) (i : TypeInfo) (z : Value) (size bytes : Nat) (ht : P.underlying t = some (.slice e)) (hi : P.info? e = some i) (hz : i.zero = some z)
    (hsize : i.size = size) (hby : i.bytes = bytes) (hzs : z.cells.size = size) (hsz : 0 < size)
    (ao : Option Addr) (n cap : Nat) (xs : List Value) (hs : a.eval s = .slice ao n cap) (hown : RowO w e size ao n cap xs)
    (sx : Option Addr) (m c : Nat) (news : List Value) (hx : a.eval x = .slice sx m c) (hsrc : Src w size sx m news)
    (h63 : n + m ≤ maxLen) (hbytes : (n + m) * bytes ≤ 140737488355328)
    (h : ∀ ao' cap' w', Apped w e size ao (n + m) (xs ++ news) ao' cap' w' → K (a.put o.dst (.slice ao' (n + m) cap')) w') :
    if Region.wanted o (yielded ops a.tmps) = true then Oper.wp P o a w K Q else E := by
  have hw : Region.wanted o (yielded ops a.tmps) = true := by simp [Region.wanted, hgd]
  rw [if_pos hw]
  exact wp_app2 w s x t ho e i z size bytes ht hi hz hsize hby hzs hsz ao n cap xs hs hown sx m c news hx hsrc h63 hbytes h
end

/-- A part of a row of items as a source. -/
theorem part_src {w W : World} {ao : Option Addr} {n cap : Nat} {L : List It} (h : RowO w 74 2 ao n cap (L.flatMap itVs)) (hn : L.length = n) (hU : Upd [] w W) (a m : Nat) (ha : a + m ≤ n) (off : Nat) (hoff : off = a * 2 ∨ m = 0) :
    Src W 2 (ao.map fun ad => ⟨ad.block, off, none⟩) m (((L.drop a).take m).flatMap itVs) := by
  refine ⟨by rw [flat_len itVs 2 itVs_len]; simp; omega, flat_one _, ?_⟩
  rcases h.cases with ⟨rfl, rfl, _, _⟩ | ⟨g, rfl, hr⟩
  · exact .inl ⟨rfl, by omega⟩
  · refine .inr ⟨_, rfl, fun j u hu => ?_⟩
    rcases hoff with rfl | rfl
    · exact part_cells hr hU a m j u hu
    · simp at hu
end Go.Proofs.YtfeobcmcellcpaaGreat

/-! ItemsF -/
namespace Go.Proofs.YtfeobcmcellcpaaGreat
open Go.RowKit

theorem ins_split {L : List It} {x : It} {k : Nat} (hk : k ≤ L.length) (h1 : ∀ j, j < k → ahead (atI L j) x = true) (h2 : k = L.length ∨ ahead (atI L k) x = false) : insI x L = L.take k ++ x :: L.drop k := by
  induction L generalizing k with
  | nil => simp [insI]
  | cons y r ih =>
    cases k with
    | zero =>
      rcases h2 with h2 | h2
      · simp at h2
      · have h3 : ahead y x = false := h2
        simp [insI, h3]
    | succ k =>
      have h3 : ahead y x = true := h1 0 (by omega)
      simp only [insI, h3, if_true, List.take_succ_cons, List.drop_succ_cons, List.cons_append]
      rw [ih (by simpa using hk) (fun j hj => h1 (j + 1) (by omega)) (by rcases h2 with h2 | h2; (left; simpa using h2); (right; exact h2))]


/-- How far the look for a place has come. -/
def PushK (L : List It) (x : It) (w1 : World) (kv : Value) (wr : World) : Prop := ∃ k : Nat, kv = .int .i64 k ∧ k ≤ L.length ∧ (∀ j, j < k → ahead (atI L j) x = true) ∧ Upd [] w1 wr

theorem ri_push_no (b o : Nat) (ao : Option Addr) (cap : Nat) (L : List It) (x : It) (w : World) (h : ItsAt w b o ao cap L) (hx : hasI L x.2 = true) :
    Calls Tryz.prog 69 #[.pointer (some ⟨b, o, none⟩), .agg #[.int .u64 x.1, .int .i64 x.2]] w (fun e w' => e = .returned (.bool false) ∧ ItsGo w b o ao L w') := by
  obtain ⟨i, hi, _, _⟩ := posI_of hx
  have HH := Lib.hid h
  have HI := Lib.hid hi
  have hsm := h.small
  have hi2 : (i : Int) ≤ 9223372036854775807 := by omega
  clear h hi hx
  go_enter Tryz.func69, Tryz.ntmps69
  go_wp2_with fail
  refine (ri_at b o ao cap L x.2 _ (HH.out.upd ((Upd.refl [] w).alloc _) (by simp) (by simp))).mono ?_
  rintro e w2 ⟨rfl, rfl⟩
  rw [HI.out]
  go_wp2
  go_ret
  exact ⟨rfl, HH.out.stays ((Upd.refl [] w).alloc _)⟩


set_option maxRecDepth 100000 in
set_option maxHeartbeats 8000000 in
theorem ri_push_nil (b o : Nat) (x : It) (w : World) (h : ItsAt w b o none 0 []) :
    Calls Tryz.prog 69 #[.pointer (some ⟨b, o, none⟩), .agg #[.int .u64 x.1, .int .i64 x.2]] w (fun e w' => e = .returned (.bool true) ∧ ItsTo w b o [x] w') := by
  obtain ⟨i0, hi0, hz0, hz1, hz2⟩ := info_parts infoItem
  have hp : Hid (posI [] x.2 = -1) := rfl
  have HH := Lib.hid h
  have lb := h.lt
  have c0 : w.cell? ⟨b, o, none⟩ = some (.slice none 0 0) := h.cell
  have HC0 := Lib.hid c0
  obtain ⟨w1, hw1⟩ : ∃ w1, w1 = w.alloc (.cells #[.int .u64 x.1, .int .i64 x.2] 74 (0, 0)) := ⟨_, rfl⟩
  have hU1 : Upd [] w w1 := by rw [hw1]; exact (Upd.refl _ w).alloc _
  have HU1 := Lib.hid hU1
  have HB1 : Hid (Blk w1 w.heap.size 74 [.int .u64 x.1, .int .i64 x.2]) := by unfold Hid; rw [hw1]; exact heap_one w _
  have HW1 := Lib.hid hw1
  clear h c0 hU1 hw1
  go_enter Tryz.func69, Tryz.ntmps69
  go_wp2_with fail
  rw [← HW1.out]
  refine (ri_at b o none 0 [] x.2 _ (HH.out.upd HU1.out (by simp) (by simp))).mono ?_
  rintro e w2 ⟨rfl, hw2⟩
  rw [hp.out]
  subst hw2
  go_wp2
  go_loopw [5] (fun kv wr => PushK [] x w1 kv wr) (fun kv _ => 0 - (intOf kv).toNat)
  case atStart => exact ⟨0, rfl, by simp, fun j hj => by omega, Upd.refl _ _⟩
  case round =>
    obtain ⟨k, rfl, hk, -, hU⟩ := hrel
    obtain rfl : k = 0 := by simpa using hk
    have HU := Lib.hid hU
    clear hU hk
    have HUw0 : Hid (Upd [] w wr) := HU1.out.trans HU.out
    have c0 : wr.cell? ⟨b, o, none⟩ = some (.slice none 0 0) := by rw [HUw0.out.cell lb (by simp)]; exact HC0.out
    have hB := HB1.out.upd HU.out (by simp)
    have y0 := hB.cell (j := 0) rfl
    have y1 := hB.cell (j := 1) rfl
    have ly := hB.lt
    have lbr := Nat.lt_of_lt_of_le lb HUw0.out.size
    clear hB
    go_wp2
    go_quiet (fail)
    obtain ⟨wz, hwz⟩ : ∃ wz, wz = wr.drewN nq := ⟨_, rfl⟩
    rw [← hwz]
    have HUz : Hid (Upd [] w1 wz) := by unfold Hid; rw [hwz]; exact HU.out.drewN nq
    have HUw : Hid (Upd [] w wz) := HU1.out.trans HUz.out
    have lbz := Nat.lt_of_lt_of_le lb HUw.out.size
    have ez : wz.cell? ⟨b, o, none⟩ = some (.slice none 0 0) := by rw [HUw.out.cell lb (by simp)]; exact HC0.out
    have hB3 := HB1.out.upd HUz.out (by simp)
    have y0' := hB3.cell (j := 0) rfl
    have y1' := hB3.cell (j := 1) rfl
    have ly3 := hB3.lt
    clear hwz hB3
    go_wp2
    go_region_law
      (first
      | (refine step_app2 _ (by rfl) _ _ _ (by rfl) 74 i0 _ 2 16 underlyingItems hi0 hz0 hz1 hz2 rfl (by omega) none 0 0 [] (by rfl) (RowO.nil _ _ _) (some ⟨wz.heap.size, 0, none⟩) 1 1 (itVs x) (by rfl) ⟨rfl, by simp [itVs, Value.oneCell'], .inr ⟨_, rfl, World.news_of_block (cs := #[.int .u64 x.1, .int .i64 x.2]) (t := 74) (fr := (0, 0)) (heap_alloc_new wz _)⟩⟩ (by unfold maxLen; omega) (by omega) ?_; intro ao2 cap2 w4 hA2; have HU4 : Hid (Upd [] w w4) := (HUw.out.trans ((Upd.refl [] wz).alloc _).drew).trans hA2.upd; have e4 : w4.cell? ⟨b, o, none⟩ = some (.slice none 0 0) := (by rw [HU4.out.cell lb (by simp)]; exact HC0.out); have lb4 := Nat.lt_of_lt_of_le lb HU4.out.size; have HA2 := Lib.hid hA2; clear hA2)
      | (refine step_app2 _ (by rfl) _ _ _ (by rfl) 74 i0 _ 2 16 underlyingItems hi0 hz0 hz1 hz2 rfl (by omega) ao2 1 cap2 (itVs x) (by rfl) HA2.out.row none 0 0 [] (by rfl) ⟨rfl, by simp, .inl ⟨rfl, rfl⟩⟩ (by unfold maxLen; omega) (by omega) ?_; intro ao3 cap3 w5 hA3; have HU5 : Hid (Upd [] w w5) := HU4.out.then hA3.upd (fun _ _ h => h) (fun i hi hm => by rcases HA2.out.at_ i hm with h | h; (· cases h); (have := HUw.out.size; simp at h; omega)); have e5 : w5.cell? ⟨b, o, none⟩ = some (.slice none 0 0) := (by rw [HU5.out.cell lb (by simp)]; exact HC0.out); have z5 : w5.frozen? ⟨b, o, none⟩ = false := (by rw [HU5.out.frozen lb (by simp)]; exact HH.out.free); have lb5 := Nat.lt_of_lt_of_le lb HU5.out.size; have HA3 := Lib.hid hA3; clear hA3))
    all_goals
      go_wp2
      go_ret
      refine ⟨rfl, its_done (N := w.heap.size) (ao' := ao3) (cap' := cap3) (n' := 1) HH.out HU5.out ?_ ?_ (Nat.le_refl _) rfl (by simp [NdI]) (List.pairwise_singleton _ _) (by omega) (S := []) (Upd.refl _ _) (by simp)⟩
      · have := HA3.out.row
        rw [List.append_nil] at this
        simpa using this
      · intro c hc
        rcases HA3.out.at_ c hc with h | h
        · rcases HA2.out.at_ c h with h | h
          · cases h
          · have := HUw.out.size; simp at h; omega
        · have := HU4.out.size; omega



set_option maxRecDepth 100000 in
set_option maxHeartbeats 16000000 in
theorem ri_push_some (b o g : Nat) (cap : Nat) (L : List It) (x : It) (w : World) (h : ItsAt w b o (some ⟨g, 0, none⟩) cap L) (hx : hasI L x.2 = false) (hsm : L.length < 1000) :
    Calls Tryz.prog 69 #[.pointer (some ⟨b, o, none⟩), .agg #[.int .u64 x.1, .int .i64 x.2]] w (fun e w' => e = .returned (.bool true) ∧ ItsTo w b o (insI x L) w') := by
  obtain ⟨i0, hi0, hz0, hz1, hz2⟩ := info_parts infoItem
  have hp : Hid (posI L x.2 = -1) := posI_neg hx
  have HH := Lib.hid h
  have HX := Lib.hid hx
  have c0 := h.cell
  have lb := h.lt
  have hcap := h.row.cap_le.1
  obtain ⟨n, hn⟩ : ∃ n, L.length = n := ⟨_, rfl⟩
  have HROW := Lib.hid h.row
  rw [hn] at c0 hsm hcap HROW
  have HC0 := Lib.hid c0
  have HN := Lib.hid hn
  obtain ⟨w1, hw1⟩ : ∃ w1, w1 = w.alloc (.cells #[.int .u64 x.1, .int .i64 x.2] 74 (0, 0)) := ⟨_, rfl⟩
  have hU1 : Upd [] w w1 := by rw [hw1]; exact (Upd.refl _ w).alloc _
  have HU1 := Lib.hid hU1
  have HB1 : Hid (Blk w1 w.heap.size 74 [.int .u64 x.1, .int .i64 x.2]) := by unfold Hid; rw [hw1]; exact heap_one w _
  have HW1 := Lib.hid hw1
  clear h hx hn c0 hU1 hw1
  go_enter Tryz.func69, Tryz.ntmps69
  go_wp2_with fail
  rw [← HW1.out]
  refine (ri_at b o (some ⟨g, 0, none⟩) cap L x.2 _ (HH.out.upd HU1.out (by simp) (by simp))).mono ?_
  rintro e w2 ⟨rfl, rfl⟩
  rw [hp.out]
  go_wp2
  go_loopw [5] (fun kv wr => PushK L x w1 kv wr) (fun kv _ => n - (intOf kv).toNat)
  case atStart => exact ⟨0, rfl, by omega, fun j hj => by omega, Upd.refl _ _⟩
  case round =>
    obtain ⟨k, rfl, hk, hj, hU⟩ := hrel
    rw [HN.out] at hk
    have HJ := Lib.hid hj
    have HU := Lib.hid hU
    clear hj hU
    have HUw0 : Hid (Upd [] w wr) := HU1.out.trans HU.out
    have c0 : wr.cell? ⟨b, o, none⟩ = some (.slice (some ⟨g, 0, none⟩) n cap) := by rw [HUw0.out.cell lb (by simp)]; exact HC0.out
    have hB := HB1.out.upd HU.out (by simp)
    have y0 := hB.cell (j := 0) rfl
    have y1 := hB.cell (j := 1) rfl
    have ly := hB.lt
    have lbr := Nat.lt_of_lt_of_le lb HUw0.out.size
    clear hB
    by_cases hlt : k < n
    · have t1 : decide (k < n) = true := by simp [hlt]
      have b1 : (k : Int) < (n : Int) := by omega
      obtain ⟨g', hg', lg, x0, x1⟩ := (HROW.out.upd HUw0.out (by simp)).items HN.out hlt
      obtain rfl : g = g' := by simpa using hg'
      clear hg'
      obtain ⟨z, hz⟩ : ∃ z, atI L k = z := ⟨_, rfl⟩
      rw [hz] at x0 x1
      have HZ := Lib.hid hz
      clear hz
      go_wp2
      go_region_held3 (fun w' => Upd [] wr w' ∧ ∀ (b o : Nat), b < wr.heap.size → b ∉ ([] : List Nat) → w'.cell? ⟨b, o, none⟩ = wr.cell? ⟨b, o, none⟩)
        (first | exact Held.init _ _ | exact Held.step (by assumption) hB) (first | (go_at_call 108; refine (rahead_any z x _).mono ?_; rintro e wz ⟨rfl, hB⟩))
      have HUz : Hid (Upd [] w1 wz) := HU.out.trans ((Upd.refl [] wr).drew.trans hB)
      cases hah : ahead z x with
      | true =>
        have HAH := Lib.hid hah
        clear hah hB
        go_wp2
        exact ⟨⟨k + 1, by congr 1, by rw [HN.out]; omega, fun j hj => by
          by_cases e : j = k
          · subst e; rw [HZ.out]; exact HAH.out
          · exact HJ.out j (by omega), HUz.out⟩, by have := HN.out; first | (simp [intOf]; done) | (simp [intOf]; omega)⟩
      | false =>
        have HAH := Lib.hid hah
        clear hah hB
        have hfin : Hid (insI x L = L.take k ++ x :: L.drop k) := ins_split (by rw [HN.out]; exact hk) HJ.out (.inr (by rw [HZ.out]; exact HAH.out))
        have HUw : Hid (Upd [] w wz) := HU1.out.trans HUz.out
        have lbz := Nat.lt_of_lt_of_le lb HUw.out.size
        have ez : wz.cell? ⟨b, o, none⟩ = some (.slice (some ⟨g, 0, none⟩) n cap) := by rw [HUw.out.cell lb (by simp)]; exact HC0.out
        have b2 : k ≤ cap := by omega
        by_cases hce : cap = k
        all_goals (try (exfalso; omega))
        all_goals
          go_wp2_with (at_builtin; refine wpList_app2 _ (by rfl) _ _ _ (by rfl) 74 i0 _ 2 16 underlyingItems hi0 hz0 hz1 hz2 rfl (by omega) none 0 0 [] (by rfl) (RowO.nil _ _ _) (some ⟨g, 0 * 2, none⟩) k _ (((L.drop 0).take k).flatMap itVs) (by rfl) (part_src HROW.out HN.out HUw.out 0 k (by omega) (0 * 2) (by left; rfl)) (by unfold maxLen; omega) (by omega) ?_; intro ao1 cap1 w3 hA1)
          have HA1 : Hid (RowO w3 74 2 ao1 k cap1 ((L.take k).flatMap itVs)) := by
            have := hA1.row
            rw [Nat.zero_add, List.nil_append, List.drop_zero] at this
            exact this
          have HU3 : Hid (Upd [] w w3) := HUw.out.trans hA1.upd
          have e3 : w3.cell? ⟨b, o, none⟩ = some (.slice (some ⟨g, 0, none⟩) n cap) := by rw [HU3.out.cell lb (by simp)]; exact HC0.out
          have hB3 := HB1.out.upd (HUz.out.trans hA1.upd) (by simp)
          have y0' := hB3.cell (j := 0) rfl
          have y1' := hB3.cell (j := 1) rfl
          have ly3 := hB3.lt
          have lb3 := Nat.lt_of_lt_of_le lb HU3.out.size
          have hne1 : ∀ c ∈ blkO ao1, w.heap.size ≤ c := fun c hc => by
            rcases hA1.at_ c hc with h | h
            · cases h
            · have := HUw.out.size; omega
          have HNE1 := Lib.hid hne1
          clear hA1 hB3 hne1
          go_region_law
            (first
            | (refine step_app2 _ (by rfl) _ _ _ (by rfl) 74 i0 _ 2 16 underlyingItems hi0 hz0 hz1 hz2 rfl (by omega) ao1 k cap1 ((L.take k).flatMap itVs) (by rfl) (RowO.upd HA1.out (((Upd.refl [] w3).alloc _).drew) (by simp)) (some ⟨w3.heap.size, 0, none⟩) 1 1 (itVs x) (by rfl) ⟨rfl, by simp [itVs, Value.oneCell'], .inr ⟨_, rfl, World.news_of_block (cs := #[.int .u64 x.1, .int .i64 x.2]) (t := 74) (fr := (0, 0)) (heap_alloc_new w3 _)⟩⟩ (by unfold maxLen; omega) (by omega) ?_; intro ao2 cap2 w4 hA2; have HU34 : Hid (Upd (blkO ao1) w3 w4) := (((Upd.refl (blkO ao1) w3).alloc _).drew).trans hA2.upd; have HU4 : Hid (Upd [] w w4) := HU3.out.then HU34.out (fun _ _ h => h) (fun i hi hm => by have := HNE1.out i hm; omega); have e4 : w4.cell? ⟨b, o, none⟩ = some (.slice (some ⟨g, 0, none⟩) n cap) := (by rw [HU4.out.cell lb (by simp)]; exact HC0.out); have lb4 := Nat.lt_of_lt_of_le lb HU4.out.size; have HA2 := Lib.hid hA2; clear hA2)
            | (refine step_app2 _ (by rfl) _ _ _ (by rfl) 74 i0 _ 2 16 underlyingItems hi0 hz0 hz1 hz2 rfl (by omega) ao2 (k + 1) cap2 _ (by rfl) HA2.out.row (some ⟨g, k * 2, none⟩) (n - k) _ (((L.drop k).take (n - k)).flatMap itVs) (by rfl) (part_src HROW.out HN.out HU4.out k (n - k) (by omega) (k * 2) (by left; rfl)) (by unfold maxLen; omega) (by omega) ?_; intro ao3 cap3 w5 hA3; have HU5 : Hid (Upd [] w w5) := HU4.out.then hA3.upd (fun _ _ h => h) (fun i hi hm => by rcases HA2.out.at_ i hm with h | h; (have := HNE1.out i h; omega); (have := HU3.out.size; simp at h; omega)); have e5 : w5.cell? ⟨b, o, none⟩ = some (.slice (some ⟨g, 0, none⟩) n cap) := (by rw [HU5.out.cell lb (by simp)]; exact HC0.out); have z5 : w5.frozen? ⟨b, o, none⟩ = false := (by rw [HU5.out.frozen lb (by simp)]; exact HH.out.free); have lb5 := Nat.lt_of_lt_of_le lb HU5.out.size; have HA3 := Lib.hid hA3; clear hA3)
            | (refine step_app2 _ (by rfl) _ _ _ (by rfl) 74 i0 _ 2 16 underlyingItems hi0 hz0 hz1 hz2 rfl (by omega) ao2 (k + 1) cap2 _ (by rfl) HA2.out.row (some ⟨g, 0, none⟩) (n - k) _ (((L.drop k).take (n - k)).flatMap itVs) (by rfl) (part_src HROW.out HN.out HU4.out k (n - k) (by omega) 0 (by right; omega)) (by unfold maxLen; omega) (by omega) ?_; intro ao3 cap3 w5 hA3; have HU5 : Hid (Upd [] w w5) := HU4.out.then hA3.upd (fun _ _ h => h) (fun i hi hm => by rcases HA2.out.at_ i hm with h | h; (have := HNE1.out i h; omega); (have := HU3.out.size; simp at h; omega)); have e5 : w5.cell? ⟨b, o, none⟩ = some (.slice (some ⟨g, 0, none⟩) n cap) := (by rw [HU5.out.cell lb (by simp)]; exact HC0.out); have z5 : w5.frozen? ⟨b, o, none⟩ = false := (by rw [HU5.out.frozen lb (by simp)]; exact HH.out.free); have lb5 := Nat.lt_of_lt_of_le lb HU5.out.size; have HA3 := Lib.hid hA3; clear hA3))
          all_goals
            go_wp2
            go_ret
            refine ⟨rfl, its_done (N := w.heap.size) (ao' := ao3) (cap' := cap3) (n' := k + 1 + (n - k)) HH.out HU5.out ?_ ?_ (Nat.le_refl _) ?_ (insI_nd HH.out.nd HX.out) (insI_srt HH.out.srt ((hasI_no _ _).1 HX.out)) (by omega) (S := []) (Upd.refl _ _) (by simp)⟩
            · have := HA3.out.row
              rw [List.take_of_length_le (l := L.drop k) (by rw [List.length_drop, HN.out]; omega)] at this
              rw [hfin.out, List.flatMap_append, List.flatMap_cons, ← List.append_assoc]
              exact this
            · intro c hc
              rcases HA3.out.at_ c hc with h | h
              · rcases HA2.out.at_ c h with h | h
                · exact HNE1.out c h
                · have := HU3.out.size; simp at h; omega
              · have := HU4.out.size; omega
            · rw [(insI_perm x L).length_eq, List.length_cons, HN.out]; omega
    · have t1 : decide (k < n) = false := by simp; omega
      go_wp2
      go_quiet (fail)
      obtain ⟨wz, hwz⟩ : ∃ wz, wz = wr.drewN nq := ⟨_, rfl⟩
      rw [← hwz]
      have HUz : Hid (Upd [] w1 wz) := by unfold Hid; rw [hwz]; exact HU.out.drewN nq
      have hkn : Hid (k = L.length) := by unfold Hid; rw [HN.out]; omega
      clear hwz
      have hfin : Hid (insI x L = L.take k ++ x :: L.drop k) := ins_split (by rw [HN.out]; exact hk) HJ.out (.inl hkn.out)
      have HUw : Hid (Upd [] w wz) := HU1.out.trans HUz.out
      have lbz := Nat.lt_of_lt_of_le lb HUw.out.size
      have ez : wz.cell? ⟨b, o, none⟩ = some (.slice (some ⟨g, 0, none⟩) n cap) := by rw [HUw.out.cell lb (by simp)]; exact HC0.out
      have b2 : k ≤ cap := by omega
      by_cases hce : cap = k
      all_goals (try (exfalso; omega))
      all_goals
        go_wp2_with (at_builtin; refine wpList_app2 _ (by rfl) _ _ _ (by rfl) 74 i0 _ 2 16 underlyingItems hi0 hz0 hz1 hz2 rfl (by omega) none 0 0 [] (by rfl) (RowO.nil _ _ _) (some ⟨g, 0 * 2, none⟩) k _ (((L.drop 0).take k).flatMap itVs) (by rfl) (part_src HROW.out HN.out HUw.out 0 k (by omega) (0 * 2) (by left; rfl)) (by unfold maxLen; omega) (by omega) ?_; intro ao1 cap1 w3 hA1)
        have HA1 : Hid (RowO w3 74 2 ao1 k cap1 ((L.take k).flatMap itVs)) := by
          have := hA1.row
          rw [Nat.zero_add, List.nil_append, List.drop_zero] at this
          exact this
        have HU3 : Hid (Upd [] w w3) := HUw.out.trans hA1.upd
        have e3 : w3.cell? ⟨b, o, none⟩ = some (.slice (some ⟨g, 0, none⟩) n cap) := by rw [HU3.out.cell lb (by simp)]; exact HC0.out
        have hB3 := HB1.out.upd (HUz.out.trans hA1.upd) (by simp)
        have y0' := hB3.cell (j := 0) rfl
        have y1' := hB3.cell (j := 1) rfl
        have ly3 := hB3.lt
        have lb3 := Nat.lt_of_lt_of_le lb HU3.out.size
        have hne1 : ∀ c ∈ blkO ao1, w.heap.size ≤ c := fun c hc => by
          rcases hA1.at_ c hc with h | h
          · cases h
          · have := HUw.out.size; omega
        have HNE1 := Lib.hid hne1
        clear hA1 hB3 hne1
        go_region_law
          (first
          | (refine step_app2 _ (by rfl) _ _ _ (by rfl) 74 i0 _ 2 16 underlyingItems hi0 hz0 hz1 hz2 rfl (by omega) ao1 k cap1 ((L.take k).flatMap itVs) (by rfl) (RowO.upd HA1.out (((Upd.refl [] w3).alloc _).drew) (by simp)) (some ⟨w3.heap.size, 0, none⟩) 1 1 (itVs x) (by rfl) ⟨rfl, by simp [itVs, Value.oneCell'], .inr ⟨_, rfl, World.news_of_block (cs := #[.int .u64 x.1, .int .i64 x.2]) (t := 74) (fr := (0, 0)) (heap_alloc_new w3 _)⟩⟩ (by unfold maxLen; omega) (by omega) ?_; intro ao2 cap2 w4 hA2; have HU34 : Hid (Upd (blkO ao1) w3 w4) := (((Upd.refl (blkO ao1) w3).alloc _).drew).trans hA2.upd; have HU4 : Hid (Upd [] w w4) := HU3.out.then HU34.out (fun _ _ h => h) (fun i hi hm => by have := HNE1.out i hm; omega); have e4 : w4.cell? ⟨b, o, none⟩ = some (.slice (some ⟨g, 0, none⟩) n cap) := (by rw [HU4.out.cell lb (by simp)]; exact HC0.out); have lb4 := Nat.lt_of_lt_of_le lb HU4.out.size; have HA2 := Lib.hid hA2; clear hA2)
          | (refine step_app2 _ (by rfl) _ _ _ (by rfl) 74 i0 _ 2 16 underlyingItems hi0 hz0 hz1 hz2 rfl (by omega) ao2 (k + 1) cap2 _ (by rfl) HA2.out.row (some ⟨g, k * 2, none⟩) (n - k) _ (((L.drop k).take (n - k)).flatMap itVs) (by rfl) (part_src HROW.out HN.out HU4.out k (n - k) (by omega) (k * 2) (by left; rfl)) (by unfold maxLen; omega) (by omega) ?_; intro ao3 cap3 w5 hA3; have HU5 : Hid (Upd [] w w5) := HU4.out.then hA3.upd (fun _ _ h => h) (fun i hi hm => by rcases HA2.out.at_ i hm with h | h; (have := HNE1.out i h; omega); (have := HU3.out.size; simp at h; omega)); have e5 : w5.cell? ⟨b, o, none⟩ = some (.slice (some ⟨g, 0, none⟩) n cap) := (by rw [HU5.out.cell lb (by simp)]; exact HC0.out); have z5 : w5.frozen? ⟨b, o, none⟩ = false := (by rw [HU5.out.frozen lb (by simp)]; exact HH.out.free); have lb5 := Nat.lt_of_lt_of_le lb HU5.out.size; have HA3 := Lib.hid hA3; clear hA3)
          | (refine step_app2 _ (by rfl) _ _ _ (by rfl) 74 i0 _ 2 16 underlyingItems hi0 hz0 hz1 hz2 rfl (by omega) ao2 (k + 1) cap2 _ (by rfl) HA2.out.row (some ⟨g, 0, none⟩) (n - k) _ (((L.drop k).take (n - k)).flatMap itVs) (by rfl) (part_src HROW.out HN.out HU4.out k (n - k) (by omega) 0 (by right; omega)) (by unfold maxLen; omega) (by omega) ?_; intro ao3 cap3 w5 hA3; have HU5 : Hid (Upd [] w w5) := HU4.out.then hA3.upd (fun _ _ h => h) (fun i hi hm => by rcases HA2.out.at_ i hm with h | h; (have := HNE1.out i h; omega); (have := HU3.out.size; simp at h; omega)); have e5 : w5.cell? ⟨b, o, none⟩ = some (.slice (some ⟨g, 0, none⟩) n cap) := (by rw [HU5.out.cell lb (by simp)]; exact HC0.out); have z5 : w5.frozen? ⟨b, o, none⟩ = false := (by rw [HU5.out.frozen lb (by simp)]; exact HH.out.free); have lb5 := Nat.lt_of_lt_of_le lb HU5.out.size; have HA3 := Lib.hid hA3; clear hA3))
        all_goals
          go_wp2
          go_ret
          refine ⟨rfl, its_done (N := w.heap.size) (ao' := ao3) (cap' := cap3) (n' := k + 1 + (n - k)) HH.out HU5.out ?_ ?_ (Nat.le_refl _) ?_ (insI_nd HH.out.nd HX.out) (insI_srt HH.out.srt ((hasI_no _ _).1 HX.out)) (by omega) (S := []) (Upd.refl _ _) (by simp)⟩
          · have := HA3.out.row
            rw [List.take_of_length_le (l := L.drop k) (by rw [List.length_drop, HN.out]; omega)] at this
            rw [hfin.out, List.flatMap_append, List.flatMap_cons, ← List.append_assoc]
            exact this
          · intro c hc
            rcases HA3.out.at_ c hc with h | h
            · rcases HA2.out.at_ c h with h | h
              · exact HNE1.out c h
              · have := HU3.out.size; simp at h; omega
            · have := HU4.out.size; omega
          · rw [(insI_perm x L).length_eq, List.length_cons, HN.out]; omega

theorem ri_push (b o : Nat) (ao : Option Addr) (cap : Nat) (L : List It) (x : It) (w : World) (h : ItsAt w b o ao cap L) (hsm : L.length < 1000) :
    Calls Tryz.prog 69 #[.pointer (some ⟨b, o, none⟩), .agg #[.int .u64 x.1, .int .i64 x.2]] w (fun e w' => e = .returned (.bool (!hasI L x.2)) ∧ ItsGo w b o ao (if hasI L x.2 then L else insI x L) w') := by
  cases hx : hasI L x.2 with
  | true => exact ri_push_no b o ao cap L x w h hx
  | false =>
    have hgo : ∀ w', ItsTo w b o (insI x L) w' → ItsGo w b o ao (insI x L) w' := fun w' hI => hI.go (Upd.refl [] w) (S := []) (Upd.refl _ _) h.lt (by simp)
    rcases h.row.cases with ⟨rfl, hn, rfl, _⟩ | ⟨g, rfl, _⟩
    · obtain rfl := List.eq_nil_of_length_eq_zero hn
      exact (ri_push_nil b o x w h).mono fun e w' k => ⟨k.1, hgo w' k.2⟩
    · exact (ri_push_some b o g cap L x w h hx hsm).mono fun e w' k => ⟨k.1, hgo w' k.2⟩
end Go.Proofs.YtfeobcmcellcpaaGreat
