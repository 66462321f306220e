/-
  append, the source nil, empty or not: in a plain region, and at a step of a region that draws its order. No condition.
-/
import Derived.Test.YtbnifhdnpeiheaaDoorItemsD
import Derived.Deep.RegionLaw
set_option linter.unusedVariables false
set_option linter.unusedSimpArgs false
namespace Go.Proofs.YtbnifhdnpeiheaaDoor
open Go.RowKit

/-- A slice of m elements that is read: its cells, if there are any. -/
def Src (w : World) (size : Nat) (sx : Option Addr) (m : Nat) (news : List Value) : Prop :=
  news.length = m * size ∧ (∀ u ∈ news, u.oneCell' = true) ∧ ((sx = none ∧ m = 0) ∨ ∃ ad, sx = some ad ∧ ∀ j u, news[j]? = some u → w.cell? (ad.add j) = some u)
theorem Src.drew {w : World} {size m : Nat} {sx : Option Addr} {news : List Value} (h : Src w size sx m news) : Src w.drew size sx m news := h
theorem Src.upd {S : List Nat} {w w' : World} {size m : Nat} {sx : Option Addr} {news : List Value} (h : Src w size sx m news) (hu : Upd S w w') (hs : ∀ ad, sx = some ad → ad.spot = none ∧ ad.block ∉ S ∧ ad.block < w.heap.size) : Src w' size sx m news := by
  refine ⟨h.1, h.2.1, ?_⟩
  rcases h.2.2 with h | ⟨ad, rfl, hc⟩
  · exact .inl h
  · obtain ⟨h1, h2, h3⟩ := hs ad rfl
    refine .inr ⟨ad, rfl, fun j u hj => ?_⟩
    have := hc j u hj
    obtain ⟨b, o, s⟩ := ad
    simp only at h1
    subst h1
    rw [add_none] at this ⊢
    rw [hu.cell h3 h2]
    exact this

section
variable {P : Program} (w : World)
theorem run_append_of_nil (base : Nat) (t ty e : TypeId) (i : TypeInfo) (size : Nat) (ht : P.underlying t = some (.slice e)) (hi : P.info? e = some i)
    (v : Value) (n : Nat) (xs : List Value) (hown : w.ownsRow base e size v n xs) (c : Nat) : (Builtin.append_ #[t, t] ty #[v, .slice none 0 c]).run P w = .ok v w := by
  rcases hown.2 with ⟨rfl, rfl⟩ | ⟨g, cap, cur, rfl, _, _, hnc, _⟩
  · simp [Builtin.append_, run_underlying ht, sizeOf, typeInfo, hi, Builtin.lenOf, Builtin.firstCells]
  · simp [Builtin.append_, run_underlying ht, sizeOf, typeInfo, hi, Builtin.lenOf, Builtin.firstCells, hnc, storeCells]

theorem run_app (t ty : TypeId) (e : TypeId) (i : TypeInfo) (z : Value) (size bytes : Nat) (ht : P.underlying t = some (.slice e)) (hi : P.info? e = some i) (hz : i.zero = some z)
    (hsize : i.size = size) (hby : i.bytes = bytes) (hzs : z.cells.size = size) (hsz : 0 < size)
    (ao : Option Addr) (n cap : Nat) (xs : List Value) (hown : RowO w e size ao n cap xs)
    (sx : Option Addr) (m c : Nat) (news : List Value) (hsrc : Src w size sx m news)
    (h63 : n + m ≤ maxLen) (hbytes : (n + m) * bytes ≤ 140737488355328) :
    ∃ ao' cap' w', (Builtin.append_ #[t, t] ty #[.slice ao n cap, .slice sx m c]).run P w = .ok (.slice ao' (n + m) cap') w' ∧ Apped w e size ao (n + m) (xs ++ news) ao' cap' w' := by
  obtain ⟨hl, h1, hsrc⟩ := hsrc
  rcases hsrc with ⟨rfl, rfl⟩ | ⟨ad, rfl, hnews⟩
  · have hn : news = [] := List.eq_nil_of_length_eq_zero (by simpa using hl)
    subst hn
    exact ⟨ao, cap, w, run_append_of_nil w 0 t ty e i size ht hi _ n xs hown c, by simpa using hown, Upd.refl _ _, fun b hb => .inl hb⟩
  obtain ⟨v', w', hr, h2, h3, _, h5⟩ := run_append_own_at (P := P) w 0 t ty e i z size bytes ht hi hz hsize hby hzs hsz (.slice ao n cap) n xs hown ad m c news hl hnews h1 h63 hbytes (Nat.zero_le _)
  obtain ⟨ao', cap', rfl⟩ : ∃ ao' cap', v' = .slice ao' (n + m) cap' := by
    rcases h2.2 with ⟨rfl, hn⟩ | ⟨g, cap', _, rfl, _⟩
    · exact ⟨none, 0, by rw [hn]⟩
    · exact ⟨_, _, rfl⟩
  refine ⟨ao', cap', w', hr, h2, ?_, ?_⟩
  · refine (Upd.refl _ w).grown h3 (fun k hk => .inl ?_)
    cases ao with
    | none => cases hk
    | some ad0 => simp [Value.ownBlock] at hk; simp [blkO, hk]
  · intro b hb
    cases ao' with
    | none => cases hb
    | some ad' =>
      simp only [blkO, List.mem_singleton] at hb
      subst hb
      rcases h5 with h5 | h5
      · cases ao with
        | none => simp [Value.ownBlock] at h5
        | some ad0 => simp only [Value.ownBlock, Option.some.injEq] at h5; left; simp [blkO, h5]
      · simp only [Value.ownBlock, Option.some.injEq] at h5; right; exact h5

theorem wp_app2 {o : Oper} {a : Act} {K : Act → World → Prop} {Q : Exit → Act → World → Prop} (s x : Operand) (t : TypeId)
    (ho : o.op = .call { callee := .builtin .append, args := #[s, x], argTypes := #[t, t] })
    (e : TypeId) (i : TypeInfo) (z : Value) (size bytes : Nat) (ht : P.underlying t = some (.slice e)) (hi : P.info? e = some i) (hz : i.zero = some z)
    (hsize : i.size = size) (hby : i.bytes = bytes) (hzs : z.cells.size = size) (hsz : 0 < size)
    (ao : Option Addr) (n cap : Nat) (xs : List Value) (hs : a.eval s = .slice ao n cap) (hown : RowO w e size ao n cap xs)
    (sx : Option Addr) (m c : Nat) (news : List Value) (hx : a.eval x = .slice sx m c) (hsrc : Src w size sx m news)
    (h63 : n + m ≤ maxLen) (hbytes : (n + m) * bytes ≤ 140737488355328)
    (h : ∀ ao' cap' w', Apped w e size ao (n + m) (xs ++ news) ao' cap' w' → K (a.put o.dst (.slice ao' (n + m) cap')) w') : o.wp P a w K Q := by
  obtain ⟨ao', cap', w', hr, h2⟩ := run_app (P := P) w t o.type e i z size bytes ht hi hz hsize hby hzs hsz ao n cap xs hown sx m c news hsrc h63 hbytes
  unfold Oper.wp execOp
  simp only [ho, resolve, invoke, builtin, Sem.run_bind, Sem.run_pure, Result.andThen_ok, List.map_toArray, List.map_cons, List.map_nil, hs, hx, hr]
  exact h ao' cap' w' h2
theorem wpList_app2 {ops : Array Oper} {rest : List Oper} {o : Oper} {a : Act} {Q : Exit → Act → World → Prop} (hgd : o.guard = none) (s x : Operand) (t : TypeId)
    (ho : o.op = .call { callee := .builtin .append, args := #[s, x], argTypes := #[t, t] })
    (e : TypeId) (i : TypeInfo) (z : Value) (size bytes : Nat) (ht : P.underlying t = some (.slice e)) (hi : P.info? e = some i) (hz : i.zero = some z)
    (hsize : i.size = size) (hby : i.bytes = bytes) (hzs : z.cells.size = size) (hsz : 0 < size)
    (ao : Option Addr) (n cap : Nat) (xs : List Value) (hs : a.eval s = .slice ao n cap) (hown : RowO w e size ao n cap xs)
    (sx : Option Addr) (m c : Nat) (news : List Value) (hx : a.eval x = .slice sx m c) (hsrc : Src w size sx m news)
    (h63 : n + m ≤ maxLen) (hbytes : (n + m) * bytes ≤ 140737488355328)
    (h : ∀ ao' cap' w', Apped w e size ao (n + m) (xs ++ news) ao' cap' w' → wpList P ops Q rest (a.put o.dst (.slice ao' (n + m) cap')) w') : wpList P ops Q (o :: rest) a w :=
  wpList_plain hgd fun _ hK => wp_app2 w s x t ho e i z size bytes ht hi hz hsize hby hzs hsz ao n cap xs hs hown sx m c news hx hsrc h63 hbytes fun ao' cap' w' h2 => hK _ _ (h ao' cap' w' h2)

theorem step_app2 {ops : Array Oper} {o : Oper} {a : Act} {K : Act → World → Prop} {Q : Exit → Act → World → Prop} {E : Prop} (hgd : o.guard = none) (s x : Operand) (t : TypeId)
    (ho : o.op = .call { callee := .builtin .append, args := #[s, x], argTypes := #[t, t] })
    (e : TypeId) (i : TypeInfo) (z : Value) (size bytes : Nat) (ht : P.underlying t = some (.slice e)) (hi : P.info? e = some i) (hz : i.zero = some z)
    (hsize : i.size = size) (hby : i.bytes = bytes) (hzs : z.cells.size = size) (hsz : 0 < size)
    (ao : Option Addr) (n cap : Nat) (xs : List Value) (hs : a.eval s = .slice ao n cap) (hown : RowO w e size ao n cap xs)
    (sx : Option Addr) (m c : Nat) (news : List Value) (hx : a.eval x = .slice sx m c) (hsrc : Src w size sx m news)
    (h63 : n + m ≤ maxLen) (hbytes : (n + m) * bytes ≤ 140737488355328)
    (h : ∀ ao' cap' w', Apped w e size ao (n + m) (xs ++ news) ao' cap' w' → K (a.put o.dst (.slice ao' (n + m) cap')) w') :
    if Region.wanted o (yielded ops a.tmps) = true then Oper.wp P o a w K Q else E := by
  have hw : Region.wanted o (yielded ops a.tmps) = true := by simp [Region.wanted, hgd]
  rw [if_pos hw]
  exact wp_app2 w s x t ho e i z size bytes ht hi hz hsize hby hzs hsz ao n cap xs hs hown sx m c news hx hsrc h63 hbytes h
end

/-- A part of a row of items as a source. -/
theorem part_src {w W : World} {ao : Option Addr} {n cap : Nat} {L : List It} (h : RowO w 35 2 ao n cap (L.flatMap itVs)) (hn : L.length = n) (hU : Upd [] w W) (a m : Nat) (ha : a + m ≤ n) (off : Nat) (hoff : off = a * 2 ∨ m = 0) :
    Src W 2 (ao.map fun ad => ⟨ad.block, off, none⟩) m (((L.drop a).take m).flatMap itVs) := by
  refine ⟨by rw [flat_len itVs 2 itVs_len]; simp; omega, flat_one _, ?_⟩
  rcases h.cases with ⟨rfl, rfl, _, _⟩ | ⟨g, rfl, hr⟩
  · exact .inl ⟨rfl, by omega⟩
  · refine .inr ⟨_, rfl, fun j u hu => ?_⟩
    rcases hoff with rfl | rfl
    · exact part_cells hr hU a m j u hu
    · simp at hu
end Go.Proofs.YtbnifhdnpeiheaaDoor
