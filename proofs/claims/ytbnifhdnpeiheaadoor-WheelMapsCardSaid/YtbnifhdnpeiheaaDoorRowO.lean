/-
  Slices that may be nil: what they hold, and what an append leaves. No condition.
-/
import Derived.Test.YtbnifhdnpeiheaaDoorFrame
import Derived.Maps.AppendAt
set_option linter.unusedVariables false
set_option linter.unusedSimpArgs false
namespace Go.Proofs.YtbnifhdnpeiheaaDoor
open Go.RowKit

/-- A slice at offset 0, nil too: n elements. -/
def RowO (w : World) (e : TypeId) (size : Nat) (ao : Option Addr) (n cap : Nat) (xs : List Value) : Prop := w.ownsRow 0 e size (.slice ao n cap) n xs
/-- In which blocks it lies. -/
def blkO : Option Addr → List Nat
  | some a => [a.block]
  | none => []

theorem RowO.nil (w : World) (e : TypeId) (size : Nat) : RowO w e size none 0 0 [] := World.ownsRow_nil w 0 e size
theorem RowO.cases {w : World} {e : TypeId} {size : Nat} {ao : Option Addr} {n cap : Nat} {xs : List Value} (h : RowO w e size ao n cap xs) : (ao = none ∧ n = 0 ∧ cap = 0 ∧ xs = []) ∨ ∃ g, ao = some ⟨g, 0, none⟩ ∧ Row w e size g n cap xs := by
  rcases h.2 with ⟨h1, h2⟩ | ⟨g, cap', cur, h1, h2⟩
  · simp only [Value.slice.injEq] at h1
    obtain ⟨rfl, rfl, rfl⟩ := h1
    exact .inl ⟨rfl, rfl, rfl, List.eq_nil_of_length_eq_zero (by simpa using h.1)⟩
  · simp only [Value.slice.injEq, true_and] at h1
    obtain ⟨rfl, rfl⟩ := h1
    exact .inr ⟨g, rfl, h⟩
theorem Row.o {w : World} {e : TypeId} {size g n cap : Nat} {xs : List Value} (h : Row w e size g n cap xs) : RowO w e size (some ⟨g, 0, none⟩) n cap xs := h
theorem RowO.len {w : World} {e : TypeId} {size : Nat} {ao : Option Addr} {n cap : Nat} {xs : List Value} (h : RowO w e size ao n cap xs) : xs.length = n * size := h.1
theorem RowO.row {w : World} {e : TypeId} {size : Nat} {ao : Option Addr} {n cap : Nat} {xs : List Value} (h : RowO w e size ao n cap xs) (hn : 0 < n) : ∃ g, ao = some ⟨g, 0, none⟩ ∧ Row w e size g n cap xs := by
  rcases h.cases with ⟨_, h0, _⟩ | h
  · omega
  · exact h
theorem RowO.upd {S : List Nat} {w w' : World} {e : TypeId} {size : Nat} {ao : Option Addr} {n cap : Nat} {xs : List Value} (h : RowO w e size ao n cap xs) (hu : Upd S w w') (hn : ∀ b ∈ blkO ao, b ∉ S) : RowO w' e size ao n cap xs := by
  rcases h.cases with ⟨rfl, rfl, rfl, rfl⟩ | ⟨g, rfl, hr⟩
  · exact RowO.nil _ _ _
  · exact (hr.upd hu (hn g (by simp [blkO]))).o
theorem RowO.lt {w : World} {e : TypeId} {size : Nat} {ao : Option Addr} {n cap : Nat} {xs : List Value} (h : RowO w e size ao n cap xs) : ∀ b ∈ blkO ao, b < w.heap.size := by
  rcases h.cases with ⟨rfl, rfl, rfl, rfl⟩ | ⟨g, rfl, hr⟩
  · intro b hb; cases hb
  · intro b hb; simp [blkO] at hb; subst hb; exact hr.lt
theorem RowO.cap_le {w : World} {e : TypeId} {size : Nat} {ao : Option Addr} {n cap : Nat} {xs : List Value} (h : RowO w e size ao n cap xs) : n ≤ cap ∧ cap ≤ maxLen := by
  rcases h.cases with ⟨rfl, rfl, rfl, rfl⟩ | ⟨g, rfl, hr⟩
  · exact ⟨Nat.le_refl _, by unfold maxLen; omega⟩
  · obtain ⟨_, _, _, h1, h2, _⟩ := hr.parts; exact ⟨h1, h2⟩

/-- What an append leaves. -/
structure Apped (w : World) (e : TypeId) (size : Nat) (ao : Option Addr) (n : Nat) (xs : List Value) (ao' : Option Addr) (cap' : Nat) (w' : World) : Prop where
  row : RowO w' e size ao' n cap' xs
  upd : Upd (blkO ao) w w'
  at_ : ∀ b ∈ blkO ao', b ∈ blkO ao ∨ b = w.heap.size

section
variable {P : Program} (w : World) {ops : Array Oper} {rest : List Oper} {o : Oper} {a : Act} {Q : Exit → Act → World → Prop}
/-- 'append(s, x..)': what is appended lies at ad. -/
theorem wpList_app (hgd : o.guard = none) (s x : Operand) (t : TypeId) (ho : o.op = .call { callee := .builtin .append, args := #[s, x], argTypes := #[t, t] })
    (e : TypeId) (i : TypeInfo) (z : Value) (size bytes : Nat) (ht : P.underlying t = some (.slice e)) (hi : P.info? e = some i) (hz : i.zero = some z)
    (hsize : i.size = size) (hby : i.bytes = bytes) (hzs : z.cells.size = size) (hsz : 0 < size)
    (ao : Option Addr) (n cap : Nat) (xs : List Value) (hs : a.eval s = .slice ao n cap) (hown : RowO w e size ao n cap xs)
    (ad : Addr) (m c : Nat) (news : List Value) (hx : a.eval x = .slice (some ad) m c) (hl : news.length = m * size) (hnews : ∀ j u, news[j]? = some u → w.cell? (ad.add j) = some u) (h1 : ∀ u ∈ news, u.oneCell' = true)
    (h63 : n + m ≤ maxLen) (hbytes : (n + m) * bytes ≤ 140737488355328)
    (h : ∀ ao' cap' w', Apped w e size ao (n + m) (xs ++ news) ao' cap' w' → wpList P ops Q rest (a.put o.dst (.slice ao' (n + m) cap')) w') :
    wpList P ops Q (o :: rest) a w := by
  refine wpList_append_own_at w hgd s x t ho 0 e i z size bytes ht hi hz hsize hby hzs hsz (.slice ao n cap) n xs hs hown ad m c news hx hl hnews h1 h63 hbytes (Nat.zero_le _) ?_
  intro v' w' h2 h3 _ h5
  obtain ⟨ao', cap', rfl⟩ : ∃ ao' cap', v' = .slice ao' (n + m) cap' := by
    rcases h2.2 with ⟨rfl, hn⟩ | ⟨g, cap', _, rfl, _⟩
    · exact ⟨none, 0, by rw [hn]⟩
    · exact ⟨_, _, rfl⟩
  refine h ao' cap' w' ⟨h2, ?_, ?_⟩
  · refine (Upd.refl _ w).grown h3 (fun k hk => .inl ?_)
    cases ao with
    | none => cases hk
    | some ad0 => simp [Value.ownBlock] at hk; simp [blkO, hk]
  · intro b hb
    cases ao' with
    | none => cases hb
    | some ad' =>
      simp only [blkO, List.mem_singleton] at hb
      subst hb
      rcases h5 with h5 | h5
      · cases ao with
        | none => simp [Value.ownBlock] at h5
        | some ad0 => simp only [Value.ownBlock, Option.some.injEq] at h5; left; simp [blkO, h5]
      · simp only [Value.ownBlock, Option.some.injEq] at h5; right; exact h5
end
end Go.Proofs.YtbnifhdnpeiheaaDoor
