/-
  The walk of the reference's Node: who wins below a node, found leaf by leaf. No condition.
-/
import Derived.Test.YtoalbmcceehccaaTourF
namespace Go.Proofs.Ytoalbmcceehccaa
open Go.RowKit

/-- From m up till it is no more beyond k. -/
def upF : Nat → Nat → Nat → Nat
  | 0, m, _ => m
  | f + 1, m, k => if k < m then upF f (m / 2) k else m
theorem upF_le (f m k : Nat) (h : m ≤ k) : upF f m k = m := by cases f <;> simp [upF, Nat.not_lt.2 h]
theorem upF_fuel (k : Nat) (hk : 1 ≤ k) : ∀ (m f g : Nat), m ≤ f → m ≤ g → upF f m k = upF g m k := by
  intro m
  induction m using Nat.strongRecOn with
  | ind m ih =>
    intro f g hf hg
    by_cases h : m ≤ k
    · rw [upF_le f m k h, upF_le g m k h]
    · obtain ⟨f', rfl⟩ : ∃ x, f = x + 1 := ⟨f - 1, by omega⟩
      obtain ⟨g', rfl⟩ : ∃ x, g = x + 1 := ⟨g - 1, by omega⟩
      simp only [upF]
      rw [if_pos (by omega), if_pos (by omega)]
      exact ih (m / 2) (by omega) f' g' (by omega) (by omega)
def up (m k : Nat) : Nat := upF m m k
theorem up_le (m k : Nat) (h : m ≤ k) : up m k = m := upF_le _ _ _ h
theorem up_half (m k : Nat) (hk : 1 ≤ k) (h : k < m) : up m k = up (m / 2) k := by
  unfold up
  obtain ⟨f, rfl⟩ : ∃ x, m = x + 1 := ⟨m - 1, by omega⟩
  rw [show upF (f + 1) (f + 1) k = upF f ((f + 1) / 2) k by simp only [upF]; rw [if_pos h]]
  exact upF_fuel k hk _ _ _ (by omega) (Nat.le_refl _)

def xAt (xs : List It) (i : Int) : It := xs.getD i.toNat zIt
/-- Leaf i takes the lead. -/
def takesF (has : List Bool) (xs : List It) (size k i : Nat) (best : Int) : Bool :=
  decide (up (size + i) k = k) && has.getD i false && (decide (best < 0) || ahead (xAt xs i) (xAt xs best))
def scanF (has : List Bool) (xs : List It) (size k : Nat) : Nat → Nat → Int → Int
  | 0, _, best => best
  | m + 1, i, best => scanF has xs size k m (i + 1) (if takesF has xs size k i best = true then (i : Int) else best)
theorem scanF_step (has : List Bool) (xs : List It) (size k n i : Nat) (best : Int) (h : i < n) :
    scanF has xs size k (n - i) i best = scanF has xs size k (n - (i + 1)) (i + 1) (if takesF has xs size k i best = true then (i : Int) else best) := by
  rw [show n - i = (n - (i + 1)) + 1 by omega]; rfl

/-- What the reference's Node answers. -/
def rnodeF (r : Rf) (k : Int) : Int :=
  if 1 ≤ k ∧ k < 2 * (sizeOf2 r.has.length : Int) then scanF r.has r.xs (sizeOf2 r.has.length) k.toNat r.has.length 0 (-1) else -1

theorem item_rows {w : World} {b n : Nat} {xs : List It} (h : Row w 43 2 b n n (xs.flatMap itVs)) (a : Int) (h0 : 0 ≤ a) (h1 : a < n) :
    w.cell? ⟨b, a.toNat * 2, none⟩ = some (.int .u64 (xAt xs a).1) ∧ w.cell? ⟨b, a.toNat * 2 + 1, none⟩ = some (.int .i64 (xAt xs a).2) := by
  have hl : xs.length = n := by have := h.len; rw [flat_len itVs 2 itVs_len] at this; omega
  have ha : a.toNat < xs.length := by omega
  have hx : xs[a.toNat]? = some (xAt xs a) := by
    unfold xAt; rw [List.getD_eq_getElem?_getD, List.getElem?_eq_getElem ha]; rfl
  exact ⟨h.cell (by rw [← Nat.add_zero (a.toNat * 2), flat_get itVs 2 itVs_len xs a.toNat 0 (by omega) _ hx]; rfl),
    h.cell (by rw [flat_get itVs 2 itVs_len xs a.toNat 1 (by omega) _ hx]; rfl)⟩
theorem has_row {w : World} {b n : Nat} {l : List Bool} (h : Row w 4 1 b n n (l.map Value.bool)) {i : Nat} (hi : i < n) : w.cell? ⟨b, i, none⟩ = some (.bool (l.getD i false)) := by
  have hl : l.length = n := by have := h.len; simpa using this
  refine h.cell ?_
  rw [List.getElem?_map, List.getD_eq_getElem?_getD, List.getElem?_eq_getElem (by omega)]; rfl

def ScanAt (r : Rf) (size k : Nat) (fin : Int) (w : World) (bv iv : Value) (wr : World) : Prop :=
  ∃ (i : Nat) (best : Int), iv = .int .i64 i ∧ bv = .int .i64 best ∧ i ≤ r.has.length ∧ -1 ≤ best ∧ best < r.has.length ∧ Upd [] w wr ∧ scanF r.has r.xs size k (r.has.length - i) i best = fin

def SizeIs (n : Nat) (v : Value) : Prop := ∃ s : Nat, v = .int .i64 s ∧ Pow s ∧ (s = 1 ∨ s / 2 < n)
def UpIs (k u : Nat) (v : Value) : Prop := ∃ m : Nat, v = .int .i64 m ∧ m ≤ 32 ∧ up m k = u

set_option maxHeartbeats 4000000 in
theorem rnode_out (r : Rf) (k : Int) (w : World) (h : RTAt w r) (hk : k < 1 ∨ 2 * (sizeOf2 r.has.length : Int) ≤ k) : Calls Try.prog 15 #[.pointer (some ⟨r.p, 0, none⟩), .int .i64 k] w (RetUpd [] w (.int .i64 (-1))) := by
  have h0 := h.top.cell (j := 0) rfl
  have small := h.small
  have HK := Lib.hid hk
  obtain ⟨n, hn⟩ : ∃ n, r.has.length = n := ⟨_, rfl⟩
  rw [hn] at h0 small
  have HN := Lib.hid hn
  clear hn h hk
  go_enter Try.func15, Try.ntmps15
  go_wp2
  go_loop [5] (fun v => SizeIs n v) (fun v => 16 - (intOf v).toNat)
  case atStart => exact ⟨1, rfl, .inl rfl, .inl rfl⟩
  case round =>
    obtain ⟨s, rfl, hp, hs⟩ := hrel
    have h16 : s ≤ 16 := by unfold Pow at hp; omega
    have h1 : 1 ≤ s := by unfold Pow at hp; omega
    have HP := Lib.hid hp
    have HS := Lib.hid hs
    clear hp hs
    by_cases hsn : s < n
    · go_wp2
      exact ⟨⟨2 * s, by congr 1, HP.out.step small hsn, .inr (by omega)⟩, by simp [intOf]; omega⟩
    · have hz : Hid (s = sizeOf2 n) := HP.out.done HS.out (by omega) small
      have hkk : Hid (k < 1 ∨ 2 * (s : Int) ≤ k) := by have := HK.out; rw [HN.out, ← hz.out] at this; exact this
      by_cases hk1 : k < 1
      · have d1 : decide (k < 1) = true := by simp; omega
        go_wp2
        go_ret
        exact ⟨rfl, Upd.refl _ _⟩
      · have d1 : decide (k < 1) = false := by simp; omega
        have d2 : decide (2 * (s : Int) ≤ k) = true := by have := hkk.out; unfold Hid at *; simp; omega
        go_wp2
        go_ret
        exact ⟨rfl, Upd.refl _ _⟩
end Go.Proofs.Ytoalbmcceehccaa
