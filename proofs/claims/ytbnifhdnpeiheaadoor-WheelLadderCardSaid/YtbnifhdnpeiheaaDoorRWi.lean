/-
  A wheel and the document's: their bitmaps. No condition.
-/
import Derived.Test.YtbnifhdnpeiheaaDoorRWh
import Derived.Test.YtbnifhdnpeiheaaDoorRWg
set_option linter.unusedVariables false
set_option linter.unusedSimpArgs false
namespace Go.Proofs.YtbnifhdnpeiheaaDoor
open Go.RowKit

/-- The bitmap of a level. -/
def IsMap (base wd : Nat) (L : List It) (l X : Nat) : Prop := X < 18446744073709551616 ∧ ∀ c, c < 64 → X.testBit c = L.any (okB wd base l c)
theorem map_uniq {base wd l X Y : Nat} {L : List It} (h : IsMap base wd L l X) (k : IsMap base wd L l Y) : X = Y := by
  apply Nat.eq_of_testBit_eq
  intro c
  by_cases hc : c < 64
  · rw [h.2 c hc, k.2 c hc]
  · cases h1 : X.testBit c with
    | true => exact absurd (bit_lt h.1 h1) hc
    | false =>
      cases h2 : Y.testBit c with
      | true => exact absurd (bit_lt k.1 h2) hc
      | false => rfl
open Classical in
noncomputable def mapX (base wd : Nat) (L : List It) (l : Nat) : Nat := if h : ∃ X, IsMap base wd L l X then Classical.choose h else 0
theorem mapX_eq {base wd l X : Nat} {L : List It} (h : IsMap base wd L l X) : mapX base wd L l = X := by
  unfold mapX
  have hx : ∃ X, IsMap base wd L l X := ⟨X, h⟩
  rw [dif_pos hx]
  exact map_uniq (Classical.choose_spec hx) h
noncomputable def mapI (base wd : Nat) (L : List It) (l : Int) : Int := if l < 0 ∨ 3 ≤ l then 0 else (mapX base wd L l.toNat : Nat)
theorem WG.isMap {W w : World} {wb base wd : Nat} {L : List It} {fp : List Nat} (h : WG W wb base wd L fp w) (l : Nat) (hl : l < 3) : IsMap base wd L l (mapX base wd L l) := by
  obtain ⟨s, h1, h2, rfl, rfl, rfl, h3⟩ := h
  have hm : IsMap s.base s.wd L l (s.mw l) := ⟨h1.mw64 l hl, fun c hc => wok_map h2 hl hc⟩
  rw [mapX_eq hm]; exact hm
theorem WG.map {W w : World} {wb base wd : Nat} {L : List It} {fp : List Nat} (h : WG W wb base wd L fp w) (l : Int) :
    Calls Tryd.prog 19 #[.pointer (some ⟨wb, 0, none⟩), .int .i64 l] w (fun e w' => e = .returned (.int .u64 (mapI base wd L l)) ∧ w = w') := by
  unfold mapI
  by_cases hl : l < 0 ∨ 3 ≤ l
  · rw [if_pos hl]; exact wmap_out wb l hl w
  · rw [if_neg hl]
    obtain ⟨j, rfl⟩ := Int.eq_ofNat_of_zero_le (show 0 ≤ l by omega)
    obtain ⟨s, h1, h2, rfl, rfl, rfl, h3⟩ := h
    have hj : j < 3 := by omega
    have hm : IsMap s.base s.wd L j (s.mw j) := ⟨h1.mw64 j hj, fun c hc => wok_map h2 hj hc⟩
    have := wmap_any wb j hj s w h1
    rw [← mapX_eq hm] at this
    exact this
theorem WR.rmap {W w : World} {wb b base wd : Nat} {L : List It} {fp fq : List Nat} (h : WR W wb b base wd L fp fq w) (l : Int) :
    Calls Tryd.prog 20 #[.pointer (some ⟨b, 0, none⟩), .int .i64 l] w (RetUpd [] w (.int .u64 (mapI base wd L l))) := by
  unfold mapI
  obtain ⟨ao, cap, h1, h2, h3⟩ := h.2.1
  by_cases hl : l < 0 ∨ 3 ≤ l
  · rw [if_pos hl]; exact rwmap_out b base wd h1 l hl
  · rw [if_neg hl]
    obtain ⟨j, rfl⟩ := Int.eq_ofNat_of_zero_le (show 0 ≤ l by omega)
    have hm := h.1.isMap j (by omega)
    exact rwmap_any h1 j (by omega) _ hm.1 hm.2 h.k2
theorem Deed5.to {W : World} {wb b base wd : Nat} {L : List It} {fp fq : List Nat} {w w' : World} {e : Ending} (h : Deed5 W wb b base wd L fp fq w e w') : e = .returned (.bool true) ∧ ∃ base' L' fp' fq', WR W wb b base' wd L' fp' fq' w' ∧ L'.length ≤ L.length + 1 := by
  obtain ⟨h1, base', L', fp', fq', h2, _, _, _, h3⟩ := h
  exact ⟨h1, base', L', fp', fq', h2, h3⟩
end Go.Proofs.YtbnifhdnpeiheaaDoor
