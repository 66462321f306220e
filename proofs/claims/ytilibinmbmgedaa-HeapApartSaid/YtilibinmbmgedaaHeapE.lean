/-
  The walk of the heap's sift, with the way up and the way down. No condition.
-/
import Derived.Test.YtilibinmbmgedaaHeapD
namespace Go.Proofs.Ytilibinmbmgedaa
open Go.RowKit

theorem sUp_more (f : Nat) : ∀ (A : List It) (i g : Nat), i ≤ f → i ≤ g → sUp f A i = sUp g A i := by
  induction f with
  | zero => intro A i g h _; obtain rfl : i = 0 := by omega
            cases g <;> simp [sUp]
  | succ f ih =>
    intro A i g h hg
    cases g with
    | zero => obtain rfl : i = 0 := by omega
              simp [sUp]
    | succ g =>
      simp only [sUp]
      by_cases hc : i = 0 ∨ ahead (atI A i) (atI A (par i)) = false
      · rw [if_pos hc, if_pos hc]
      · rw [if_neg hc, if_neg hc]
        have h0 : i ≠ 0 := fun e => hc (.inl e)
        exact ih _ _ _ (by unfold par; omega) (by unfold par; omega)
theorem sUp_stay {A : List It} {i : Nat} (h : i = 0 ∨ ahead (atI A i) (atI A (par i)) = false) : sUp i A i = A := by
  cases i with
  | zero => rfl
  | succ i => simp only [sUp]; rw [if_pos h]
theorem sUp_go {A : List It} {i : Nat} (h0 : i ≠ 0) (h : ahead (atI A i) (atI A (par i)) = true) : sUp (par i) (swp A i (par i)) (par i) = sUp i A i := by
  obtain ⟨k, rfl⟩ : ∃ k, i = k + 1 := ⟨i - 1, by omega⟩
  have hc : ¬ (k + 1 = 0 ∨ ahead (atI A (k + 1)) (atI A (par (k + 1))) = false) := by rw [h]; simp
  conv => rhs; simp only [sUp]; rw [if_neg hc]
  exact sUp_more _ _ _ _ (Nat.le_refl _) (by unfold par; omega)
theorem sDn_more (f : Nat) : ∀ (A : List It) (i g : Nat), i < A.length → A.length ≤ i + f → A.length ≤ i + g → sDn f A i = sDn g A i := by
  induction f with
  | zero => intro A i g h h1 _; omega
  | succ f ih =>
    intro A i g h h1 hg
    cases g with
    | zero => omega
    | succ g =>
      simp only [sDn]
      have hl := lst_lt A i h
      by_cases hc : lst A i = i
      · rw [if_pos hc, if_pos hc]
      · rw [if_neg hc, if_neg hc]
        exact ih _ _ _ (by rw [swp_len]; exact hl.1) (by rw [swp_len]; omega) (by rw [swp_len]; omega)
theorem sDn_stay {A : List It} {i n : Nat} (h : lst A i = i) : sDn n A i = A := by
  cases n with
  | zero => rfl
  | succ n => simp only [sDn]; rw [if_pos h]
theorem sDn_go {A : List It} {i n : Nat} (hn : A.length = n) (hi : i < n) (h : lst A i ≠ i) : sDn n (swp A i (lst A i)) (lst A i) = sDn n A i := by
  obtain ⟨k, rfl⟩ : ∃ k, n = k + 1 := ⟨n - 1, by omega⟩
  have hl := lst_lt A i (by omega)
  conv => rhs; simp only [sDn]; rw [if_neg h]
  exact sDn_more _ _ _ _ (by rw [swp_len]; exact hl.1) (by rw [swp_len]; omega) (by rw [swp_len]; omega)

/-- How far a sift has come. -/
def UpAt (w : World) (hb g cap mb : Nat) (A : List It) (i : Nat) (iv mv : Value) (wr : World) : Prop :=
  ∃ (i' : Nat) (A' : List It) (more : Bool), iv = .int .i64 i' ∧ mv = .bool more ∧ HpAt wr hb (some ⟨g, 0, none⟩) cap mb A' ∧ A'.length = A.length ∧ i' < A.length ∧ Upd [g, mb] w wr ∧ (if more = true then sUp i' A' i' else A') = sUp i A i
def DnAt (w : World) (hb g cap mb : Nat) (A : List It) (i : Nat) (iv mv : Value) (wr : World) : Prop :=
  ∃ (i' : Nat) (A' : List It) (more : Bool), iv = .int .i64 i' ∧ mv = .bool more ∧ HpAt wr hb (some ⟨g, 0, none⟩) cap mb A' ∧ A'.length = A.length ∧ i' < A.length ∧ Upd [g, mb] w wr ∧ (if more = true then sDn A.length A' i' else A') = sDn A.length A i
def boolOf : Value → Nat | .bool true => 1 | _ => 0
def SiftTo (w : World) (hb g cap mb : Nat) (A' : List It) (e : Ending) (w' : World) : Prop :=
  e = .returned (.tuple #[]) ∧ HpAt w' hb (some ⟨g, 0, none⟩) cap mb A' ∧ Upd [g, mb] w w'

set_option maxHeartbeats 4000000 in
theorem sift_up (hb g cap mb : Nat) (A : List It) (i : Nat) (w : World) (h : HpAt w hb (some ⟨g, 0, none⟩) cap mb A) (hi : i < A.length) :
    Calls Try.prog 33 #[.int .i64 i, .func (.func 34) #[.pointer (some ⟨hb, 0, none⟩)] #[]] w (SiftTo w hb g cap mb (sUp i A i)) := by
  have HH := Lib.hid h
  have HI := Lib.hid hi
  have small := h.small
  clear h hi
  go_enter Try.func33, Try.ntmps33
  go_wp2
  go_loopw [0, 4] (fun iv mv wr => UpAt w hb g cap mb A i iv mv wr) (fun iv mv _ => 2 * (intOf iv).toNat + boolOf mv)
  case atStart => exact ⟨i, A, true, rfl, rfl, HH.out, rfl, HI.out, Upd.refl _ _, by simp⟩
  case round =>
    obtain ⟨i', A', more, rfl, rfl, hH, hl, hi', hU, he⟩ := hrel
    have HH' := Lib.hid hH
    have HL := Lib.hid hl
    have HU := Lib.hid hU
    have HI' := Lib.hid hi'
    have HE := Lib.hid he
    have hi2 : i' < A'.length := by omega
    clear hH hl hU hi' he
    cases more with
    | false =>
      go_wp2
      go_end0
      refine ⟨rfl, ?_, HU.out⟩
      have := HE.out
      rw [if_neg (by simp)] at this
      rw [← this]; exact HH'.out
    | true =>
      by_cases hs : i' = 0 ∨ ahead (atI A' i') (atI A' (par i')) = false
      · have HS := Lib.hid hs
        have HI2 := Lib.hid hi2
        clear hs hi2
        go_wp2_with (go_at_call 34; refine (up_stay hb g cap mb A' i' wr HH'.out HI2.out HS.out).mono ?_; rintro e w3 ⟨rfl, hH3, hU3⟩)
        refine ⟨⟨i', A', false, rfl, rfl, hH3, HL.out, HI'.out, HU.out.trans hU3, ?_⟩, by simp [intOf, boolOf]⟩
        have := HE.out
        rw [if_pos trivial, sUp_stay HS.out] at this
        rw [if_neg (by simp)]; exact this
      · have h0 : i' ≠ 0 := fun e => hs (.inl e)
        have hah : ahead (atI A' i') (atI A' (par i')) = true := by
          cases hh : ahead (atI A' i') (atI A' (par i')) with
          | true => rfl
          | false => exact absurd (.inr hh) hs
        have HS := Lib.hid hah
        have HI2 := Lib.hid hi2
        have hp : par i' < i' := by unfold par; omega
        have HP := Lib.hid hp
        have HZ := Lib.hid h0
        clear hs hi2 hah hp h0
        go_wp2_with (go_at_call 34; refine (up_go hb g cap mb A' i' wr HH'.out HI2.out HZ.out HS.out).mono ?_; rintro e w3 ⟨rfl, hH3, hU3⟩)
        refine ⟨⟨par i', swp A' i' (par i'), true, rfl, rfl, hH3, by rw [swp_len]; exact HL.out, by have := HP.out; have := HI'.out; omega, HU.out.trans hU3, ?_⟩, by have := HP.out; simp [intOf, boolOf]; omega⟩
        have := HE.out
        rw [if_pos trivial] at this
        rw [if_pos rfl, sUp_go HZ.out HS.out]; exact this

set_option maxHeartbeats 4000000 in
theorem sift_dn (hb g cap mb : Nat) (A : List It) (i : Nat) (w : World) (h : HpAt w hb (some ⟨g, 0, none⟩) cap mb A) (hi : i < A.length) :
    Calls Try.prog 33 #[.int .i64 i, .func (.func 37) #[.pointer (some ⟨hb, 0, none⟩)] #[]] w (SiftTo w hb g cap mb (sDn A.length A i)) := by
  have HH := Lib.hid h
  have HI := Lib.hid hi
  have small := h.small
  clear h hi
  go_enter Try.func33, Try.ntmps33
  go_wp2
  go_loopw [0, 4] (fun iv mv wr => DnAt w hb g cap mb A i iv mv wr) (fun iv mv _ => 2 * (A.length - (intOf iv).toNat) + boolOf mv)
  case atStart => exact ⟨i, A, true, rfl, rfl, HH.out, rfl, HI.out, Upd.refl _ _, by simp⟩
  case round =>
    obtain ⟨i', A', more, rfl, rfl, hH, hl, hi', hU, he⟩ := hrel
    have HH' := Lib.hid hH
    have HL := Lib.hid hl
    have HU := Lib.hid hU
    have HI' := Lib.hid hi'
    have HE := Lib.hid he
    have hi2 : i' < A'.length := by omega
    clear hH hl hU hi' he
    cases more with
    | false =>
      go_wp2
      go_end0
      refine ⟨rfl, ?_, HU.out⟩
      have := HE.out
      rw [if_neg (by simp)] at this
      rw [← this]; exact HH'.out
    | true =>
      have HI2 := Lib.hid hi2
      have HLL := Lib.hid (lst_lt A' i' hi2)
      by_cases hs : lst A' i' = i'
      · have HS := Lib.hid hs
        clear hs hi2
        go_wp2_with (go_at_call 37; refine (down_any hb g cap mb A' i' wr HH'.out HI2.out).mono ?_; rintro e w3 (⟨-, rfl, hH3, hU3⟩ | ⟨hne, -⟩); rotate_left; exact absurd HS.out hne)
        refine ⟨⟨i', A', false, rfl, rfl, hH3, HL.out, HI'.out, HU.out.trans hU3, ?_⟩, by simp [intOf, boolOf]⟩
        have := HE.out
        rw [if_pos trivial, sDn_stay HS.out] at this
        rw [if_neg (by simp)]; exact this
      · have HS := Lib.hid hs
        clear hs hi2
        go_wp2_with (go_at_call 37; refine (down_any hb g cap mb A' i' wr HH'.out HI2.out).mono ?_; rintro e w3 (⟨hne, -⟩ | ⟨-, rfl, hH3, hU3⟩); exact absurd hne HS.out)
        refine ⟨⟨lst A' i', swp A' i' (lst A' i'), true, rfl, rfl, hH3, by rw [swp_len]; exact HL.out, by have := HLL.out.1; rw [HL.out] at this; exact this, HU.out.trans hU3, ?_⟩, ?_⟩
        · have := HE.out
          rw [if_pos trivial] at this
          rw [if_pos rfl, sDn_go HL.out HI'.out HS.out]; exact this
        · have h1 := HLL.out; have h2 := HS.out; have h3 := HI'.out; have h4 := HL.out; simp [intOf, boolOf]; omega
end Go.Proofs.Ytilibinmbmgedaa
