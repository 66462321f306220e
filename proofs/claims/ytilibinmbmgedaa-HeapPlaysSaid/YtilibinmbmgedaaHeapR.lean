/-
  The walk of the heap's All. No condition.
-/
import Derived.Test.YtilibinmbmgedaaHeapQ
import Derived.Test.YtilibinmbmgedaaArgs
import Derived.Test.YtilibinmbmgedaaItemsB
import Derived.Shelf.SlSortCmp.NoneTotal
namespace Go.Proofs.Ytilibinmbmgedaa
open Go.RowKit Go.Lib Go.Sort

/-- What All tells: the items in order, in an array of its own. -/
def Told (w : World) (L : List It) (S : List Nat) (e : Ending) (w' : World) : Prop :=
  ∃ ao cap, e = .returned (.slice ao L.length cap) ∧ RowO w' 37 2 ao L.length cap (L.flatMap itVs) ∧ (∀ c ∈ blkO ao, w.heap.size ≤ c) ∧ Upd S w w'

theorem sorted_eq {D L : List It} (hp : D.Perm L) (hL : Srt L) (hn : NdI L) (hs : ∀ i j, i < j → j < D.length → Proofs.Ytilibinmbmgedaa.ahead (atI D j) (atI D i) = false) : D = L := by
  refine srt_unique ?_ hL hp
  have hnD : NdI D := hn.perm hp.symm
  unfold Srt
  rw [List.pairwise_iff_getElem]
  intro i j hi hj hij
  have h1 := hs i j hij hj
  rw [atI_get D i hi, atI_get D j hj] at h1
  have hne : (D[i]).2 ≠ (D[j]).2 := by
    intro e
    have := atI_inj hnD hi hj (by rw [atI_get D i hi, atI_get D j hj]; exact e)
    omega
  exact ahead_not (fun e => hne e.symm) h1

theorem clone_items (ao : Option Addr) (cap : Nat) (A : List It) (w : World) (h : RowO w 37 2 ao A.length cap (A.flatMap itVs)) (hsm : A.length ≤ 1000) :
    Calls Try.prog 30 #[.slice ao A.length cap] w (fun e w' => ∃ ao' cap', e = .returned (.slice ao' A.length cap') ∧ RowO w' 37 2 ao' A.length cap' (A.flatMap itVs) ∧ (∀ c ∈ blkO ao', w.heap.size ≤ c) ∧ Upd [] w w') := by
  obtain ⟨i0, hi0, hz0, hz1, hz2⟩ := info_parts infoItem
  rcases h.cases with ⟨rfl, hn, hc, hx⟩ | ⟨g, rfl, hr⟩
  · have hcon := AnyE.slices_Clone_nil Try.laysClone A.length cap w
    change Calls Try.prog 30 _ _ _ at hcon
    refine hcon.mono ?_
    rintro e w' ⟨rfl, rfl⟩
    rw [hn, hx]
    exact ⟨none, 0, rfl, RowO.nil _ _ _, fun c hc => (by cases hc), Upd.refl _ _⟩
  · have hfl := flat_len itVs 2 itVs_len A
    have hcon := AnyE.slices_Clone Try.laysClone i0 _ 2 16 hi0 hz0 hz1 hz2 rfl (by omega) Try.sizeOf37 g 0 A.length cap (A.flatMap itVs) w hfl (by unfold maxLen; omega) (by omega)
      (fun j u hu => by rw [Nat.zero_add]; exact hr.cell hu) (flat_one A)
    change Calls Try.prog 30 _ _ _ at hcon
    refine hcon.mono ?_
    rintro e w' ⟨v', rfl, hown, hne, hbel⟩
    rcases hown.2 with ⟨h1, _⟩ | ⟨g', cap', cur, h1, h2, h3⟩
    · exact absurd h1 hne
    · refine ⟨some ⟨g', 0, none⟩, cap', by rw [h1], ⟨hown.1, .inr ⟨g', cap', cur, rfl, Nat.zero_le _, h3⟩⟩, fun c hc => by simp [blkO] at hc; omega, Upd.of_below hbel⟩

set_option maxHeartbeats 4000000 in
theorem heap_all (hb : Nat) (L : List It) (fp : List Nat) (w : World) (h : HeapIs w hb L fp) (hsm : L.length ≤ 1000) :
    Calls Try.prog 12 #[.pointer (some ⟨hb, 0, none⟩)] w (Told w L []) := by
  obtain ⟨ao, cap, mb, A, h1, h2, h3, h4, rfl⟩ := h
  have hL := h3.length_eq
  have hnd := h1.nd.perm h3
  have c0 := h1.top.cell (j := 0) rfl
  have hlen : A.length ≤ 1000 := by omega
  have hcl := clone_items ao cap A w h1.row hlen
  have H3 := Lib.hid h3
  have H4 := Lib.hid h4
  have HND := Lib.hid hnd
  have HL := Lib.hid hL
  obtain ⟨n, hn⟩ : ∃ n, A.length = n := ⟨_, rfl⟩
  rw [hn] at c0 hcl hlen
  have HN := Lib.hid hn
  clear h1 h2 h3 h4 hL hnd hn
  go_enter Try.func12, Try.ntmps12
  go_wp2_with fail
  refine hcl.mono ?_
  rintro e w2 ⟨ao2, cap2, rfl, hR, hf, hU⟩
  have HR := Lib.hid hR
  have HF := Lib.hid hf
  have HU := Lib.hid hU
  clear hR hf hU
  rcases HR.out.cases with ⟨rfl, hn0, hc0, hx0⟩ | ⟨g, rfl, hr⟩
  · subst hn0 hc0
    have hcon := AnyF.slices_SortFunc_none { Try.laysSort with } none 0 (.func (.func 32) #[] #[]) w2
    change Calls Try.prog 31 _ _ _ at hcon
    have HCON := Lib.hid hcon
    have hA0 : A = [] := List.eq_nil_of_length_eq_zero HN.out
    have hL0 : Hid (L = []) := List.eq_nil_of_length_eq_zero (by rw [← HL.out]; exact HN.out)
    clear hcon
    go_wp2_with fail
    refine HCON.out.mono ?_
    rintro e w3 ⟨rfl, rfl⟩
    go_wp2
    go_ret
    rw [hL0.out]
    exact ⟨none, 0, rfl, RowO.nil _ _ _, fun c hc => (by cases hc), HU.out⟩
  · have hr2 : Row w2 37 2 g A.length cap2 (A.flatMap itVs) := by rw [HN.out]; exact hr
    have hso := sort_items g cap2 A w2 hr2 (by rw [HN.out]; exact hlen)
    rw [HN.out] at hso
    have HSO := Lib.hid hso
    clear hr hr2 hso
    go_wp2_with fail
    refine HSO.out.mono ?_
    rintro e w3 ⟨rfl, D, hp, hs, hrow, hU3⟩
    have hDL : Hid (D = L) := sorted_eq (hp.trans H3.out) H4.out HND.out hs
    have HROW := Lib.hid hrow
    have HU3 := Lib.hid hU3
    clear hp hs hrow hU3
    go_wp2
    go_ret
    have hLn : L.length = n := by rw [← HL.out, HN.out]
    refine ⟨some ⟨g, 0, none⟩, cap2, by rw [hLn]; rfl, ?_, HF.out, HU.out.then HU3.out (fun _ _ hm => hm) (fun i hi hm => by simp at hm; have := HF.out g (by simp [blkO]); omega)⟩
    rw [hLn]
    have := HROW.out
    rw [hDL.out] at this
    exact this.o
end Go.Proofs.Ytilibinmbmgedaa
