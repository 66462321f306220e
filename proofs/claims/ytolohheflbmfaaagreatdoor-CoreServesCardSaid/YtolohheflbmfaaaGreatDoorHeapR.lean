/-
  The walk of the heap's All. No condition.
-/
import Derived.Test.YtolohheflbmfaaaGreatDoorPS
import Derived.Test.YtolohheflbmfaaaGreatDoorPH
set_option linter.unusedVariables false
set_option linter.unusedSimpArgs false
namespace Go.Proofs.YtolohheflbmfaaaGreatDoor
open Go.RowKit Go.Lib Go.Sort

set_option maxHeartbeats 4000000 in
theorem heap_all (hb : Nat) (L : List It) (fp : List Nat) (w : World) (h : HeapIs w hb L fp) (hsm : L.length ≤ 1000) :
    Calls Tryz.prog 90 #[.pointer (some ⟨hb, 0, none⟩)] w (Told w L []) := by
  obtain ⟨ao, cap, mb, A, h1, h2, h3, h4, rfl⟩ := h
  have hL := h3.length_eq
  have hnd := h1.nd.perm h3
  have c0 := h1.top.cell (j := 0) rfl
  have hlen : A.length ≤ 1000 := by omega
  have hcl := clone_items ao cap A w h1.row hlen
  have H3 := Lib.hid h3
  have H4 := Lib.hid h4
  have HND := Lib.hid hnd
  have HL := Lib.hid hL
  obtain ⟨n, hn⟩ : ∃ n, A.length = n := ⟨_, rfl⟩
  rw [hn] at c0 hcl hlen
  have HN := Lib.hid hn
  clear h1 h2 h3 h4 hL hnd hn
  go_enter Tryz.func90, Tryz.ntmps90
  go_wp2_with fail
  refine hcl.mono ?_
  rintro e w2 ⟨ao2, cap2, rfl, hR, hf, hU⟩
  have HR := Lib.hid hR
  have HF := Lib.hid hf
  have HU := Lib.hid hU
  clear hR hf hU
  rcases HR.out.cases with ⟨rfl, hn0, hc0, hx0⟩ | ⟨g, rfl, hr⟩
  · subst hn0 hc0
    have hcon := AnyF.slices_SortFunc_none { Tryz.laysSort with } none 0 (.func (.func 113) #[] #[]) w2
    change Calls Tryz.prog 70 _ _ _ at hcon
    have HCON := Lib.hid hcon
    have hA0 : A = [] := List.eq_nil_of_length_eq_zero HN.out
    have hL0 : Hid (L = []) := List.eq_nil_of_length_eq_zero (by rw [← HL.out]; exact HN.out)
    clear hcon
    go_wp2_with fail
    refine HCON.out.mono ?_
    rintro e w3 ⟨rfl, rfl⟩
    go_wp2
    go_ret
    rw [hL0.out]
    exact ⟨none, 0, rfl, RowO.nil _ _ _, fun c hc => (by cases hc), HU.out⟩
  · have hr2 : Row w2 54 2 g A.length cap2 (A.flatMap itVs) := by rw [HN.out]; exact hr
    have hso := sort_items g cap2 A w2 hr2 (by rw [HN.out]; exact hlen)
    rw [HN.out] at hso
    have HSO := Lib.hid hso
    clear hr hr2 hso
    go_wp2_with fail
    refine HSO.out.mono ?_
    rintro e w3 ⟨rfl, D, hp, hs, hrow, hU3⟩
    have hDL : Hid (D = L) := sorted_eq (hp.trans H3.out) H4.out HND.out hs
    have HROW := Lib.hid hrow
    have HU3 := Lib.hid hU3
    clear hp hs hrow hU3
    go_wp2
    go_ret
    have hLn : L.length = n := by rw [← HL.out, HN.out]
    refine ⟨some ⟨g, 0, none⟩, cap2, by rw [hLn]; rfl, ?_, HF.out, HU.out.then HU3.out (fun _ _ hm => hm) (fun i hi hm => by simp at hm; have := HF.out g (by simp [blkO]); omega)⟩
    rw [hLn]
    have := HROW.out
    rw [hDL.out] at this
    exact this.o
end Go.Proofs.YtolohheflbmfaaaGreatDoor
