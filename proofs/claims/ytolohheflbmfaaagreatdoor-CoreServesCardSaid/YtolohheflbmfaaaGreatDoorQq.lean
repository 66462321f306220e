/-
  The queue's order, and the library's sort by it; the walks of a queue's All and Shard. Condition: where a table of the library's lies.
-/
import Derived.Test.YtolohheflbmfaaaGreatDoorPQA
import Derived.Test.YtolohheflbmfaaaGreatDoorPS
import Derived.Test.YtolohheflbmfaaaGreatDoorWu
set_option linter.unusedVariables false
set_option linter.unusedSimpArgs false
namespace Go.Proofs.YtolohheflbmfaaaGreatDoor
open Go.RowKit Go.Lib Go.Sort

def cmpQ (a b : It) : Int := if ahead a b = true then -1 else 1
theorem ltOf_cmpQ (x y : It) : ltOf cmpQ x y = ahead x y := by
  unfold ltOf cmpQ
  cases h1 : ahead x y <;> simp
theorem swo_cmpQ : SWO (ltOf cmpQ) where
  irrefl x := by rw [ltOf_cmpQ]; exact ahead_irrefl x
  trans x y z h1 h2 := by rw [ltOf_cmpQ] at *; exact ahead_trans h1 h2
  ntrans x y z h1 h2 := by rw [ltOf_cmpQ] at *; rw [ahead_no] at *; omega

set_option maxHeartbeats 4000000 in
theorem qorder_grow (a b : It) (w : World) :
    Calls Tryz.prog 71 #[.agg #[.int .u64 a.1, .int .i64 a.2], .agg #[.int .u64 b.1, .int .i64 b.2]] w (fun e w' => e = .returned (.int .i64 (cmpQ a b)) ∧ ∃ q os', w' = grow (w.drewN q) os') := by
  obtain ⟨W2, hW2⟩ : ∃ W2 : World, W2 = (w.alloc (.cells #[.int .u64 a.1, .int .i64 a.2] 54)).alloc (.cells #[.int .u64 b.1, .int .i64 b.2] 54) := ⟨_, rfl⟩
  have hg2 : W2 = grow w #[.cells #[.int .u64 a.1, .int .i64 a.2] 54, .cells #[.int .u64 b.1, .int .i64 b.2] 54] := by rw [hW2, alloc_eq_grow, alloc_eq_grow, grow_grow]; rfl
  have HW2 := Lib.hid hW2
  have HG2 := Lib.hid hg2
  clear hW2 hg2
  go_enter Tryz.func71, Tryz.ntmps71
  go_wp2_with fail
  rw [← HW2.out]
  refine (ahead_grow a b W2).mono ?_
  rintro e w3 ⟨rfl, os, hw3⟩
  have HW3 := Lib.hid hw3
  clear hw3
  cases h1 : ahead a b with
  | true =>
    have hc : Hid (cmpQ a b = -1) := by unfold Hid cmpQ; rw [if_pos h1]
    go_wp2
    go_ret
    exact ⟨by rw [hc.out]; rfl, 0, _, by rw [HW3.out, HG2.out, grow_grow]; rfl⟩
  | false =>
    have hc : Hid (cmpQ a b = 1) := by unfold Hid cmpQ; rw [if_neg (by rw [h1]; simp)]
    go_wp2
    go_ret
    exact ⟨by rw [hc.out]; rfl, 0, _, by rw [HW3.out, HG2.out, grow_grow]; rfl⟩
theorem qcmpLays (blk off size : Nat) (w : World) : CmpLays Tryz.prog 71 #[] itVs 2 cmpQ blk off size w :=
  fun _ _ _ _ x y => qorder_grow x y _


set_option maxHeartbeats 1000000 in
theorem qsort_items (g cap : Nat) (A : List It) (w : World) (h : Row w 54 2 g A.length cap (A.flatMap itVs)) (hsm : A.length ≤ 1000) :
    Calls Tryz.prog 70 #[.slice (some ⟨g, 0, none⟩) A.length cap, .func (.func 71) #[] #[]] w (fun e w' => e = .returned (.tuple #[]) ∧ ∃ D : List It, D.Perm A ∧ (∀ i j, i < j → j < D.length → Proofs.YtolohheflbmfaaaGreatDoor.ahead (atI D j) (atI D i) = false) ∧ Row w' 54 2 g A.length cap (D.flatMap itVs) ∧ Upd [g] w w') := by
  have eg : ∀ args w, (callFunc 71 args).run Tryz.prog w = .ok (.enter 71 args) w := enters_of Tryz.func71 (by kernel_rfl) rfl
  have hcon := AnyQ.slices_SortFunc Tryz.laysSort 2 Tryz.isAgg54 Tryz.sizeOf54 itVs itVs_len (fun x v hv => by simp [itVs] at hv; rcases hv with rfl | rfl <;> rfl) cmpQ swo_cmpQ 71 #[] g 0 cap A.toArray w eg (qcmpLays g 0 _ w) (row_holds h) h.lt (by simp; omega)
  change Calls Tryz.prog 70 _ _ _ at hcon
  refine hcon.mono ?_
  rintro e w' ⟨rfl, d', m, os, hp, hs, rfl⟩
  have hsz : d'.size = A.length := by have := hp.1; simpa using this
  have hD : d'.toList.length = A.length := by simpa using hsz
  have hput := row_put h hD m os
  refine ⟨rfl, d'.toList, ?_, ?_, hput.1, hput.2⟩
  · have := hp.2.2
    simpa [Array.extract_eq_self_of_le (Nat.le_of_eq hsz)] using this
  · intro i j hij hj
    have hj2 : j < d'.size := by simpa using hj
    have := hs i j (Nat.zero_le _) hij (by simpa [hsz] using hj2)
    rw [ltOf_cmpQ] at this
    rw [atI_get _ j hj, atI_get _ i (by omega)]
    simpa [hj2, show i < d'.size by omega] using this

/-! ### All -/
def flatTo (M : List Sh) (j : Nat) : List It := flatM (M.take j)
theorem flatTo_succ {M : List Sh} {j : Nat} (h : j < M.length) : flatTo M (j + 1) = flatTo M j ++ (shAt M j).2 := by
  unfold flatTo flatM
  rw [List.take_add_one, List.getElem?_eq_getElem h, List.flatMap_append, shAt_get h]
  simp
theorem flatTo_all (M : List Sh) : flatTo M M.length = flatM M := by unfold flatTo; rw [List.take_length]
theorem flatTo_len {M : List Sh} {L : List It} (h : QOk M L) (j : Nat) : (flatTo M j).length ≤ L.length := lenTo_le h j
def QAllAt (w : World) (M : List Sh) (n : Nat) (lv iv : Value) (wr : World) : Prop :=
  ∃ (j : Nat) (ao : Option Addr) (cap : Nat), iv = .int .i64 j ∧ j ≤ n ∧ lv = .slice ao (flatTo M j).length cap ∧ RowO wr 54 2 ao (flatTo M j).length cap ((flatTo M j).flatMap itVs) ∧ (∀ c ∈ blkO ao, w.heap.size ≤ c) ∧ Upd [] w wr
theorem qall_round {w wr w2 w3 : World} {M : List Sh} {n j a m : Nat} {ao ao1 : Option Addr} {cap1 : Nat} (hj : j < M.length) (hn : M.length = n) (ha : (flatTo M j).length = a) (hm : (shAt M j).2.length = m) (hf : ∀ c ∈ blkO ao, w.heap.size ≤ c) (hU : Upd [] w wr) (hU2 : Upd [] wr w2)
    (hA : Apped w2 54 2 ao (a + m) ((flatTo M j).flatMap itVs ++ (shAt M j).2.flatMap itVs) ao1 cap1 w3) : QAllAt w M n (.slice ao1 (a + m) cap1) (.int .i64 ((j : Int) + 1)) w3 := by
  have hs := hU.size
  have hs2 := hU2.size
  have e := flatTo_succ hj
  refine ⟨j + 1, ao1, cap1, by congr 1, by omega, by rw [e, List.length_append, ha, hm], ?_, fun c hc => ?_, (hU.trans hU2).then hA.upd (fun _ _ h => h) (fun c hc h => by have := hf c h; omega)⟩
  · rw [e, List.length_append, ha, hm, List.flatMap_append]; exact hA.row
  · rcases hA.at_ c hc with h | h
    · exact hf c h
    · omega
section
variable {W w : World} {qb wd : Nat} {M : List Sh} {L : List It} {fp : List Nat}
set_option maxRecDepth 100000 in
set_option maxHeartbeats 16000000 in
theorem QG.all (h : QG W qb wd M L fp w) (hsm : L.length ≤ 1000) : Calls Tryz.prog 53 #[.pointer (some ⟨qb, 0, none⟩)] w (Told w L []) := by
  obtain ⟨i0, hi0, hz0, hz1, hz2⟩ := info_parts infoItem
  obtain ⟨sr, cap, t, sb, F, h1, h2, rfl⟩ := h
  obtain ⟨p0, p1, pp, lq, ls⟩ := h1.cells
  have HLN : Hid (∀ i, i < M.length → ∀ w', Upd [] w w' → Calls Tryz.prog 69 #[.pointer (some ⟨sb i, 0, none⟩)] w' (Told w' (shAt M i).2 [])) := fun i hi w' hu => ((h1.sh i hi).upd hu).all
  have HOK := Lib.hid h2
  have h16 := h2.small
  have HPP := Lib.hid pp
  obtain ⟨n, hn⟩ : ∃ n, M.length = n := ⟨_, rfl⟩
  have HN := Lib.hid hn
  rw [hn] at p0 h16 HLN HPP
  have HSM := Lib.hid hsm
  clear h1 h2 pp hn hsm
  go_enter Tryz.func53, Tryz.ntmps53
  go_wp2_with fail
  go_loopw [3, 11] (fun lv iv wr => QAllAt w M n lv iv wr) (fun _ iv _ => n - (intOf iv).toNat)
  case atStart => exact ⟨0, none, 0, rfl, Nat.zero_le _, rfl, RowO.nil _ _ _, fun c hc => (by cases hc), Upd.refl _ _⟩
  case round =>
    obtain ⟨j, ao, capj, rfl, hj, rfl, hR, hf, hU⟩ := hrel
    obtain ⟨a, ha⟩ : ∃ a, (flatTo M j).length = a := ⟨_, rfl⟩
    rw [ha] at hR ⊢
    have HAA := Lib.hid ha
    have HU := Lib.hid hU
    have HF := Lib.hid hf
    have HR := Lib.hid hR
    have ha1 : a ≤ 1000 := by have := flatTo_len HOK.out j; have := HSM.out; omega
    clear ha
    by_cases hlt : j < n
    · have t1 : decide (j < n) = true := by simp [hlt]
      have b1 : (j : Int) < (n : Int) := by omega
      have pj := (hU.cell ls (by simp) j).trans (HPP.out j hlt)
      have hls := Nat.lt_of_lt_of_le ls hU.size
      have HC := Lib.hid (HLN.out j hlt)
      have HLT : Hid (j < M.length) := by unfold Hid; rw [HN.out]; exact hlt
      have hm1 := flatTo_len HOK.out (j + 1)
      rw [flatTo_succ HLT.out, List.length_append, HAA.out] at hm1
      obtain ⟨m, hm⟩ : ∃ m, (shAt M j).2.length = m := ⟨_, rfl⟩
      have HMM := Lib.hid hm
      rw [hm] at hm1
      have h1000 := HSM.out
      have HG7 : Hid (a + m ≤ maxLen) := by unfold Hid maxLen; omega
      have HG8 : Hid ((a + m) * 16 ≤ 140737488355328) := by unfold Hid; omega
      clear hU hf hR hm hm1 h1000
      go_wp2_with fail
      refine (HC.out wr HU.out).mono ?_
      rintro e w2 ⟨ao2, cap2, rfl, hR2, hf2, hU2⟩
      rw [HMM.out] at hR2 ⊢
      have HSRC := Lib.hid (told_src HMM.out hR2)
      have HR2 := Lib.hid (HR.out.upd hU2 (by simp))
      have HU2 := Lib.hid hU2
      clear hR2 hf2 hU2
      go_wp2_with (at_builtin; refine wpList_app2 _ rfl _ _ _ rfl 54 i0 _ 2 16 underlyingItems hi0 hz0 hz1 hz2 rfl Nat.zero_lt_two ao a capj ((flatTo M j).flatMap itVs) rfl HR2.out ao2 m cap2 ((shAt M j).2.flatMap itVs) rfl HSRC.out HG7.out HG8.out ?_; intro ao1 cap1 w3 hA; have HA := Lib.hid hA; clear hA)
      go_wp2
      exact ⟨qall_round HLT.out HN.out HAA.out HMM.out HF.out HU.out HU2.out HA.out, by first | (simp [intOf]; done) | (simp [intOf]; omega)⟩
    · have t1 : decide (j < n) = false := by simp; omega
      have e : j = n := by omega
      have hfl : flatTo M j = flatM M := by rw [e, ← HN.out]; exact flatTo_all M
      have HPM : Hid ((flatM M).Perm L) := HOK.out.perm.symm
      have HLL : Hid (L.length = a) := by unfold Hid; rw [← HPM.out.length_eq, ← hfl, HAA.out]
      rw [hfl] at HR
      have HFA : Hid ((flatM M).length = a) := by unfold Hid; rw [← hfl]; exact HAA.out
      clear hU hf hR hfl HAA e
      rcases HR.out.cases with ⟨rfl, hn0, hc0, hx0⟩ | ⟨g, rfl, hr⟩
      · subst hn0 hc0
        have hcon := AnyF.slices_SortFunc_none { Tryz.laysSort with } none 0 (.func (.func 71) #[] #[]) wr
        change Calls Tryz.prog 70 _ _ _ at hcon
        have HCON := Lib.hid hcon
        have hL0 : Hid (L = []) := List.eq_nil_of_length_eq_zero HLL.out
        clear hcon hx0
        go_wp2_with fail
        refine HCON.out.mono ?_
        rintro e w3 ⟨rfl, rfl⟩
        go_wp2
        go_ret
        rw [hL0.out]
        exact ⟨none, 0, rfl, RowO.nil _ _ _, fun c hc => (by cases hc), HU.out⟩
      · have hr2 : Row wr 54 2 g (flatM M).length capj ((flatM M).flatMap itVs) := by rw [HFA.out]; exact hr
        have hso := qsort_items g capj (flatM M) wr hr2 (by rw [HFA.out]; exact ha1)
        rw [HFA.out] at hso
        have HSO := Lib.hid hso
        clear hr hr2 hso
        go_wp2_with fail
        refine HSO.out.mono ?_
        rintro e w3 ⟨rfl, D, hp, hs, hrow, hU3⟩
        have hDL : Hid (D = L) := sorted_eq (hp.trans HPM.out) HOK.out.srt HOK.out.nd hs
        have HROW := Lib.hid hrow
        have HU3 := Lib.hid hU3
        clear hp hs hrow hU3
        go_wp2
        go_ret
        refine ⟨some ⟨g, 0, none⟩, capj, by rw [HLL.out]; rfl, ?_, HF.out, HU.out.then HU3.out (fun _ _ hm => hm) (fun i hi hm => by simp at hm; have := HF.out g (by simp [blkO]); omega)⟩
        rw [HLL.out]
        have := HROW.out
        rw [hDL.out] at this
        exact this.o

/-! ### Shard -/
def shOf (M : List Sh) (i : Int) : List It := if 0 ≤ i ∧ i < M.length then (shAt M i.toNat).2 else []

end
end Go.Proofs.YtolohheflbmfaaaGreatDoor
