/-
  Texts of this claim, joined: HeapO, HeapQ, Told, WOrd, HeapP. No condition.
-/
import Derived.Test.YtolohheflbmfaaaGreatDoorPB
import Derived.Shelf.SlSortCmp.InsertionK
import Derived.Test.YtolohheflbmfaaaGreatDoorLays
import Derived.Test.YtolohheflbmfaaaGreatDoorPI
import Derived.Shelf.SlSortCmp.NoneTotal
set_option linter.unusedVariables false
set_option linter.unusedSimpArgs false
/-! HeapO -/
namespace Go.Proofs.YtolohheflbmfaaaGreatDoor
open Go.RowKit Go.Lib Go.Sort

def cmpI (a b : It) : Int := if ahead a b = true then -1 else if ahead b a = true then 1 else 0


set_option maxHeartbeats 400000 in
theorem ahead_grow (a b : It) (w : World) :
    Calls Tryz.prog 72 #[.agg #[.int .u64 a.1, .int .i64 a.2], .agg #[.int .u64 b.1, .int .i64 b.2]] w (fun e w' => e = .returned (.bool (ahead a b)) ∧ ∃ os, w' = grow w os) := by
  obtain ⟨k1, i1⟩ := a
  obtain ⟨k2, i2⟩ := b
  go_enter Tryz.func72, Tryz.ntmps72
  go_wp2
  all_goals
    go_ret
    refine ⟨ret_bool ?_, _, by rw [alloc_eq_grow, alloc_eq_grow, grow_grow]⟩
    try (simp [ahead, *]; done)

theorem grow_upd (w : World) (os : Array Obj) : Upd [] w (grow w os) := by
  refine ⟨rfl, rfl, rfl, by simp [grow], fun k hk _ => ?_⟩
  simp [grow, Array.getElem?_append_left hk]


set_option maxHeartbeats 4000000 in
theorem order_grow (a b : It) (w : World) :
    Calls Tryz.prog 113 #[.agg #[.int .u64 a.1, .int .i64 a.2], .agg #[.int .u64 b.1, .int .i64 b.2]] w (fun e w' => e = .returned (.int .i64 (cmpI a b)) ∧ ∃ q os', w' = grow (w.drewN q) os') := by
  obtain ⟨W2, hW2⟩ : ∃ W2 : World, W2 = (w.alloc (.cells #[.int .u64 a.1, .int .i64 a.2] 54)).alloc (.cells #[.int .u64 b.1, .int .i64 b.2] 54) := ⟨_, rfl⟩
  have hg2 : W2 = grow w #[.cells #[.int .u64 a.1, .int .i64 a.2] 54, .cells #[.int .u64 b.1, .int .i64 b.2] 54] := by rw [hW2, alloc_eq_grow, alloc_eq_grow, grow_grow]; rfl
  have hA : Blk W2 w.heap.size 54 [.int .u64 a.1, .int .i64 a.2] := by rw [hW2]; exact (heap_two w _ _).1
  have hB : Blk W2 (w.heap.size + 1) 54 [.int .u64 b.1, .int .i64 b.2] := by rw [hW2]; exact (heap_two w _ _).2
  have HW2 := Lib.hid hW2
  have HG2 := Lib.hid hg2
  have HA := Lib.hid hA
  have HB := Lib.hid hB
  clear hW2 hg2 hA hB
  go_enter Tryz.func113, Tryz.ntmps113
  go_wp2_with fail
  rw [← HW2.out]
  refine (ahead_grow a b W2).mono ?_
  rintro e w3 ⟨rfl, os, hw3⟩
  have HW3 := Lib.hid hw3
  have hu3 : Upd [] W2 w3 := by rw [hw3]; exact grow_upd _ _
  clear hw3
  cases h1 : ahead a b with
  | true =>
    have hc : Hid (cmpI a b = -1) := by unfold Hid cmpI; rw [if_pos h1]
    go_wp2
    go_ret
    exact ⟨by rw [hc.out]; rfl, 0, _, by rw [HW3.out, HG2.out, grow_grow]; rfl⟩
  | false =>
    have a3 := HA.out.upd hu3 (by simp)
    have b3 := HB.out.upd hu3 (by simp)
    have k0 := a3.cell (j := 0) rfl
    have k1 := a3.cell (j := 1) rfl
    have k2 := b3.cell (j := 0) rfl
    have k3 := b3.cell (j := 1) rfl
    have H1 := Lib.hid h1
    clear hu3 a3 b3 h1
    go_wp2_with fail
    refine (ahead_grow b a w3).mono ?_
    rintro e w4 ⟨rfl, os4, hw4⟩
    have HW4 := Lib.hid hw4
    clear hw4
    cases h2 : ahead b a with
    | true =>
      have hc : Hid (cmpI a b = 1) := by unfold Hid cmpI; rw [if_neg (by rw [H1.out]; simp), if_pos h2]
      go_wp2
      go_ret
      exact ⟨by rw [hc.out]; rfl, 0, _, by rw [HW4.out, HW3.out, HG2.out, grow_grow, grow_grow]; rfl⟩
    | false =>
      have hc : Hid (cmpI a b = 0) := by unfold Hid cmpI; rw [if_neg (by rw [H1.out]; simp), if_neg (by rw [h2]; simp)]
      go_wp2
      go_ret
      exact ⟨by rw [hc.out]; rfl, 0, _, by rw [HW4.out, HW3.out, HG2.out, grow_grow, grow_grow]; rfl⟩
theorem ltOf_cmpI (x y : It) : ltOf cmpI x y = ahead x y := by
  unfold ltOf cmpI
  cases h1 : ahead x y with
  | true => simp
  | false => cases h2 : ahead y x <;> simp
theorem swo_cmpI : SWO (ltOf cmpI) where
  irrefl x := by rw [ltOf_cmpI]; exact ahead_irrefl x
  trans x y z h1 h2 := by rw [ltOf_cmpI] at *; exact ahead_trans h1 h2
  ntrans x y z h1 h2 := by rw [ltOf_cmpI] at *; rw [ahead_no] at *; omega
end Go.Proofs.YtolohheflbmfaaaGreatDoor

/-! HeapQ -/
namespace Go.Proofs.YtolohheflbmfaaaGreatDoor
open Go.RowKit Go.Lib Go.Sort

theorem flatK_list (D : List It) : flatK itVs 2 D.toArray = (D.flatMap itVs).toArray := by
  have hl := flat_len itVs 2 itVs_len D
  apply Array.ext
  · simp [hl]
  · intro t h1 h2
    have ht : t < D.length * 2 := by simpa using h1
    have hd : t / 2 < D.length := by omega
    have hg := flat_get itVs 2 itVs_len D (t / 2) (t % 2) (by omega) _ (List.getElem?_eq_getElem hd)
    have e : t / 2 * 2 + t % 2 = t := by omega
    rw [e] at hg
    have h3 : (D.flatMap itVs)[t]? = some ((D.flatMap itVs)[t]'(by rw [hl]; exact ht)) := List.getElem?_eq_getElem _
    rw [h3] at hg
    have h4 : t % 2 < (itVs D[t / 2]).length := by rw [itVs_len]; omega
    rw [List.getElem?_eq_getElem h4, Option.some.injEq] at hg
    simp only [List.getElem_toArray]
    rw [hg]
    simp [flatK, hd, h4]

theorem row_holds {w : World} {g n cap : Nat} {D : List It} (h : Row w 54 2 g n cap (D.flatMap itVs)) : HoldsK itVs 2 w g 0 D.toArray := by
  unfold HoldsK
  rw [flatK_list]
  intro j hj
  have hj2 : j < (D.flatMap itVs).length := by simpa using hj
  refine ⟨?_, by rw [Nat.zero_add]; exact h.free j⟩
  rw [Nat.zero_add, h.cell (List.getElem?_eq_getElem hj2)]
  simp
  rw [List.getElem?_eq_getElem hj2]; rfl

theorem row_put {w : World} {g n cap : Nat} {A D : List It} (h : Row w 54 2 g n cap (A.flatMap itVs)) (hl : D.length = n) (m : Nat) (os : Array Obj) :
    Row (sortWorldK itVs 2 w g 0 m D.toArray os) 54 2 g n cap (D.flatMap itVs) ∧ Upd [g] w (sortWorldK itVs 2 w g 0 m D.toArray os) := by
  have hlt := h.lt
  obtain ⟨h1, cur, hg, h2, h3, h4, h5⟩ := h.parts
  have hfl := flat_len itVs 2 itVs_len D
  have hu1 : Upd [g] w (putRowK itVs 2 (Go.Sort.ahead w m) g 0 D.toArray) := by
    unfold putRowK
    refine ⟨rfl, rfl, rfl, by simp [Go.Sort.ahead], fun k hk hn => ?_⟩
    simp at hn
    simp [putRow, mapBlock, Go.Sort.ahead, Array.getElem?_modify]
    intro e; exact absurd e.symm hn
  have hu2 := grow_upd (putRowK itVs 2 (Go.Sort.ahead w m) g 0 D.toArray) os
  refine ⟨?_, hu1.trans hu2.nil⟩
  unfold sortWorldK
  refine Row.upd ?_ hu2 (by simp)
  have hb : (putRowK itVs 2 (Go.Sort.ahead w m) g 0 D.toArray).heap[g]? = some (.cells (putCells id 0 (flatK itVs 2 D.toArray) cur) 54 (0, 0)) := by
    unfold putRowK putRow mapBlock
    simp [Go.Sort.ahead, Array.getElem?_modify, hg, onCells]
  refine Row.mk' (by rw [hfl, hl]) hb h2 h3 (by simp [putCells, h4]) ?_
  rw [flatK_list]
  have hcn : n * 2 ≤ cap * 2 := by omega
  apply List.ext_getElem
  · simp [putCells, h4, hfl, hl]; omega
  · intro t g1 g2
    have g3 : t < D.length * 2 := by rw [← hfl]; exact g2
    simp [putCells, hfl, g3]
    done

theorem cmpLays (blk off size : Nat) (w : World) : CmpLays Tryz.prog 113 #[] itVs 2 cmpI blk off size w :=
  fun _ _ _ _ x y => order_grow x y _


set_option maxHeartbeats 1000000 in
theorem sort_items (g cap : Nat) (A : List It) (w : World) (h : Row w 54 2 g A.length cap (A.flatMap itVs)) (hsm : A.length ≤ 1000) :
    Calls Tryz.prog 70 #[.slice (some ⟨g, 0, none⟩) A.length cap, .func (.func 113) #[] #[]] w (fun e w' => e = .returned (.tuple #[]) ∧ ∃ D : List It, D.Perm A ∧ (∀ i j, i < j → j < D.length → Proofs.YtolohheflbmfaaaGreatDoor.ahead (atI D j) (atI D i) = false) ∧ Row w' 54 2 g A.length cap (D.flatMap itVs) ∧ Upd [g] w w') := by
  have eg : ∀ args w, (callFunc 113 args).run Tryz.prog w = .ok (.enter 113 args) w := enters_of Tryz.func113 (by kernel_rfl) rfl
  have hcon := AnyQ.slices_SortFunc Tryz.laysSort 2 Tryz.isAgg54 Tryz.sizeOf54 itVs itVs_len (fun x v hv => by simp [itVs] at hv; rcases hv with rfl | rfl <;> rfl) cmpI swo_cmpI 113 #[] g 0 cap A.toArray w eg (cmpLays g 0 _ w) (row_holds h) h.lt (by simp; omega)
  change Calls Tryz.prog 70 _ _ _ at hcon
  refine hcon.mono ?_
  rintro e w' ⟨rfl, d', m, os, hp, hs, rfl⟩
  have hsz : d'.size = A.length := by have := hp.1; simpa using this
  have hD : d'.toList.length = A.length := by simpa using hsz
  have hput := row_put h hD m os
  refine ⟨rfl, d'.toList, ?_, ?_, hput.1, hput.2⟩
  · have := hp.2.2
    simpa [Array.extract_eq_self_of_le (Nat.le_of_eq hsz)] using this
  · intro i j hij hj
    have hj2 : j < d'.size := by simpa using hj
    have := hs i j (Nat.zero_le _) hij (by simpa [hsz] using hj2)
    rw [ltOf_cmpI] at this
    rw [atI_get _ j hj, atI_get _ i (by omega)]
    simpa [hj2, show i < d'.size by omega] using this
end Go.Proofs.YtolohheflbmfaaaGreatDoor

/-! Told -/
namespace Go.Proofs.YtolohheflbmfaaaGreatDoor
open Go.RowKit Go.Lib Go.Sort

/-- What All tells: the items in order, in an array of its own. -/
def Told (w : World) (L : List It) (S : List Nat) (e : Ending) (w' : World) : Prop :=
  ∃ ao cap, e = .returned (.slice ao L.length cap) ∧ RowO w' 54 2 ao L.length cap (L.flatMap itVs) ∧ (∀ c ∈ blkO ao, w.heap.size ≤ c) ∧ Upd S w w'

theorem sorted_eq {D L : List It} (hp : D.Perm L) (hL : Srt L) (hn : NdI L) (hs : ∀ i j, i < j → j < D.length → Proofs.YtolohheflbmfaaaGreatDoor.ahead (atI D j) (atI D i) = false) : D = L := by
  refine srt_unique ?_ hL hp
  have hnD : NdI D := hn.perm hp.symm
  unfold Srt
  rw [List.pairwise_iff_getElem]
  intro i j hi hj hij
  have h1 := hs i j hij hj
  rw [atI_get D i hi, atI_get D j hj] at h1
  have hne : (D[i]).2 ≠ (D[j]).2 := by
    intro e
    have := atI_inj hnD hi hj (by rw [atI_get D i hi, atI_get D j hj]; exact e)
    omega
  exact ahead_not (fun e => hne e.symm) h1

theorem clone_items (ao : Option Addr) (cap : Nat) (A : List It) (w : World) (h : RowO w 54 2 ao A.length cap (A.flatMap itVs)) (hsm : A.length ≤ 1000) :
    Calls Tryz.prog 112 #[.slice ao A.length cap] w (fun e w' => ∃ ao' cap', e = .returned (.slice ao' A.length cap') ∧ RowO w' 54 2 ao' A.length cap' (A.flatMap itVs) ∧ (∀ c ∈ blkO ao', w.heap.size ≤ c) ∧ Upd [] w w') := by
  obtain ⟨i0, hi0, hz0, hz1, hz2⟩ := info_parts infoItem
  rcases h.cases with ⟨rfl, hn, hc, hx⟩ | ⟨g, rfl, hr⟩
  · have hcon := AnyE.slices_Clone_nil Tryz.laysClone A.length cap w
    change Calls Tryz.prog 112 _ _ _ at hcon
    refine hcon.mono ?_
    rintro e w' ⟨rfl, rfl⟩
    rw [hn, hx]
    exact ⟨none, 0, rfl, RowO.nil _ _ _, fun c hc => (by cases hc), Upd.refl _ _⟩
  · have hfl := flat_len itVs 2 itVs_len A
    have hcon := AnyE.slices_Clone Tryz.laysClone i0 _ 2 16 hi0 hz0 hz1 hz2 rfl (by omega) Tryz.sizeOf54 g 0 A.length cap (A.flatMap itVs) w hfl (by unfold maxLen; omega) (by omega)
      (fun j u hu => by rw [Nat.zero_add]; exact hr.cell hu) (flat_one A)
    change Calls Tryz.prog 112 _ _ _ at hcon
    refine hcon.mono ?_
    rintro e w' ⟨v', rfl, hown, hne, hbel⟩
    rcases hown.2 with ⟨h1, _⟩ | ⟨g', cap', cur, h1, h2, h3⟩
    · exact absurd h1 hne
    · refine ⟨some ⟨g', 0, none⟩, cap', by rw [h1], ⟨hown.1, .inr ⟨g', cap', cur, rfl, Nat.zero_le _, h3⟩⟩, fun c hc => by simp [blkO] at hc; omega, Upd.of_below hbel⟩

end Go.Proofs.YtolohheflbmfaaaGreatDoor

/-! WOrd -/
namespace Go.Proofs.YtolohheflbmfaaaGreatDoor
open Go.RowKit Go.Lib Go.Sort

set_option maxHeartbeats 4000000 in
theorem worder_grow (a b : It) (w : World) :
    Calls Tryz.prog 111 #[.agg #[.int .u64 a.1, .int .i64 a.2], .agg #[.int .u64 b.1, .int .i64 b.2]] w (fun e w' => e = .returned (.int .i64 (cmpI a b)) ∧ ∃ q os', w' = grow (w.drewN q) os') := by
  obtain ⟨W2, hW2⟩ : ∃ W2 : World, W2 = (w.alloc (.cells #[.int .u64 a.1, .int .i64 a.2] 54)).alloc (.cells #[.int .u64 b.1, .int .i64 b.2] 54) := ⟨_, rfl⟩
  have hg2 : W2 = grow w #[.cells #[.int .u64 a.1, .int .i64 a.2] 54, .cells #[.int .u64 b.1, .int .i64 b.2] 54] := by rw [hW2, alloc_eq_grow, alloc_eq_grow, grow_grow]; rfl
  have hA : Blk W2 w.heap.size 54 [.int .u64 a.1, .int .i64 a.2] := by rw [hW2]; exact (heap_two w _ _).1
  have hB : Blk W2 (w.heap.size + 1) 54 [.int .u64 b.1, .int .i64 b.2] := by rw [hW2]; exact (heap_two w _ _).2
  have HW2 := Lib.hid hW2
  have HG2 := Lib.hid hg2
  have HA := Lib.hid hA
  have HB := Lib.hid hB
  clear hW2 hg2 hA hB
  go_enter Tryz.func111, Tryz.ntmps111
  go_wp2_with fail
  rw [← HW2.out]
  refine (ahead_grow a b W2).mono ?_
  rintro e w3 ⟨rfl, os, hw3⟩
  have HW3 := Lib.hid hw3
  have hu3 : Upd [] W2 w3 := by rw [hw3]; exact grow_upd _ _
  clear hw3
  cases h1 : ahead a b with
  | true =>
    have hc : Hid (cmpI a b = -1) := by unfold Hid cmpI; rw [if_pos h1]
    go_wp2
    go_ret
    exact ⟨by rw [hc.out]; rfl, 0, _, by rw [HW3.out, HG2.out, grow_grow]; rfl⟩
  | false =>
    have a3 := HA.out.upd hu3 (by simp)
    have b3 := HB.out.upd hu3 (by simp)
    have k0 := a3.cell (j := 0) rfl
    have k1 := a3.cell (j := 1) rfl
    have k2 := b3.cell (j := 0) rfl
    have k3 := b3.cell (j := 1) rfl
    have H1 := Lib.hid h1
    clear hu3 a3 b3 h1
    go_wp2_with fail
    refine (ahead_grow b a w3).mono ?_
    rintro e w4 ⟨rfl, os4, hw4⟩
    have HW4 := Lib.hid hw4
    clear hw4
    cases h2 : ahead b a with
    | true =>
      have hc : Hid (cmpI a b = 1) := by unfold Hid cmpI; rw [if_neg (by rw [H1.out]; simp), if_pos h2]
      go_wp2
      go_ret
      exact ⟨by rw [hc.out]; rfl, 0, _, by rw [HW4.out, HW3.out, HG2.out, grow_grow, grow_grow]; rfl⟩
    | false =>
      have hc : Hid (cmpI a b = 0) := by unfold Hid cmpI; rw [if_neg (by rw [H1.out]; simp), if_neg (by rw [h2]; simp)]
      go_wp2
      go_ret
      exact ⟨by rw [hc.out]; rfl, 0, _, by rw [HW4.out, HW3.out, HG2.out, grow_grow, grow_grow]; rfl⟩
theorem wcmpLays (blk off size : Nat) (w : World) : CmpLays Tryz.prog 111 #[] itVs 2 cmpI blk off size w :=
  fun _ _ _ _ x y => worder_grow x y _


set_option maxHeartbeats 1000000 in
theorem wsort_items (g cap : Nat) (A : List It) (w : World) (h : Row w 54 2 g A.length cap (A.flatMap itVs)) (hsm : A.length ≤ 1000) :
    Calls Tryz.prog 70 #[.slice (some ⟨g, 0, none⟩) A.length cap, .func (.func 111) #[] #[]] w (fun e w' => e = .returned (.tuple #[]) ∧ ∃ D : List It, D.Perm A ∧ (∀ i j, i < j → j < D.length → Proofs.YtolohheflbmfaaaGreatDoor.ahead (atI D j) (atI D i) = false) ∧ Row w' 54 2 g A.length cap (D.flatMap itVs) ∧ Upd [g] w w') := by
  have eg : ∀ args w, (callFunc 111 args).run Tryz.prog w = .ok (.enter 111 args) w := enters_of Tryz.func111 (by kernel_rfl) rfl
  have hcon := AnyQ.slices_SortFunc Tryz.laysSort 2 Tryz.isAgg54 Tryz.sizeOf54 itVs itVs_len (fun x v hv => by simp [itVs] at hv; rcases hv with rfl | rfl <;> rfl) cmpI swo_cmpI 111 #[] g 0 cap A.toArray w eg (wcmpLays g 0 _ w) (row_holds h) h.lt (by simp; omega)
  change Calls Tryz.prog 70 _ _ _ at hcon
  refine hcon.mono ?_
  rintro e w' ⟨rfl, d', m, os, hp, hs, rfl⟩
  have hsz : d'.size = A.length := by have := hp.1; simpa using this
  have hD : d'.toList.length = A.length := by simpa using hsz
  have hput := row_put h hD m os
  refine ⟨rfl, d'.toList, ?_, ?_, hput.1, hput.2⟩
  · have := hp.2.2
    simpa [Array.extract_eq_self_of_le (Nat.le_of_eq hsz)] using this
  · intro i j hij hj
    have hj2 : j < d'.size := by simpa using hj
    have := hs i j (Nat.zero_le _) hij (by simpa [hsz] using hj2)
    rw [ltOf_cmpI] at this
    rw [atI_get _ j hj, atI_get _ i (by omega)]
    simpa [hj2, show i < d'.size by omega] using this
end Go.Proofs.YtolohheflbmfaaaGreatDoor

/-! HeapP -/
namespace Go.Proofs.YtolohheflbmfaaaGreatDoor
open Go.RowKit

set_option maxHeartbeats 400000 in
theorem plainf_any (x : It) (w : World) :
    Calls Tryz.prog 48 #[.agg #[.int .u64 x.1, .int .i64 x.2], .agg #[.int .u64 x.1, .int .i64 x.2]] w (RetUpd [] w (.bool true)) := by
  go_enter Tryz.func48, Tryz.ntmps48
  go_wp2
  go_ret
  exact ⟨rfl, ((Upd.refl _ _).alloc _).alloc _⟩

def SameAt (w : World) (n : Nat) (iv : Value) (wr : World) : Prop := ∃ i : Nat, iv = .int .i64 i ∧ i ≤ n ∧ Upd [] w wr


set_option maxHeartbeats 4000000 in
theorem same_any (ao1 ao2 : Option Addr) (n cap1 cap2 : Nat) (L : List It) (w : World) (hn : L.length = n) (hs : n ≤ 1000) (h1 : RowO w 54 2 ao1 n cap1 (L.flatMap itVs)) (h2 : RowO w 54 2 ao2 n cap2 (L.flatMap itVs)) :
    Calls Tryz.prog 47 #[.slice ao1 n cap1, .slice ao2 n cap2, .func (.func 48) #[] #[]] w (RetUpd [] w (.bool true)) := by
  have HN := Lib.hid hn
  have H1 := Lib.hid h1
  have H2 := Lib.hid h2
  clear hn h1 h2
  go_enter Tryz.func47, Tryz.ntmps47
  go_wp2
  go_loopw [7] (fun iv wr => SameAt w n iv wr) (fun iv _ => n - (intOf iv).toNat)
  case atStart => exact ⟨0, rfl, by omega, Upd.refl _ _⟩
  case round =>
    obtain ⟨i, rfl, hi, hU⟩ := hrel
    have HU := Lib.hid hU
    clear hU
    by_cases hlt : i < n
    · have t1 : decide (i < n) = true := by simp [hlt]
      have b1 : (i : Int) < (n : Int) := by omega
      obtain ⟨g1, hg1, l1, x0, x1⟩ := (H1.out.upd HU.out (by simp)).items HN.out hlt
      obtain ⟨g2, hg2, l2, y0, y1⟩ := (H2.out.upd HU.out (by simp)).items HN.out hlt
      subst hg1 hg2
      obtain ⟨x, hx⟩ : ∃ x, atI L i = x := ⟨_, rfl⟩
      rw [hx] at x0 x1 y0 y1
      clear hx
      go_wp2
      go_region_held3 (fun w' => Upd [] wr w' ∧ ∀ (b o : Nat), b < wr.heap.size → b ∉ ([] : List Nat) → w'.cell? ⟨b, o, none⟩ = wr.cell? ⟨b, o, none⟩)
        (first | exact Held.init _ _ | exact Held.step (by assumption) hB) (first | (go_at_call 48; refine (plainf_any x _).mono ?_; rintro e w' ⟨rfl, hB⟩))
      have hU2 := HU.out.trans ((Upd.refl [] wr).drew.trans hB)
      go_wp2
      exact ⟨⟨i + 1, by congr 1, by omega, hU2⟩, by first | (simp [intOf]; done) | (simp [intOf]; omega)⟩
    · have t1 : decide (i < n) = false := by simp; omega
      go_wp2
      go_ret
      exact ⟨rfl, HU.out⟩

theorem plain_any (ao1 ao2 : Option Addr) (n cap1 cap2 : Nat) (L : List It) (w : World) (hn : L.length = n) (hs : n ≤ 1000) (h1 : RowO w 54 2 ao1 n cap1 (L.flatMap itVs)) (h2 : RowO w 54 2 ao2 n cap2 (L.flatMap itVs)) :
    Calls Tryz.prog 29 #[.slice ao1 n cap1, .slice ao2 n cap2] w (RetUpd [] w (.bool true)) := by
  have H1 := same_any ao1 ao2 n cap1 cap2 L w hn hs h1 h2
  clear hn h1 h2
  go_enter Tryz.func29, Tryz.ntmps29
  go_wp2_with fail
  refine H1.mono ?_
  rintro e w2 ⟨rfl, hU⟩
  go_wp2
  go_ret
  exact ⟨rfl, hU⟩

def SpoilAt (w : World) (ao : Option Addr) (n cap r : Nat) (iv : Value) (wr : World) : Prop :=
  ∃ (i : Nat) (xs : List Value), iv = .int .i64 i ∧ i ≤ n ∧ Upd (blkO ao) w wr ∧ RowO wr 54 2 ao n cap xs ∧ Blk wr r 54 [.int .u64 0, .int .i64 0]


set_option maxHeartbeats 4000000 in
theorem spoil_any (ao : Option Addr) (n cap : Nat) (xs : List Value) (w : World) (hs : n ≤ 1000) (h : RowO w 54 2 ao n cap xs) :
    Calls Tryz.prog 31 #[.slice ao n cap] w (RetUpd (blkO ao) w (.tuple #[])) := by
  have hlt := h.lt
  have H := Lib.hid h
  have HL := Lib.hid hlt
  clear h hlt
  go_enter Tryz.func31, Tryz.ntmps31
  go_wp2
  go_loopw [3] (fun iv wr => SpoilAt w ao n cap w.heap.size iv wr) (fun iv _ => n - (intOf iv).toNat)
  case atStart => exact ⟨0, xs, rfl, by omega, (Upd.refl _ _).alloc _, H.out.upd ((Upd.refl [] _).alloc _) (by simp), Blk.new w _ [.int .u64 0, .int .i64 0]⟩
  case round =>
    obtain ⟨i, ys, rfl, hi, hU, hR, hB⟩ := hrel
    have HU := Lib.hid hU
    have HR := Lib.hid hR
    have HB := Lib.hid hB
    clear hU hR hB
    by_cases hlt : i < n
    · have t1 : decide (i < n) = true := by simp [hlt]
      have b1 : (i : Int) < (n : Int) := by omega
      obtain ⟨g, hg, hr⟩ := HR.out.row (by omega)
      subst hg
      have lg := hr.lt
      obtain ⟨u0, x0⟩ := hr.spot (j := i * 2) (by omega)
      obtain ⟨u1, x1⟩ := hr.spot (j := i * 2 + 1) (by omega)
      have f0 := hr.free (i * 2)
      have f1 := hr.free (i * 2 + 1)
      have z0 := HB.out.cell (j := 0) rfl
      have z1 := HB.out.cell (j := 1) rfl
      have hne : w.heap.size ≠ g := by have := HL.out g (by simp [blkO]); omega
      have HR2 : Hid (Row ((wr.setCell ⟨g, i * 2, none⟩ (.int .u64 0)).setCell ⟨g, i * 2 + 1, none⟩ (.int .i64 0)) 54 2 g n cap _) := (hr.set (i * 2) (.int .u64 0)).set (i * 2 + 1) (.int .i64 0)
      clear hr
      go_wp2
      exact ⟨⟨i + 1, _, by congr 1, by omega, (HU.out.setCell (by simp [blkO]) _).setCell (by simp [blkO]) _, HR2.out.o, (HB.out.setFar (fun e => hne e.symm) _).setFar (fun e => hne e.symm) _⟩, by first | (simp [intOf]; done) | (simp [intOf]; omega)⟩
    · have t1 : decide (i < n) = false := by simp; omega
      go_wp2
      go_end0
      exact ⟨rfl, HU.out⟩
end Go.Proofs.YtolohheflbmfaaaGreatDoor
