/-
  Texts of this claim, joined: HeapO, HeapQ, Told, WOrd, HeapP. No condition.
-/
import Derived.Test.YtkepeolbpgnlbaaDoorPB
import Derived.Shelf.SlSortCmp.InsertionK
import Derived.Test.YtkepeolbpgnlbaaDoorLays
import Derived.Test.YtkepeolbpgnlbaaDoorPI
import Derived.Shelf.SlSortCmp.NoneTotal
set_option linter.unusedVariables false
set_option linter.unusedSimpArgs false
/-! HeapO -/
namespace Go.Proofs.YtkepeolbpgnlbaaDoor
open Go.RowKit Go.Lib Go.Sort

def cmpI (a b : It) : Int := if ahead a b = true then -1 else if ahead b a = true then 1 else 0


set_option maxHeartbeats 400000 in
theorem ahead_grow (a b : It) (w : World) :
    Calls Tryd.prog 80 #[.agg #[.int .u64 a.1, .int .i64 a.2], .agg #[.int .u64 b.1, .int .i64 b.2]] w (fun e w' => e = .returned (.bool (ahead a b)) ∧ ∃ os, w' = grow w os) := by
  obtain ⟨k1, i1⟩ := a
  obtain ⟨k2, i2⟩ := b
  go_enter Tryd.func80, Tryd.ntmps80
  go_wp2
  all_goals
    go_ret
    refine ⟨ret_bool ?_, _, by rw [alloc_eq_grow, alloc_eq_grow, grow_grow]⟩
    try (simp [ahead, *]; done)

theorem grow_upd (w : World) (os : Array Obj) : Upd [] w (grow w os) := by
  refine ⟨rfl, rfl, rfl, by simp [grow], fun k hk _ => ?_⟩
  simp [grow, Array.getElem?_append_left hk]


set_option maxHeartbeats 4000000 in
theorem order_grow (a b : It) (w : World) :
    Calls Tryd.prog 85 #[.agg #[.int .u64 a.1, .int .i64 a.2], .agg #[.int .u64 b.1, .int .i64 b.2]] w (fun e w' => e = .returned (.int .i64 (cmpI a b)) ∧ ∃ q os', w' = grow (w.drewN q) os') := by
  obtain ⟨W2, hW2⟩ : ∃ W2 : World, W2 = (w.alloc (.cells #[.int .u64 a.1, .int .i64 a.2] 24)).alloc (.cells #[.int .u64 b.1, .int .i64 b.2] 24) := ⟨_, rfl⟩
  have hg2 : W2 = grow w #[.cells #[.int .u64 a.1, .int .i64 a.2] 24, .cells #[.int .u64 b.1, .int .i64 b.2] 24] := by rw [hW2, alloc_eq_grow, alloc_eq_grow, grow_grow]; rfl
  have hA : Blk W2 w.heap.size 24 [.int .u64 a.1, .int .i64 a.2] := by rw [hW2]; exact (heap_two w _ _).1
  have hB : Blk W2 (w.heap.size + 1) 24 [.int .u64 b.1, .int .i64 b.2] := by rw [hW2]; exact (heap_two w _ _).2
  have HW2 := Lib.hid hW2
  have HG2 := Lib.hid hg2
  have HA := Lib.hid hA
  have HB := Lib.hid hB
  clear hW2 hg2 hA hB
  go_enter Tryd.func85, Tryd.ntmps85
  go_wp2_with fail
  rw [← HW2.out]
  refine (ahead_grow a b W2).mono ?_
  rintro e w3 ⟨rfl, os, hw3⟩
  have HW3 := Lib.hid hw3
  have hu3 : Upd [] W2 w3 := by rw [hw3]; exact grow_upd _ _
  clear hw3
  cases h1 : ahead a b with
  | true =>
    have hc : Hid (cmpI a b = -1) := by unfold Hid cmpI; rw [if_pos h1]
    go_wp2
    go_ret
    exact ⟨by rw [hc.out]; rfl, 0, _, by rw [HW3.out, HG2.out, grow_grow]; rfl⟩
  | false =>
    have a3 := HA.out.upd hu3 (by simp)
    have b3 := HB.out.upd hu3 (by simp)
    have k0 := a3.cell (j := 0) rfl
    have k1 := a3.cell (j := 1) rfl
    have k2 := b3.cell (j := 0) rfl
    have k3 := b3.cell (j := 1) rfl
    have H1 := Lib.hid h1
    clear hu3 a3 b3 h1
    go_wp2_with fail
    refine (ahead_grow b a w3).mono ?_
    rintro e w4 ⟨rfl, os4, hw4⟩
    have HW4 := Lib.hid hw4
    clear hw4
    cases h2 : ahead b a with
    | true =>
      have hc : Hid (cmpI a b = 1) := by unfold Hid cmpI; rw [if_neg (by rw [H1.out]; simp), if_pos h2]
      go_wp2
      go_ret
      exact ⟨by rw [hc.out]; rfl, 0, _, by rw [HW4.out, HW3.out, HG2.out, grow_grow, grow_grow]; rfl⟩
    | false =>
      have hc : Hid (cmpI a b = 0) := by unfold Hid cmpI; rw [if_neg (by rw [H1.out]; simp), if_neg (by rw [h2]; simp)]
      go_wp2
      go_ret
      exact ⟨by rw [hc.out]; rfl, 0, _, by rw [HW4.out, HW3.out, HG2.out, grow_grow, grow_grow]; rfl⟩
theorem ltOf_cmpI (x y : It) : ltOf cmpI x y = ahead x y := by
  unfold ltOf cmpI
  cases h1 : ahead x y with
  | true => simp
  | false => cases h2 : ahead y x <;> simp
theorem swo_cmpI : SWO (ltOf cmpI) where
  irrefl x := by rw [ltOf_cmpI]; exact ahead_irrefl x
  trans x y z h1 h2 := by rw [ltOf_cmpI] at *; exact ahead_trans h1 h2
  ntrans x y z h1 h2 := by rw [ltOf_cmpI] at *; rw [ahead_no] at *; omega
end Go.Proofs.YtkepeolbpgnlbaaDoor

/-! HeapQ -/
namespace Go.Proofs.YtkepeolbpgnlbaaDoor
open Go.RowKit Go.Lib Go.Sort

theorem flatK_list (D : List It) : flatK itVs 2 D.toArray = (D.flatMap itVs).toArray := by
  have hl := flat_len itVs 2 itVs_len D
  apply Array.ext
  · simp [hl]
  · intro t h1 h2
    have ht : t < D.length * 2 := by simpa using h1
    have hd : t / 2 < D.length := by omega
    have hg := flat_get itVs 2 itVs_len D (t / 2) (t % 2) (by omega) _ (List.getElem?_eq_getElem hd)
    have e : t / 2 * 2 + t % 2 = t := by omega
    rw [e] at hg
    have h3 : (D.flatMap itVs)[t]? = some ((D.flatMap itVs)[t]'(by rw [hl]; exact ht)) := List.getElem?_eq_getElem _
    rw [h3] at hg
    have h4 : t % 2 < (itVs D[t / 2]).length := by rw [itVs_len]; omega
    rw [List.getElem?_eq_getElem h4, Option.some.injEq] at hg
    simp only [List.getElem_toArray]
    rw [hg]
    simp [flatK, hd, h4]

theorem row_holds {w : World} {g n cap : Nat} {D : List It} (h : Row w 24 2 g n cap (D.flatMap itVs)) : HoldsK itVs 2 w g 0 D.toArray := by
  unfold HoldsK
  rw [flatK_list]
  intro j hj
  have hj2 : j < (D.flatMap itVs).length := by simpa using hj
  refine ⟨?_, by rw [Nat.zero_add]; exact h.free j⟩
  rw [Nat.zero_add, h.cell (List.getElem?_eq_getElem hj2)]
  simp
  rw [List.getElem?_eq_getElem hj2]; rfl

theorem row_put {w : World} {g n cap : Nat} {A D : List It} (h : Row w 24 2 g n cap (A.flatMap itVs)) (hl : D.length = n) (m : Nat) (os : Array Obj) :
    Row (sortWorldK itVs 2 w g 0 m D.toArray os) 24 2 g n cap (D.flatMap itVs) ∧ Upd [g] w (sortWorldK itVs 2 w g 0 m D.toArray os) := by
  have hlt := h.lt
  obtain ⟨h1, cur, hg, h2, h3, h4, h5⟩ := h.parts
  have hfl := flat_len itVs 2 itVs_len D
  have hu1 : Upd [g] w (putRowK itVs 2 (Go.Sort.ahead w m) g 0 D.toArray) := by
    unfold putRowK
    refine ⟨rfl, rfl, rfl, by simp [Go.Sort.ahead], fun k hk hn => ?_⟩
    simp at hn
    simp [putRow, mapBlock, Go.Sort.ahead, Array.getElem?_modify]
    intro e; exact absurd e.symm hn
  have hu2 := grow_upd (putRowK itVs 2 (Go.Sort.ahead w m) g 0 D.toArray) os
  refine ⟨?_, hu1.trans hu2.nil⟩
  unfold sortWorldK
  refine Row.upd ?_ hu2 (by simp)
  have hb : (putRowK itVs 2 (Go.Sort.ahead w m) g 0 D.toArray).heap[g]? = some (.cells (putCells id 0 (flatK itVs 2 D.toArray) cur) 24 (0, 0)) := by
    unfold putRowK putRow mapBlock
    simp [Go.Sort.ahead, Array.getElem?_modify, hg, onCells]
  refine Row.mk' (by rw [hfl, hl]) hb h2 h3 (by simp [putCells, h4]) ?_
  rw [flatK_list]
  have hcn : n * 2 ≤ cap * 2 := by omega
  apply List.ext_getElem
  · simp [putCells, h4, hfl, hl]; omega
  · intro t g1 g2
    have g3 : t < D.length * 2 := by rw [← hfl]; exact g2
    simp [putCells, hfl, g3]
    done

theorem cmpLays (blk off size : Nat) (w : World) : CmpLays Tryd.prog 85 #[] itVs 2 cmpI blk off size w :=
  fun _ _ _ _ x y => order_grow x y _


set_option maxHeartbeats 1000000 in
theorem sort_items (g cap : Nat) (A : List It) (w : World) (h : Row w 24 2 g A.length cap (A.flatMap itVs)) (hsm : A.length ≤ 1000) :
    Calls Tryd.prog 82 #[.slice (some ⟨g, 0, none⟩) A.length cap, .func (.func 85) #[] #[]] w (fun e w' => e = .returned (.tuple #[]) ∧ ∃ D : List It, D.Perm A ∧ (∀ i j, i < j → j < D.length → Proofs.YtkepeolbpgnlbaaDoor.ahead (atI D j) (atI D i) = false) ∧ Row w' 24 2 g A.length cap (D.flatMap itVs) ∧ Upd [g] w w') := by
  have eg : ∀ args w, (callFunc 85 args).run Tryd.prog w = .ok (.enter 85 args) w := enters_of Tryd.func85 (by kernel_rfl) rfl
  have hcon := AnyQ.slices_SortFunc Tryd.laysSort 2 Tryd.isAgg24 Tryd.sizeOf24 itVs itVs_len (fun x v hv => by simp [itVs] at hv; rcases hv with rfl | rfl <;> rfl) cmpI swo_cmpI 85 #[] g 0 cap A.toArray w eg (cmpLays g 0 _ w) (row_holds h) h.lt (by simp; omega)
  change Calls Tryd.prog 82 _ _ _ at hcon
  refine hcon.mono ?_
  rintro e w' ⟨rfl, d', m, os, hp, hs, rfl⟩
  have hsz : d'.size = A.length := by have := hp.1; simpa using this
  have hD : d'.toList.length = A.length := by simpa using hsz
  have hput := row_put h hD m os
  refine ⟨rfl, d'.toList, ?_, ?_, hput.1, hput.2⟩
  · have := hp.2.2
    simpa [Array.extract_eq_self_of_le (Nat.le_of_eq hsz)] using this
  · intro i j hij hj
    have hj2 : j < d'.size := by simpa using hj
    have := hs i j (Nat.zero_le _) hij (by simpa [hsz] using hj2)
    rw [ltOf_cmpI] at this
    rw [atI_get _ j hj, atI_get _ i (by omega)]
    simpa [hj2, show i < d'.size by omega] using this
end Go.Proofs.YtkepeolbpgnlbaaDoor

/-! Told -/
namespace Go.Proofs.YtkepeolbpgnlbaaDoor
open Go.RowKit Go.Lib Go.Sort

/-- What All tells: the items in order, in an array of its own. -/
def Told (w : World) (L : List It) (S : List Nat) (e : Ending) (w' : World) : Prop :=
  ∃ ao cap, e = .returned (.slice ao L.length cap) ∧ RowO w' 24 2 ao L.length cap (L.flatMap itVs) ∧ (∀ c ∈ blkO ao, w.heap.size ≤ c) ∧ Upd S w w'

theorem sorted_eq {D L : List It} (hp : D.Perm L) (hL : Srt L) (hn : NdI L) (hs : ∀ i j, i < j → j < D.length → Proofs.YtkepeolbpgnlbaaDoor.ahead (atI D j) (atI D i) = false) : D = L := by
  refine srt_unique ?_ hL hp
  have hnD : NdI D := hn.perm hp.symm
  unfold Srt
  rw [List.pairwise_iff_getElem]
  intro i j hi hj hij
  have h1 := hs i j hij hj
  rw [atI_get D i hi, atI_get D j hj] at h1
  have hne : (D[i]).2 ≠ (D[j]).2 := by
    intro e
    have := atI_inj hnD hi hj (by rw [atI_get D i hi, atI_get D j hj]; exact e)
    omega
  exact ahead_not (fun e => hne e.symm) h1

theorem clone_items (ao : Option Addr) (cap : Nat) (A : List It) (w : World) (h : RowO w 24 2 ao A.length cap (A.flatMap itVs)) (hsm : A.length ≤ 1000) :
    Calls Tryd.prog 84 #[.slice ao A.length cap] w (fun e w' => ∃ ao' cap', e = .returned (.slice ao' A.length cap') ∧ RowO w' 24 2 ao' A.length cap' (A.flatMap itVs) ∧ (∀ c ∈ blkO ao', w.heap.size ≤ c) ∧ Upd [] w w') := by
  obtain ⟨i0, hi0, hz0, hz1, hz2⟩ := info_parts infoItem
  rcases h.cases with ⟨rfl, hn, hc, hx⟩ | ⟨g, rfl, hr⟩
  · have hcon := AnyE.slices_Clone_nil Tryd.laysClone A.length cap w
    change Calls Tryd.prog 84 _ _ _ at hcon
    refine hcon.mono ?_
    rintro e w' ⟨rfl, rfl⟩
    rw [hn, hx]
    exact ⟨none, 0, rfl, RowO.nil _ _ _, fun c hc => (by cases hc), Upd.refl _ _⟩
  · have hfl := flat_len itVs 2 itVs_len A
    have hcon := AnyE.slices_Clone Tryd.laysClone i0 _ 2 16 hi0 hz0 hz1 hz2 rfl (by omega) Tryd.sizeOf24 g 0 A.length cap (A.flatMap itVs) w hfl (by unfold maxLen; omega) (by omega)
      (fun j u hu => by rw [Nat.zero_add]; exact hr.cell hu) (flat_one A)
    change Calls Tryd.prog 84 _ _ _ at hcon
    refine hcon.mono ?_
    rintro e w' ⟨v', rfl, hown, hne, hbel⟩
    rcases hown.2 with ⟨h1, _⟩ | ⟨g', cap', cur, h1, h2, h3⟩
    · exact absurd h1 hne
    · refine ⟨some ⟨g', 0, none⟩, cap', by rw [h1], ⟨hown.1, .inr ⟨g', cap', cur, rfl, Nat.zero_le _, h3⟩⟩, fun c hc => by simp [blkO] at hc; omega, Upd.of_below hbel⟩

end Go.Proofs.YtkepeolbpgnlbaaDoor

/-! WOrd -/
namespace Go.Proofs.YtkepeolbpgnlbaaDoor
open Go.RowKit Go.Lib Go.Sort

set_option maxHeartbeats 4000000 in
theorem worder_grow (a b : It) (w : World) :
    Calls Tryd.prog 83 #[.agg #[.int .u64 a.1, .int .i64 a.2], .agg #[.int .u64 b.1, .int .i64 b.2]] w (fun e w' => e = .returned (.int .i64 (cmpI a b)) ∧ ∃ q os', w' = grow (w.drewN q) os') := by
  obtain ⟨W2, hW2⟩ : ∃ W2 : World, W2 = (w.alloc (.cells #[.int .u64 a.1, .int .i64 a.2] 24)).alloc (.cells #[.int .u64 b.1, .int .i64 b.2] 24) := ⟨_, rfl⟩
  have hg2 : W2 = grow w #[.cells #[.int .u64 a.1, .int .i64 a.2] 24, .cells #[.int .u64 b.1, .int .i64 b.2] 24] := by rw [hW2, alloc_eq_grow, alloc_eq_grow, grow_grow]; rfl
  have hA : Blk W2 w.heap.size 24 [.int .u64 a.1, .int .i64 a.2] := by rw [hW2]; exact (heap_two w _ _).1
  have hB : Blk W2 (w.heap.size + 1) 24 [.int .u64 b.1, .int .i64 b.2] := by rw [hW2]; exact (heap_two w _ _).2
  have HW2 := Lib.hid hW2
  have HG2 := Lib.hid hg2
  have HA := Lib.hid hA
  have HB := Lib.hid hB
  clear hW2 hg2 hA hB
  go_enter Tryd.func83, Tryd.ntmps83
  go_wp2_with fail
  rw [← HW2.out]
  refine (ahead_grow a b W2).mono ?_
  rintro e w3 ⟨rfl, os, hw3⟩
  have HW3 := Lib.hid hw3
  have hu3 : Upd [] W2 w3 := by rw [hw3]; exact grow_upd _ _
  clear hw3
  cases h1 : ahead a b with
  | true =>
    have hc : Hid (cmpI a b = -1) := by unfold Hid cmpI; rw [if_pos h1]
    go_wp2
    go_ret
    exact ⟨by rw [hc.out]; rfl, 0, _, by rw [HW3.out, HG2.out, grow_grow]; rfl⟩
  | false =>
    have a3 := HA.out.upd hu3 (by simp)
    have b3 := HB.out.upd hu3 (by simp)
    have k0 := a3.cell (j := 0) rfl
    have k1 := a3.cell (j := 1) rfl
    have k2 := b3.cell (j := 0) rfl
    have k3 := b3.cell (j := 1) rfl
    have H1 := Lib.hid h1
    clear hu3 a3 b3 h1
    go_wp2_with fail
    refine (ahead_grow b a w3).mono ?_
    rintro e w4 ⟨rfl, os4, hw4⟩
    have HW4 := Lib.hid hw4
    clear hw4
    cases h2 : ahead b a with
    | true =>
      have hc : Hid (cmpI a b = 1) := by unfold Hid cmpI; rw [if_neg (by rw [H1.out]; simp), if_pos h2]
      go_wp2
      go_ret
      exact ⟨by rw [hc.out]; rfl, 0, _, by rw [HW4.out, HW3.out, HG2.out, grow_grow, grow_grow]; rfl⟩
    | false =>
      have hc : Hid (cmpI a b = 0) := by unfold Hid cmpI; rw [if_neg (by rw [H1.out]; simp), if_neg (by rw [h2]; simp)]
      go_wp2
      go_ret
      exact ⟨by rw [hc.out]; rfl, 0, _, by rw [HW4.out, HW3.out, HG2.out, grow_grow, grow_grow]; rfl⟩
theorem wcmpLays (blk off size : Nat) (w : World) : CmpLays Tryd.prog 83 #[] itVs 2 cmpI blk off size w :=
  fun _ _ _ _ x y => worder_grow x y _


set_option maxHeartbeats 1000000 in
theorem wsort_items (g cap : Nat) (A : List It) (w : World) (h : Row w 24 2 g A.length cap (A.flatMap itVs)) (hsm : A.length ≤ 1000) :
    Calls Tryd.prog 82 #[.slice (some ⟨g, 0, none⟩) A.length cap, .func (.func 83) #[] #[]] w (fun e w' => e = .returned (.tuple #[]) ∧ ∃ D : List It, D.Perm A ∧ (∀ i j, i < j → j < D.length → Proofs.YtkepeolbpgnlbaaDoor.ahead (atI D j) (atI D i) = false) ∧ Row w' 24 2 g A.length cap (D.flatMap itVs) ∧ Upd [g] w w') := by
  have eg : ∀ args w, (callFunc 83 args).run Tryd.prog w = .ok (.enter 83 args) w := enters_of Tryd.func83 (by kernel_rfl) rfl
  have hcon := AnyQ.slices_SortFunc Tryd.laysSort 2 Tryd.isAgg24 Tryd.sizeOf24 itVs itVs_len (fun x v hv => by simp [itVs] at hv; rcases hv with rfl | rfl <;> rfl) cmpI swo_cmpI 83 #[] g 0 cap A.toArray w eg (wcmpLays g 0 _ w) (row_holds h) h.lt (by simp; omega)
  change Calls Tryd.prog 82 _ _ _ at hcon
  refine hcon.mono ?_
  rintro e w' ⟨rfl, d', m, os, hp, hs, rfl⟩
  have hsz : d'.size = A.length := by have := hp.1; simpa using this
  have hD : d'.toList.length = A.length := by simpa using hsz
  have hput := row_put h hD m os
  refine ⟨rfl, d'.toList, ?_, ?_, hput.1, hput.2⟩
  · have := hp.2.2
    simpa [Array.extract_eq_self_of_le (Nat.le_of_eq hsz)] using this
  · intro i j hij hj
    have hj2 : j < d'.size := by simpa using hj
    have := hs i j (Nat.zero_le _) hij (by simpa [hsz] using hj2)
    rw [ltOf_cmpI] at this
    rw [atI_get _ j hj, atI_get _ i (by omega)]
    simpa [hj2, show i < d'.size by omega] using this
end Go.Proofs.YtkepeolbpgnlbaaDoor

/-! HeapP -/
namespace Go.Proofs.YtkepeolbpgnlbaaDoor
open Go.RowKit

def SameAt (w : World) (n : Nat) (iv : Value) (wr : World) : Prop := ∃ i : Nat, iv = .int .i64 i ∧ i ≤ n ∧ Upd [] w wr


def SpoilAt (w : World) (ao : Option Addr) (n cap r : Nat) (iv : Value) (wr : World) : Prop :=
  ∃ (i : Nat) (xs : List Value), iv = .int .i64 i ∧ i ≤ n ∧ Upd (blkO ao) w wr ∧ RowO wr 24 2 ao n cap xs ∧ Blk wr r 24 [.int .u64 0, .int .i64 0]


end Go.Proofs.YtkepeolbpgnlbaaDoor
