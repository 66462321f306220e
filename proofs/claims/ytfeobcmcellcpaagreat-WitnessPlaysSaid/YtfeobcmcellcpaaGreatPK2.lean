/-
  Texts of this claim, joined: Ke, Kf. No condition.
-/
import Derived.Test.YtfeobcmcellcpaaGreatPK1
import Derived.Test.YtfeobcmcellcpaaGreatPOB
import Derived.Test.YtfeobcmcellcpaaGreatPFE
import Derived.Test.YtfeobcmcellcpaaGreatLaysF
import Derived.Shelf.SlSortCmp.WholeK
import Derived.Shelf.SlSortCmp.NoneTotal
import Derived.Shelf.SlSortCmp.InsertionK
set_option linter.unusedVariables false
set_option linter.unusedSimpArgs false
/-! Ke -/
namespace Go.Proofs.YtfeobcmcellcpaaGreat
open Go.RowKit Go.Lib Go.Sort

theorem growE_upd (w : World) (os : Array Obj) : Upd [] w (grow w os) := by
  refine ⟨rfl, rfl, rfl, by simp [grow], fun k hk _ => ?_⟩
  simp [grow, Array.getElem?_append_left hk]

set_option maxHeartbeats 400000 in
theorem ahead_growE (a b : It) (w : World) :
    Calls Tryz.prog 129 #[.agg #[.int .u64 a.1, .int .i64 a.2], .agg #[.int .u64 b.1, .int .i64 b.2]] w (fun e w' => e = .returned (.bool (ahead a b)) ∧ ∃ os, w' = grow w os) := by
  obtain ⟨k1, i1⟩ := a
  obtain ⟨k2, i2⟩ := b
  go_enter Tryz.func129, Tryz.ntmps129
  go_wp2
  all_goals
    go_ret
    refine ⟨ret_bool ?_, _, by rw [alloc_eq_grow, alloc_eq_grow, grow_grow]⟩
    try (simp [ahead, *]; done)

set_option maxHeartbeats 4000000 in
theorem order_growE (a b : It) (w : World) :
    Calls Tryz.prog 106 #[.agg #[.int .u64 a.1, .int .i64 a.2], .agg #[.int .u64 b.1, .int .i64 b.2]] w (fun e w' => e = .returned (.int .i64 (ordI a b)) ∧ ∃ q os', w' = grow (w.drewN q) os') := by
  obtain ⟨W2, hW2⟩ : ∃ W2 : World, W2 = (w.alloc (.cells #[.int .u64 a.1, .int .i64 a.2] 164)).alloc (.cells #[.int .u64 b.1, .int .i64 b.2] 164) := ⟨_, rfl⟩
  have hg2 : W2 = grow w #[.cells #[.int .u64 a.1, .int .i64 a.2] 164, .cells #[.int .u64 b.1, .int .i64 b.2] 164] := by rw [hW2, alloc_eq_grow, alloc_eq_grow, grow_grow]; rfl
  have hA : Blk W2 w.heap.size 164 [.int .u64 a.1, .int .i64 a.2] := by rw [hW2]; exact (heap_two w _ _).1
  have hB : Blk W2 (w.heap.size + 1) 164 [.int .u64 b.1, .int .i64 b.2] := by rw [hW2]; exact (heap_two w _ _).2
  have HW2 := Lib.hid hW2
  have HG2 := Lib.hid hg2
  have HA := Lib.hid hA
  have HB := Lib.hid hB
  obtain ⟨t, ht⟩ : ∃ t, ahead a b = t := ⟨_, rfl⟩
  have HAG := Lib.hid (ahead_growE a b W2)
  rw [ht] at HAG
  clear hW2 hg2 hA hB
  cases t with
  | true =>
    rw [show ordI a b = -1 by unfold ordI; rw [ht]; rfl]
    clear ht
    go_enter Tryz.func106, Tryz.ntmps106
    go_wp2_with fail
    rw [← HW2.out]
    refine (HAG.out).mono ?_
    rintro e w3 ⟨rfl, os, hw3⟩
    have HW3 := Lib.hid hw3
    clear hw3
    go_wp2_with fail
    go_ret
    exact ⟨rfl, 0, _, by rw [HW3.out, HG2.out, grow_grow]; rfl⟩
  | false =>
    obtain ⟨r, hr⟩ : ∃ r, ordI a b = r := ⟨_, rfl⟩
    have hre : r = if a = b then 0 else 1 := by rw [← hr]; unfold ordI; rw [ht]; simp
    rw [hr]
    clear hr ht
    have hre2 : r = if (a.1 = b.1 ∧ a.2 = b.2) then 0 else 1 := by rw [hre]; congr 1; rw [Prod.ext_iff]
    clear hre
    have HRE := Lib.hid hre2
    clear hre2
    by_cases h1 : a.1 = b.1
    · have t1 : (a.1 == b.1) = true := by simp [h1]
      by_cases h2 : a.2 = b.2
      · have t2 : (a.2 == b.2) = true := by simp [h2]
        have HR : Hid (r = 0) := by unfold Hid; rw [HRE.out, if_pos ⟨h1, h2⟩]
        rw [HR.out]
        clear h1 h2
        go_enter Tryz.func106, Tryz.ntmps106
        go_wp2_with fail
        rw [← HW2.out]
        refine (HAG.out).mono ?_
        rintro e w3 ⟨rfl, os, hw3⟩
        have HW3 := Lib.hid hw3
        have hu3 : Upd [] W2 w3 := by rw [hw3]; exact growE_upd _ _
        have x0 := (HA.out.upd hu3 (by simp)).cell (j := 0) rfl
        have x1 := (HA.out.upd hu3 (by simp)).cell (j := 1) rfl
        have y0 := (HB.out.upd hu3 (by simp)).cell (j := 0) rfl
        have y1 := (HB.out.upd hu3 (by simp)).cell (j := 1) rfl
        have lx := (HA.out.upd hu3 (by simp)).lt
        have ly := (HB.out.upd hu3 (by simp)).lt
        clear hw3 hu3
        go_wp2_with fail
        go_ret
        exact ⟨rfl, 0, _, by rw [HW3.out, HG2.out, grow_grow]; rfl⟩
      · have t2 : (a.2 == b.2) = false := by simp [h2]
        have HR : Hid (r = 1) := by unfold Hid; rw [HRE.out, if_neg (fun h => h2 h.2)]
        rw [HR.out]
        clear h1 h2
        go_enter Tryz.func106, Tryz.ntmps106
        go_wp2_with fail
        rw [← HW2.out]
        refine (HAG.out).mono ?_
        rintro e w3 ⟨rfl, os, hw3⟩
        have HW3 := Lib.hid hw3
        have hu3 : Upd [] W2 w3 := by rw [hw3]; exact growE_upd _ _
        have x0 := (HA.out.upd hu3 (by simp)).cell (j := 0) rfl
        have x1 := (HA.out.upd hu3 (by simp)).cell (j := 1) rfl
        have y0 := (HB.out.upd hu3 (by simp)).cell (j := 0) rfl
        have y1 := (HB.out.upd hu3 (by simp)).cell (j := 1) rfl
        have lx := (HA.out.upd hu3 (by simp)).lt
        have ly := (HB.out.upd hu3 (by simp)).lt
        clear hw3 hu3
        go_wp2_with fail
        go_ret
        exact ⟨rfl, 0, _, by rw [HW3.out, HG2.out, grow_grow]; rfl⟩
    · have t1 : (a.1 == b.1) = false := by simp [h1]
      have HR : Hid (r = 1) := by unfold Hid; rw [HRE.out, if_neg (fun h => h1 h.1)]
      rw [HR.out]
      clear h1
      go_enter Tryz.func106, Tryz.ntmps106
      go_wp2_with fail
      rw [← HW2.out]
      refine (HAG.out).mono ?_
      rintro e w3 ⟨rfl, os, hw3⟩
      have HW3 := Lib.hid hw3
      have hu3 : Upd [] W2 w3 := by rw [hw3]; exact growE_upd _ _
      have x0 := (HA.out.upd hu3 (by simp)).cell (j := 0) rfl
      have x1 := (HA.out.upd hu3 (by simp)).cell (j := 1) rfl
      have y0 := (HB.out.upd hu3 (by simp)).cell (j := 0) rfl
      have y1 := (HB.out.upd hu3 (by simp)).cell (j := 1) rfl
      have lx := (HA.out.upd hu3 (by simp)).lt
      have ly := (HB.out.upd hu3 (by simp)).lt
      clear hw3 hu3
      go_wp2_with fail
      go_ret
      exact ⟨rfl, 0, _, by rw [HW3.out, HG2.out, grow_grow]; rfl⟩
theorem ltOf_ordI (x y : It) : ltOf ordI x y = ahead x y := by
  unfold ltOf
  exact ordI_neg x y
theorem swo_ordI : SWO (ltOf ordI) where
  irrefl x := by rw [ltOf_ordI]; exact ahead_irrefl x
  trans x y z h1 h2 := by rw [ltOf_ordI] at *; exact ahead_trans h1 h2
  ntrans x y z h1 h2 := by rw [ltOf_ordI] at *; rw [ahead_no] at *; omega
theorem flatK_ent (D : List It) : flatK itVs 2 D.toArray = (D.flatMap itVs).toArray := by
  have hl := flat_len itVs 2 itVs_len D
  apply Array.ext
  · simp [hl]
  · intro t h1 h2
    have ht : t < D.length * 2 := by simpa using h1
    have hd : t / 2 < D.length := by omega
    have hg := flat_get itVs 2 itVs_len D (t / 2) (t % 2) (by omega) _ (List.getElem?_eq_getElem hd)
    have e : t / 2 * 2 + t % 2 = t := by omega
    rw [e] at hg
    have h3 : (D.flatMap itVs)[t]? = some ((D.flatMap itVs)[t]'(by rw [hl]; exact ht)) := List.getElem?_eq_getElem _
    rw [h3] at hg
    have h4 : t % 2 < (itVs D[t / 2]).length := by rw [itVs_len]; omega
    rw [List.getElem?_eq_getElem h4, Option.some.injEq] at hg
    simp only [List.getElem_toArray]
    rw [hg]
    simp [flatK, hd, h4]

theorem ent_holds {w : World} {g n cap : Nat} {D : List It} (h : Row w 164 2 g n cap (D.flatMap itVs)) : HoldsK itVs 2 w g 0 D.toArray := by
  unfold HoldsK
  rw [flatK_ent]
  intro j hj
  have hj2 : j < (D.flatMap itVs).length := by simpa using hj
  refine ⟨?_, by rw [Nat.zero_add]; exact h.free j⟩
  rw [Nat.zero_add, h.cell (List.getElem?_eq_getElem hj2)]
  simp
  rw [List.getElem?_eq_getElem hj2]; rfl

theorem ent_put {w : World} {g n cap : Nat} {A D : List It} (h : Row w 164 2 g n cap (A.flatMap itVs)) (hl : D.length = n) (m : Nat) (os : Array Obj) :
    Row (sortWorldK itVs 2 w g 0 m D.toArray os) 164 2 g n cap (D.flatMap itVs) ∧ Upd [g] w (sortWorldK itVs 2 w g 0 m D.toArray os) := by
  have hlt := h.lt
  obtain ⟨h1, cur, hg, h2, h3, h4, h5⟩ := h.parts
  have hfl := flat_len itVs 2 itVs_len D
  have hu1 : Upd [g] w (putRowK itVs 2 (Go.Sort.ahead w m) g 0 D.toArray) := by
    unfold putRowK
    refine ⟨rfl, rfl, rfl, by simp [Go.Sort.ahead], fun k hk hn => ?_⟩
    simp at hn
    simp [putRow, mapBlock, Go.Sort.ahead, Array.getElem?_modify]
    intro e; exact absurd e.symm hn
  have hu2 := growE_upd (putRowK itVs 2 (Go.Sort.ahead w m) g 0 D.toArray) os
  refine ⟨?_, hu1.trans hu2.nil⟩
  unfold sortWorldK
  refine Row.upd ?_ hu2 (by simp)
  have hb : (putRowK itVs 2 (Go.Sort.ahead w m) g 0 D.toArray).heap[g]? = some (.cells (putCells id 0 (flatK itVs 2 D.toArray) cur) 164 (0, 0)) := by
    unfold putRowK putRow mapBlock
    simp [Go.Sort.ahead, Array.getElem?_modify, hg, onCells]
  refine Row.mk' (by rw [hfl, hl]) hb h2 h3 (by simp [putCells, h4]) ?_
  rw [flatK_ent]
  have hcn : n * 2 ≤ cap * 2 := by omega
  apply List.ext_getElem
  · simp [putCells, h4, hfl, hl]; omega
  · intro t g1 g2
    have g3 : t < D.length * 2 := by rw [← hfl]; exact g2
    simp [putCells, hfl, g3]
    done

theorem ecmpLays (blk off size : Nat) (w : World) : CmpLays Tryz.prog 106 #[] itVs 2 ordI blk off size w :=
  fun _ _ _ _ x y => order_growE x y _


set_option maxHeartbeats 1000000 in
theorem esort_items (g cap : Nat) (A : List It) (w : World) (h : Row w 164 2 g A.length cap (A.flatMap itVs)) (hsm : A.length ≤ 1000) :
    Calls Tryz.prog 105 #[.slice (some ⟨g, 0, none⟩) A.length cap, .func (.func 106) #[] #[]] w (fun e w' => e = .returned (.tuple #[]) ∧ ∃ D : List It, D.Perm A ∧ (∀ i j, i < j → j < D.length → Proofs.YtfeobcmcellcpaaGreat.ahead (atI D j) (atI D i) = false) ∧ Row w' 164 2 g A.length cap (D.flatMap itVs) ∧ Upd [g] w w') := by
  have eg : ∀ args w, (callFunc 106 args).run Tryz.prog w = .ok (.enter 106 args) w := enters_of Tryz.func106 (by kernel_rfl) rfl
  have hcon := AnyQ.slices_SortFunc Tryz.laysSort 2 Tryz.isAgg164 Tryz.sizeOf164 itVs itVs_len (fun x v hv => by simp [itVs] at hv; rcases hv with rfl | rfl <;> rfl) ordI swo_ordI 106 #[] g 0 cap A.toArray w eg (ecmpLays g 0 _ w) (ent_holds h) h.lt (by simp; omega)
  change Calls Tryz.prog 105 _ _ _ at hcon
  refine hcon.mono ?_
  rintro e w' ⟨rfl, d', m, os, hp, hs, rfl⟩
  have hsz : d'.size = A.length := by have := hp.1; simpa using this
  have hD : d'.toList.length = A.length := by simpa using hsz
  have hput := ent_put h hD m os
  refine ⟨rfl, d'.toList, ?_, ?_, hput.1, hput.2⟩
  · have := hp.2.2
    simpa [Array.extract_eq_self_of_le (Nat.le_of_eq hsz)] using this
  · intro i j hij hj
    have hj2 : j < d'.size := by simpa using hj
    have := hs i j (Nat.zero_le _) hij (by simpa [hsz] using hj2)
    rw [ltOf_ordI] at this
    rw [atI_get _ j hj, atI_get _ i (by omega)]
    simpa [hj2, show i < d'.size by omega] using this
theorem sortedE_eq {D L : List It} (hp : D.Perm L) (hL : Srt L) (hn : NdI L) (hs : ∀ i j, i < j → j < D.length → Proofs.YtfeobcmcellcpaaGreat.ahead (atI D j) (atI D i) = false) : D = L := by
  refine srt_unique ?_ hL hp
  have hnD : NdI D := hn.perm hp.symm
  unfold Srt
  rw [List.pairwise_iff_getElem]
  intro i j hi hj hij
  have h1 := hs i j hij hj
  rw [atI_get D i hi, atI_get D j hj] at h1
  have hne : (D[i]).2 ≠ (D[j]).2 := by
    intro e
    have := atI_inj hnD hi hj (by rw [atI_get D i hi, atI_get D j hj]; exact e)
    omega
  exact ahead_not (fun e => hne e.symm) h1
end Go.Proofs.YtfeobcmcellcpaaGreat

/-! Kf -/
namespace Go.Proofs.YtfeobcmcellcpaaGreat
open Go.RowKit Go.Lib Go.Sort

theorem hasI_noE {L : List It} {id : Int} (h : ∀ y ∈ L, y.2 ≠ id) : hasI L id = false := by
  cases e : hasI L id with
  | false => rfl
  | true =>
    exfalso
    unfold hasI at e
    rw [List.any_eq_true] at e
    obtain ⟨y, hy, h2⟩ := e
    exact h y hy (by simpa using h2)
theorem starts_fold : ∀ (F : List Fl) (L : List It), F.Pairwise (fun a b => a.id < b.id) → Srt L → NdI L → (∀ f ∈ F, ∀ y ∈ L, y.2 ≠ f.id) →
    Srt (F.foldl startStep L) ∧ NdI (F.foldl startStep L) ∧ (F.foldl startStep L).Perm (L ++ (F.filter nonE).map stI)
  | [], L, _, h1, h2, _ => ⟨h1, h2, by simp⟩
  | f :: F, L, hp, h1, h2, h3 => by
    rw [List.pairwise_cons] at hp
    have hno := hasI_noE (h3 f List.mem_cons_self)
    rw [List.foldl_cons, List.filter_cons]
    by_cases hn : nonE f = true
    · have e : startStep L f = insI ((f.start : Int), f.id) L := by unfold startStep; rw [if_pos hn, hno]; rfl
      rw [e, if_pos hn]
      obtain ⟨k1, k2, k3⟩ := starts_fold F (insI ((f.start : Int), f.id) L) hp.2 (insI_srt h1 (h3 f List.mem_cons_self)) (insI_nd h2 hno) (fun g hg y hy => by
        rcases List.mem_cons.1 ((insI_perm _ _).mem_iff.1 hy) with rfl | hy
        · have := hp.1 g hg; show f.id ≠ g.id; omega
        · exact h3 g (List.mem_cons_of_mem _ hg) y hy)
      refine ⟨k1, k2, k3.trans ?_⟩
      rw [List.map_cons]
      exact ((insI_perm _ L).append_right _).trans (List.perm_middle.symm)
    · have e : startStep L f = L := by unfold startStep; rw [if_neg hn]
      rw [e, if_neg hn]
      exact starts_fold F L hp.2 h1 h2 (fun g hg y hy => h3 g (List.mem_cons_of_mem _ hg) y hy)
theorem starts_ok {F : List Fl} (hp : F.Pairwise (fun a b => a.id < b.id)) : Srt (startsF F) ∧ NdI (startsF F) ∧ (startsF F).Perm ((F.filter nonE).map stI) := by
  have := starts_fold F [] hp List.Pairwise.nil (by unfold NdI; simp) (fun _ _ y hy => by cases hy)
  exact this
def StsAt (w : World) (L : List It) (ov iv : Value) (wr : World) : Prop := ∃ (i : Nat) (ao : Option Addr) (cap : Nat), iv = .int .i64 i ∧ ov = .slice ao i cap ∧ i ≤ L.length ∧ RowO wr 74 2 ao i cap ((L.take i).flatMap itVs) ∧ (∀ c ∈ blkO ao, w.heap.size ≤ c) ∧ Upd [] w wr
theorem sts_step {w wr v3 w7 : World} {L : List It} {i : Nat} {ao ao' : Option Addr} {cap' : Nat} {x : It} (hx : L[i]? = some x) (hn : ∀ c ∈ blkO ao, w.heap.size ≤ c) (hU : Upd [] w wr) (hQ : Upd [] wr v3) (hA : Apped v3 74 2 ao (i + 1) ((L.take i).flatMap itVs ++ itVs x) ao' cap' w7) :
    StsAt w L (.slice ao' (i + 1) cap') (.int .i64 ((i : Int) + 1)) w7 := by
  have h1 := hU.size
  have h2 := hQ.size
  refine ⟨i + 1, ao', cap', by congr 1, rfl, (List.getElem?_eq_some_iff.1 hx).1, ?_, fun c hc => ?_, (hU.trans hQ).then hA.upd (fun _ _ h => h) (fun a ha hm => by have := hn a hm; omega)⟩
  · have := hA.row
    rw [List.take_add_one, hx, List.flatMap_append]
    simpa using this
  · rcases hA.at_ c hc with h | h
    · exact hn c h
    · omega
theorem sts_bd {i n : Nat} (h : i < n) (hn : n ≤ 1000) : i + 1 ≤ maxLen ∧ (i + 1) * 16 ≤ 140737488355328 := ⟨by unfold maxLen; omega, by omega⟩
theorem sts_ms {i n : Nat} (h : i < n) : n - (intOf (.int .i64 ((i : Int) + 1))).toNat < n - (intOf (.int .i64 (i : Int))).toNat := by simp [intOf]; omega

set_option maxRecDepth 100000 in
set_option maxHeartbeats 4000000 in
theorem sstarts_any {W w : World} {sb : Nat} {S : Sf} {G : List Nat} (h : PG W sb S G w) (hlen : S.F.length ≤ 1000) : Calls Tryz.prog 68 #[.pointer (some ⟨sb, 0, none⟩)] w (Told w (startsF S.F) []) := by
  obtain ⟨fb, Z, hp, hperm, hsrt, -⟩ := h
  have hZl : Z.length ≤ 1000 := by have := hperm.length_eq; rw [List.length_map] at this; omega
  have HEN := Lib.hid (hp.entries hZl)
  obtain ⟨hs1, hs2, hs3⟩ := starts_ok hsrt
  have HS1 := Lib.hid hs1
  have HS2 := Lib.hid hs2
  have HPM : Hid ((entL Z).Perm (startsF S.F)) := (entL_perm hperm).trans hs3.symm
  have HZL := Lib.hid hZl
  clear hp hperm hsrt hs1 hs2 hs3 hZl
  go_enter Tryz.func68, Tryz.ntmps68
  go_wp2_with fail
  refine HEN.out.mono ?_
  rintro e w2 ⟨Zd, ao, cap, rfl, hrow, hpz, hnew, hu⟩
  have HPA : Hid ((entL Zd).Perm (startsF S.F)) := (entL_perm2 hpz).trans HPM.out
  have HU := Lib.hid hu
  obtain ⟨n, hn⟩ : ∃ y, (entL Zd).length = y := ⟨_, rfl⟩
  have HN := Lib.hid hn
  have HLN : Hid ((startsF S.F).length = n) := by unfold Hid; rw [← HPA.out.length_eq]; exact hn
  have hn1000 : n ≤ 1000 := by rw [← hn]; exact Nat.le_trans (entL_le Zd) (by rw [hpz.length_eq]; exact HZL.out)
  have HNEW := Lib.hid hnew
  rw [hn] at hrow ⊢
  clear hpz hu hn hnew HEN HPM
  rcases hrow.cases with ⟨rfl, rfl, rfl, -⟩ | ⟨g, rfl, hr⟩
  · have hcon := AnyF.slices_SortFunc_none { Tryz.laysSort with } none 0 (.func (.func 106) #[] #[]) w2
    change Calls Tryz.prog 105 _ _ _ at hcon
    have HCON := Lib.hid hcon
    have HL0 : Hid (startsF S.F = []) := List.eq_nil_of_length_eq_zero HLN.out
    clear hcon hrow
    go_wp2_with fail
    refine HCON.out.mono ?_
    rintro e w3 ⟨rfl, rfl⟩
    go_wp2_with fail
    go_loopw [4, 13] (fun ov iv wr => StsAt w [] ov iv wr) (fun _ iv _ => 0 - (intOf iv).toNat)
    case atStart => exact ⟨0, none, 0, rfl, rfl, Nat.zero_le _, RowO.nil _ _ _, fun c hc => (by cases hc), HU.out⟩
    case round =>
      obtain ⟨i, ao9, cap9, rfl, rfl, hi, hrow9, hnew9, hU9⟩ := hrel
      obtain rfl : i = 0 := by simpa using hi
      have HR9 := Lib.hid hrow9
      have HN9 := Lib.hid hnew9
      have HU9 := Lib.hid hU9
      clear hrow9 hnew9 hU9
      go_wp2
      go_ret
      rw [HL0.out]
      exact ⟨ao9, cap9, rfl, HR9.out, HN9.out, HU9.out⟩
  · have hr2 : Row w2 164 2 g (entL Zd).length cap ((entL Zd).flatMap itVs) := by rw [HN.out]; exact hr
    have hso := esort_items g cap (entL Zd) w2 hr2 (by rw [HN.out]; exact hn1000)
    rw [HN.out] at hso
    have HSO := Lib.hid hso
    have HGN : Hid (w.heap.size ≤ g) := HNEW.out g (by simp [blkO])
    clear hr hr2 hso hrow
    go_wp2_with fail
    refine HSO.out.mono ?_
    rintro e w3 ⟨rfl, D, hpD, hsD, hrowD, hU3⟩
    have hDL : D = startsF S.F := sortedE_eq (hpD.trans HPA.out) HS1.out HS2.out hsD
    rw [hDL] at hrowD
    have HRD := Lib.hid hrowD
    have HU3 : Hid (Upd [] w w3) := HU.out.then hU3 (fun _ _ h => h) (fun i hi hm => by have := HGN.out; simp only [List.mem_cons, List.not_mem_nil, or_false] at hm; omega)
    clear hpD hsD hrowD hU3 hDL
    go_wp2_with fail
    go_loopw [4, 13] (fun ov iv wr => StsAt w3 (startsF S.F) ov iv wr) (fun _ iv _ => n - (intOf iv).toNat)
    case atStart => exact ⟨0, none, 0, rfl, rfl, Nat.zero_le _, by rw [List.take_zero]; exact RowO.nil _ _ _, fun c hc => (by cases hc), Upd.refl _ _⟩
    case round =>
      obtain ⟨i, ao9, cap9, rfl, rfl, hi, hrow9, hnew9, hU9⟩ := hrel
      rw [HLN.out] at hi
      have HR9 := Lib.hid hrow9
      have HN9 := Lib.hid hnew9
      have HU9 := Lib.hid hU9
      clear hrow9 hnew9 hU9
      by_cases hlt : i < n
      · have t1 : decide (i < n) = true := by simp [hlt]
        have b1 : (i : Int) < (n : Int) := by omega
        have fin : i + 1 ≤ 9223372036854775807 := by omega
        obtain ⟨x, hx⟩ : ∃ x, (startsF S.F)[i]? = some x := ⟨_, List.getElem?_eq_getElem (by rw [HLN.out]; exact hlt)⟩
        obtain ⟨x0, x1⟩ := x
        have hrw := HRD.out.upd HU9.out (by simp)
        have c0 : wr.cell? ⟨g, i * 2, none⟩ = some (.int .u64 x0) := hrw.cell (by have := flat_get itVs 2 itVs_len (startsF S.F) i 0 (by omega) _ hx; rw [Nat.add_zero] at this; rw [this]; rfl)
        have c1 : wr.cell? ⟨g, i * 2 + 1, none⟩ = some (.int .i64 x1) := hrw.cell (by have := flat_get itVs 2 itVs_len (startsF S.F) i 1 (by omega) _ hx; rw [this]; rfl)
        have lg := hrw.lt
        have HX := Lib.hid hx
        clear hx hrw
        obtain ⟨i0, hi0, hz0, hz1, hz2⟩ := info_parts infoItem
        have HBD : Hid (i + 1 ≤ maxLen ∧ (i + 1) * 16 ≤ 140737488355328) := sts_bd hlt hn1000
        have HMS : Hid (n - (intOf (.int .i64 ((i : Int) + 1))).toNat < n - (intOf (.int .i64 (i : Int))).toNat) := sts_ms hlt
        go_upto_region 7 with (fail)
        obtain ⟨w4, hw4⟩ : ∃ y, wr.alloc (.cells #[.int .u64 x0, .int .i64 x1] 164) = y := ⟨_, rfl⟩
        have u4 : Upd [] wr w4 := by rw [← hw4]; exact (Upd.refl [] wr).alloc _
        obtain ⟨be, hbe⟩ : ∃ y, wr.heap.size = y := ⟨_, rfl⟩
        have hb4 : Blk w4 be 164 [.int .u64 x0, .int .i64 x1] := by rw [← hw4, ← hbe]; exact Blk.new wr 164 [.int .u64 x0, .int .i64 x1]
        rw [hw4, hbe]
        clear hw4 hbe c0 c1 lg
        have c0 := hb4.cell (j := 0) rfl
        have c1 := hb4.cell (j := 1) rfl
        have lg := hb4.lt
        obtain ⟨v3, hv3⟩ : ∃ y, w4.alloc (.cells #[.int .u64 x0, .int .i64 x1] 74) = y := ⟨_, rfl⟩
        have q3 : Upd [] w4 v3 := by rw [← hv3]; exact (Upd.refl [] w4).alloc _
        have HQ : Hid (Upd [] wr v3) := u4.trans q3
        have HSRC : Hid (Src v3 2 (some ⟨w4.heap.size, 0, none⟩) 1 (itVs (x0, x1))) := by unfold Hid; rw [← hv3]; exact one_src w4 74 (itVs (x0, x1)) (by intro u hu; simp only [itVs, List.mem_cons, List.not_mem_nil, or_false] at hu; rcases hu with rfl | rfl <;> rfl) 2 rfl
        have HRW := Lib.hid (HR9.out.upd HQ.out (by simp))
        clear q3 u4 hb4
        go_wp2_with (at_builtin; (refine wpList_app2 _ (by rfl) _ _ _ (by rfl) 74 i0 _ 2 16 underlyingItems hi0 hz0 hz1 hz2 rfl (by omega) ao9 i cap9 (((startsF S.F).take i).flatMap itVs) (by rfl) HRW.out (some ⟨w4.heap.size, 0, none⟩) 1 1 (itVs (x0, x1)) (by rfl) HSRC.out HBD.out.1 HBD.out.2 ?_); (intro ao3 cap3 w7 hA3; have HA3 := Lib.hid hA3; clear hA3))
        exact ⟨sts_step HX.out HN9.out HU9.out HQ.out HA3.out, HMS.out⟩
      · have t1 : decide (i < n) = false := by simp; omega
        have hin : i = n := by omega
        subst hin
        go_wp2
        go_ret
        refine ⟨ao9, cap9, by rw [HLN.out]; rfl, ?_, fun c hc => Nat.le_trans HU3.out.size (HN9.out c hc), HU3.out.trans HU9.out⟩
        have := HR9.out
        rw [List.take_of_length_le (by rw [HLN.out]; exact Nat.le_refl _)] at this
        rw [HLN.out]
        exact this
theorem mstarts_any {W w : World} {mb : Nat} {c : Cf} {m : Ms} {G : List Nat} (h : MG W mb c m G w) : Calls Tryz.prog 35 #[.pointer (some ⟨mb, 0, none⟩)] w (Told w (startsF m.S.F) []) := by
  have hok := h.ok
  obtain ⟨sb, lb, M, GS, h, -⟩ := h
  obtain ⟨-, -, -, c5, -, -, lm⟩ := h.cells
  have HS : Hid (Calls Tryz.prog 68 #[.pointer (some ⟨sb, 0, none⟩)] w (Told w (startsF m.S.F) [])) := sstarts_any h.s (Nat.le_trans hok.small (by decide))
  clear h hok
  go_enter Tryz.func35, Tryz.ntmps35
  go_wp2_with fail
  refine HS.out.mono ?_
  rintro e w3 ⟨ao, cap, rfl, h1, h2, h3⟩
  have HSO2 := Lib.hid (show Told w (startsF m.S.F) [] (.returned (.slice ao (startsF m.S.F).length cap)) w3 from ⟨ao, cap, rfl, h1, h2, h3⟩)
  clear h1 h2 h3
  go_wp2_with fail
  go_ret
  exact HSO2.out
end Go.Proofs.YtfeobcmcellcpaaGreat
