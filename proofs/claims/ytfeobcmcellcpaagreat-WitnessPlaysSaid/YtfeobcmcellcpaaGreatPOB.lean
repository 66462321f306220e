/-
  Texts of this claim, joined: Og, Oh. No condition.
-/
import Derived.Test.YtfeobcmcellcpaaGreatPOA
set_option linter.unusedVariables false
set_option linter.unusedSimpArgs false
/-! Og -/
namespace Go.Proofs.YtfeobcmcellcpaaGreat
open Go.RowKit

def ordI (a b : It) : Int := if ahead a b = true then -1 else if a = b then 0 else 1
theorem ordI_neg (a b : It) : decide (ordI a b < 0) = ahead a b := by
  unfold ordI
  cases ahead a b with
  | true => rfl
  | false => simp only [Bool.false_eq_true, if_false]; split <;> rfl

set_option maxHeartbeats 2000000 in
theorem order_any (a b : It) (w : World) : Calls Tryz.prog 106 #[.agg #[.int .u64 a.1, .int .i64 a.2], .agg #[.int .u64 b.1, .int .i64 b.2]] w (RetUpd [] w (.int .i64 (ordI a b))) := by
  have HA := Lib.hid (fun w' => ahead_any a b w')
  obtain ⟨t, ht⟩ : ∃ t, ahead a b = t := ⟨_, rfl⟩
  rw [ht] at HA
  have HU : Hid (Upd [] w ((w.alloc (.cells #[.int .u64 a.1, .int .i64 a.2] 164)).alloc (.cells #[.int .u64 b.1, .int .i64 b.2] 164))) := ((Upd.refl [] w).alloc _).alloc _
  have ha : Blk ((w.alloc (.cells #[.int .u64 a.1, .int .i64 a.2] 164)).alloc (.cells #[.int .u64 b.1, .int .i64 b.2] 164)) w.heap.size 164 [.int .u64 a.1, .int .i64 a.2] := (Blk.new w 164 [.int .u64 a.1, .int .i64 a.2]).alloc _
  have hb : Blk ((w.alloc (.cells #[.int .u64 a.1, .int .i64 a.2] 164)).alloc (.cells #[.int .u64 b.1, .int .i64 b.2] 164)) (w.heap.size + 1) 164 [.int .u64 b.1, .int .i64 b.2] := by
    have := Blk.new (w.alloc (.cells #[.int .u64 a.1, .int .i64 a.2] 164)) 164 [.int .u64 b.1, .int .i64 b.2]
    simpa using this
  have HBA := Lib.hid ha
  have HBB := Lib.hid hb
  clear ha hb
  cases t with
  | true =>
    rw [show ordI a b = -1 by unfold ordI; rw [ht]; rfl]
    clear ht
    go_enter Tryz.func106, Tryz.ntmps106
    go_wp2_with fail
    refine (HA.out _).mono ?_
    rintro e w2 ⟨rfl, hu⟩
    have HU2 := Lib.hid hu
    clear hu
    go_wp2_with fail
    go_ret
    exact ⟨rfl, HU.out.trans HU2.out⟩
  | false =>
    obtain ⟨r, hr⟩ : ∃ r, ordI a b = r := ⟨_, rfl⟩
    have hre : r = if a = b then 0 else 1 := by rw [← hr]; unfold ordI; rw [ht]; simp
    rw [hr]
    clear hr ht
    have hre2 : r = if (a.1 = b.1 ∧ a.2 = b.2) then 0 else 1 := by rw [hre]; congr 1; rw [Prod.ext_iff]
    clear hre
    have HRE := Lib.hid hre2
    clear hre2
    by_cases h1 : a.1 = b.1
    · have t1 : (a.1 == b.1) = true := by simp [h1]
      by_cases h2 : a.2 = b.2
      · have t2 : (a.2 == b.2) = true := by simp [h2]
        have HR : Hid (r = 0) := by unfold Hid; rw [HRE.out, if_pos ⟨h1, h2⟩]
        rw [HR.out]
        clear h1 h2
        go_enter Tryz.func106, Tryz.ntmps106
        go_wp2_with fail
        refine (HA.out _).mono ?_
        rintro e w2 ⟨rfl, hu⟩
        have HU2 := Lib.hid hu
        have x0 := (HBA.out.upd hu (by simp)).cell (j := 0) rfl
        have x1 := (HBA.out.upd hu (by simp)).cell (j := 1) rfl
        have y0 := (HBB.out.upd hu (by simp)).cell (j := 0) rfl
        have y1 := (HBB.out.upd hu (by simp)).cell (j := 1) rfl
        have lx := (HBA.out.upd hu (by simp)).lt
        have ly := (HBB.out.upd hu (by simp)).lt
        clear hu
        go_wp2_with fail
        go_ret
        exact ⟨rfl, HU.out.trans HU2.out⟩
      · have t2 : (a.2 == b.2) = false := by simp [h2]
        have HR : Hid (r = 1) := by unfold Hid; rw [HRE.out, if_neg (fun h => h2 h.2)]
        rw [HR.out]
        clear h1 h2
        go_enter Tryz.func106, Tryz.ntmps106
        go_wp2_with fail
        refine (HA.out _).mono ?_
        rintro e w2 ⟨rfl, hu⟩
        have HU2 := Lib.hid hu
        have x0 := (HBA.out.upd hu (by simp)).cell (j := 0) rfl
        have x1 := (HBA.out.upd hu (by simp)).cell (j := 1) rfl
        have y0 := (HBB.out.upd hu (by simp)).cell (j := 0) rfl
        have y1 := (HBB.out.upd hu (by simp)).cell (j := 1) rfl
        have lx := (HBA.out.upd hu (by simp)).lt
        have ly := (HBB.out.upd hu (by simp)).lt
        clear hu
        go_wp2_with fail
        go_ret
        exact ⟨rfl, HU.out.trans HU2.out⟩
    · have t1 : (a.1 == b.1) = false := by simp [h1]
      have HR : Hid (r = 1) := by unfold Hid; rw [HRE.out, if_neg (fun h => h1 h.1)]
      rw [HR.out]
      clear h1
      go_enter Tryz.func106, Tryz.ntmps106
      go_wp2_with fail
      refine (HA.out _).mono ?_
      rintro e w2 ⟨rfl, hu⟩
      have HU2 := Lib.hid hu
      have x0 := (HBA.out.upd hu (by simp)).cell (j := 0) rfl
      have x1 := (HBA.out.upd hu (by simp)).cell (j := 1) rfl
      have y0 := (HBB.out.upd hu (by simp)).cell (j := 0) rfl
      have y1 := (HBB.out.upd hu (by simp)).cell (j := 1) rfl
      have lx := (HBA.out.upd hu (by simp)).lt
      have ly := (HBB.out.upd hu (by simp)).lt
      clear hu
      go_wp2_with fail
      go_ret
      exact ⟨rfl, HU.out.trans HU2.out⟩
/-! ### MinFunc -/
def MinAt (w : World) (L : List It) (bz bm : Nat) (iv : Value) (wr : World) : Prop := ∃ j : Nat, iv = .int .i64 (j : Nat) ∧ 1 ≤ j ∧ j ≤ L.length ∧ Blk wr bm 164 (itVs (minTo L (j - 1))) ∧ Blk wr bz 164 [.int .u64 0, .int .i64 0] ∧ Upd [] w wr

set_option maxRecDepth 100000 in
set_option maxHeartbeats 8000000 in
theorem minf_any {w : World} {ao : Option Addr} {n cap : Nat} {L : List It} (h : RowO w 164 2 ao n cap (L.flatMap itVs)) (hn : L.length = n) (h0 : 0 < n) (hs : n ≤ 1000) :
    Calls Tryz.prog 140 #[.slice ao n cap, .func (.func 106) #[] #[]] w (RetUpd [] w (.agg #[.int .u64 (minTo L (n - 1)).1, .int .i64 (minTo L (n - 1)).2])) := by
  have H := Lib.hid h
  have HN := Lib.hid hn
  have HCELL : Hid (∀ w', Upd [] w w' → ∀ i x, L[i]? = some x → ∃ g, ao = some ⟨g, 0, none⟩ ∧ g < w'.heap.size ∧ w'.cell? ⟨g, i * 2, none⟩ = some (.int .u64 x.1) ∧ w'.cell? ⟨g, i * 2 + 1, none⟩ = some (.int .i64 x.2)) := fun w' hu i x hx => by
    have hil := (List.getElem?_eq_some_iff.1 hx).1
    obtain ⟨g, hg, hr⟩ := (h.upd hu (by simp)).row (by omega)
    refine ⟨g, hg, hr.lt, hr.cell ?_, hr.cell ?_⟩
    · have := flat_get itVs 2 itVs_len L i 0 (by omega) x hx
      rw [Nat.add_zero] at this; rw [this]; rfl
    · rw [flat_get itVs 2 itVs_len L i 1 (by omega) x hx]; rfl
  obtain ⟨x0, hx0⟩ : ∃ x, L[0]? = some x := ⟨_, List.getElem?_eq_getElem (by omega)⟩
  obtain ⟨g, rfl, lg, c0, c1⟩ := HCELL.out w (Upd.refl _ _) 0 x0 hx0
  rw [Nat.zero_mul] at c0 c1
  rw [Nat.zero_add] at c1
  have hm0 : minTo L 0 = x0 := by show L.getD 0 (0, 0) = _; rw [List.getD_eq_getElem?_getD, hx0]; rfl
  have HM0 := Lib.hid hm0
  have b0 : (0 : Int) < (n : Int) := by omega
  have t1 : decide (n < 1) = false := by simp; omega
  have t2 : decide ((n : Int) < 1) = false := by simp; omega
  clear h hn hx0 hm0
  go_enter Tryz.func140, Tryz.ntmps140
  go_wp2_with fail
  have u2 : Upd [] w ((w.alloc (.cells #[.int .u64 0, .int .i64 0] 164)).alloc (.cells #[.int .u64 x0.1, .int .i64 x0.2] 164)) := ((Upd.refl [] w).alloc _).alloc _
  have bz2 : Blk ((w.alloc (.cells #[.int .u64 0, .int .i64 0] 164)).alloc (.cells #[.int .u64 x0.1, .int .i64 x0.2] 164)) w.heap.size 164 [.int .u64 0, .int .i64 0] := (Blk.new w 164 [.int .u64 0, .int .i64 0]).alloc _
  have bm2 : Blk ((w.alloc (.cells #[.int .u64 0, .int .i64 0] 164)).alloc (.cells #[.int .u64 x0.1, .int .i64 x0.2] 164)) (w.heap.size + 1) 164 [.int .u64 x0.1, .int .i64 x0.2] := by
    have := Blk.new (w.alloc (.cells #[.int .u64 0, .int .i64 0] 164)) 164 [.int .u64 x0.1, .int .i64 x0.2]
    simpa using this
  obtain ⟨w2, hw2⟩ : ∃ y, (w.alloc (.cells #[.int .u64 0, .int .i64 0] 164)).alloc (.cells #[.int .u64 x0.1, .int .i64 x0.2] 164) = y := ⟨_, rfl⟩
  obtain ⟨bm, hbm⟩ : ∃ y, w.heap.size + 1 = y := ⟨_, rfl⟩
  obtain ⟨bz, hbz⟩ : ∃ y, w.heap.size = y := ⟨_, rfl⟩
  rw [hw2] at u2 bz2 bm2
  rw [hbm] at bm2
  rw [hbz] at bz2
  have HBM := Lib.hid hbm
  have HBZ := Lib.hid hbz
  have HS : Hid (MinAt w L bz bm (.int .i64 1) w2) := ⟨1, rfl, Nat.le_refl _, by rw [HN.out]; exact h0, by rw [show 1 - 1 = 0 from rfl, HM0.out]; exact bm2, bz2, u2⟩
  rw [hw2, hbm, hbz]
  clear u2 bz2 bm2 hw2 hbm hbz c0 c1 lg t1 t2 b0 HM0
  go_loopw [6] (fun iv wr => MinAt w L bz bm iv wr) (fun iv _ => n - (intOf iv).toNat)
  case atStart => exact HS.out
  case round =>
    obtain ⟨j, rfl, hj1, hj, hB, hZ, hU⟩ := hrel
    rw [HN.out] at hj
    have HB := Lib.hid hB
    have HZ := Lib.hid hZ
    have HU := Lib.hid hU
    obtain ⟨m, hm⟩ : ∃ m, minTo L (j - 1) = m := ⟨_, rfl⟩
    rw [hm] at hB HB
    have HM := Lib.hid hm
    have y0 := hB.cell (j := 0) rfl
    have y1 := hB.cell (j := 1) rfl
    have f0 := hB.free 0
    have f1 := hB.free 1
    have ly := hB.lt
    clear hB hZ hU hm
    by_cases hlt : j < n
    · have t1 : decide (j < n) = true := by simp [hlt]
      have b1 : (j : Int) < (n : Int) := by omega
      have b2 : j + 1 ≤ 9223372036854775807 := by omega
      obtain ⟨x, hx⟩ : ∃ x, L[j]? = some x := ⟨_, List.getElem?_eq_getElem (by rw [HN.out]; exact hlt)⟩
      obtain ⟨_, e1, lg, c0, c1⟩ := HCELL.out wr HU.out j x hx
      cases e1
      have HST : Hid (minTo L (j + 1 - 1) = if ahead x m = true then x else m) := by
        have hx' : L[(j - 1) + 1]? = some x := by rw [show j - 1 + 1 = j by omega]; exact hx
        have := minTo_step hx'
        rw [HM.out, show j - 1 + 1 = j by omega] at this
        unfold Hid
        rw [show j + 1 - 1 = j by omega, this]
        by_cases hc : x.1 < m.1 ∨ (x.1 = m.1 ∧ x.2 < m.2)
        · rw [if_pos hc, if_pos ((ahead_iff x m).2 hc)]
        · rw [if_neg hc, if_neg (fun h => hc ((ahead_iff x m).1 h))]
      have hneg := ordI_neg x m
      have HO := Lib.hid (fun w' => order_any x m w')
      obtain ⟨o, ho⟩ : ∃ o, ordI x m = o := ⟨_, rfl⟩
      rw [ho] at HO hneg
      clear ho hx
      go_wp2_with fail
      go_region_held3 (fun w' => Upd [] wr w' ∧ ∀ (b o : Nat), b < wr.heap.size → b ∉ ([] : List Nat) → w'.cell? ⟨b, o, none⟩ = wr.cell? ⟨b, o, none⟩)
        (first | exact Held.init _ _ | exact Held.step (by assumption) hB) (first | (go_at_call 106; refine (HO.out _).mono ?_; rintro e w' ⟨rfl, hB⟩))
      have hq : Upd [] wr w' := (Upd.refl [] wr).drew.trans hB
      have HQ := Lib.hid hq
      have c0 := (hq.cell lg (by simp) (j * 2)).trans c0
      have c1 := (hq.cell lg (by simp) (j * 2 + 1)).trans c1
      have lgq := Nat.lt_of_lt_of_le lg hq.size
      have HBQ := Lib.hid (HB.out.upd hq (by simp))
      have HZQ := Lib.hid (HZ.out.upd hq (by simp))
      have y0 := HBQ.out.cell (j := 0) rfl
      have y1 := HBQ.out.cell (j := 1) rfl
      have f0 := HBQ.out.free 0
      have f1 := HBQ.out.free 1
      have ly := HBQ.out.lt
      obtain ⟨t, ht⟩ : ∃ t, ahead x m = t := ⟨_, rfl⟩
      rw [ht] at HST ⊢
      clear hq hB hneg ht
      cases t with
      | true =>
        have HST2 : Hid (minTo L (j + 1 - 1) = x) := by unfold Hid; rw [HST.out, if_pos rfl]
        go_wp2_with fail
        exact ⟨⟨j + 1, by congr 1, by omega, by rw [HN.out]; omega, by rw [HST2.out]; exact (HBQ.out.set 0 _).set 1 _, (HZQ.out.setFar (by have := HBM.out; have := HBZ.out; simp only [ne_eq]; omega) _).setFar (by have := HBM.out; have := HBZ.out; simp only [ne_eq]; omega) _, ((HU.out.trans HQ.out).setCell (.inr (by have := HBM.out; simp only; omega)) _).setCell (.inr (by have := HBM.out; simp only; omega)) _⟩, by first | (simp [intOf]; done) | (simp [intOf]; omega)⟩
      | false =>
        have HST2 : Hid (minTo L (j + 1 - 1) = m) := by unfold Hid; rw [HST.out, if_neg (by simp)]
        go_wp2_with fail
        exact ⟨⟨j + 1, by congr 1, by omega, by rw [HN.out]; omega, by rw [HST2.out]; exact HBQ.out, HZQ.out, HU.out.trans HQ.out⟩, by first | (simp [intOf]; done) | (simp [intOf]; omega)⟩
    · have t1 : decide (j < n) = false := by simp; omega
      have hjn : j = n := by omega
      subst hjn
      have z0 := HZ.out.cell (j := 0) rfl
      have z1 := HZ.out.cell (j := 1) rfl
      have p0 := HZ.out.free 0
      have p1 := HZ.out.free 1
      have lz := HZ.out.lt
      have hne : bm ≠ bz := by have := HBM.out; have := HBZ.out; omega
      clear hlt
      go_wp2_with fail
      refine bodyPost_ret (v := .agg #[.int .u64 m.1, .int .i64 m.2]) (by simp [results, Tryz.results140, go_sem, z0, z1, lz]) rfl ?_
      exact ⟨by rw [HM.out], (HU.out.setCell (.inr (by have := HBZ.out; simp only; omega)) _).setCell (.inr (by have := HBZ.out; simp only; omega)) _⟩
end Go.Proofs.YtfeobcmcellcpaaGreat

/-! Oh -/
namespace Go.Proofs.YtfeobcmcellcpaaGreat
open Go.RowKit

theorem underlyingEntries : Tryz.prog.underlying 161 = some (.slice 164) := by kernel_rfl
theorem infoEntry : (Tryz.prog.info? 164).map (fun i => (i.zero, i.size, i.bytes)) = some (some (.agg #[.int .u64 0, .int .i64 0]), 2, 16) := by kernel_rfl
def entL (Z : List Ent) : List It := (Z.filter (fun e => nonE e.f)).map (fun e => stI e.f)
theorem entL_one (Z : List Ent) (e : Ent) : entL (Z ++ [e]) = entL Z ++ (if nonE e.f = true then [stI e.f] else []) := by
  unfold entL
  rw [List.filter_append, List.map_append]
  congr 1
  by_cases h : nonE e.f = true <;> simp [h]
theorem entL_le (Z : List Ent) : (entL Z).length ≤ Z.length := by unfold entL; rw [List.length_map]; exact List.length_filter_le _ _
theorem entL_perm {Z : List Ent} {F : List Fl} (h : (Z.map (·.f)).Perm F) : (entL Z).Perm ((F.filter nonE).map stI) := by
  have e1 : entL Z = ((Z.map (·.f)).filter nonE).map stI := by
    unfold entL
    rw [List.filter_map, List.map_map]
    rfl
  rw [e1]
  exact (h.filter nonE).map stI
theorem entL_perm2 {Z Z' : List Ent} (h : Z.Perm Z') : (entL Z).Perm (entL Z') := (h.filter _).map _

/-- What is left of the range: flows. -/
theorem flM_split {Zl : List Ent} {A B : AL} {k : Int} {v : Value} (h : flM Zl = A ++ (k, v) :: B) : ∃ Za e Zb, Zl = Za ++ e :: Zb ∧ flM Za = A ∧ flM Zb = B ∧ k = e.f.id ∧ v = entV e := by
  unfold flM at h
  obtain ⟨Za, R, rfl, h1, h2⟩ := List.map_eq_append_iff.1 h
  obtain ⟨e, Zb, rfl, h3, h4⟩ := List.map_eq_cons_iff.1 h2
  simp only [Prod.mk.injEq] at h3
  exact ⟨Za, e, Zb, rfl, h1, h4, h3.1.symm, h3.2.symm⟩
def EntrAt (w : World) (r fb : Nat) (Z : List Ent) (lv : Value) (wr : World) : Prop :=
  ∃ (Zd Zl : List Ent) (ao : Option Addr) (cap : Nat), lv = .slice ao (entL Zd).length cap ∧ RowO wr 164 2 ao (entL Zd).length cap ((entL Zd).flatMap itVs) ∧ (∀ c ∈ blkO ao, r < c) ∧ (Zd ++ Zl).Perm Z ∧ IterAt wr r fb (flM Zl) ∧ Upd [] w wr
def EntrTo (w : World) (Z : List Ent) (e : Ending) (w' : World) : Prop :=
  ∃ (Zd : List Ent) (ao : Option Addr) (cap : Nat), e = .returned (.slice ao (entL Zd).length cap) ∧ RowO w' 164 2 ao (entL Zd).length cap ((entL Zd).flatMap itVs) ∧ Zd.Perm Z ∧ (∀ c ∈ blkO ao, w.heap.size ≤ c) ∧ Upd [] w w'

/-- How much of a range is left. -/
def iterN (w : World) (r : Nat) : Nat := match w.heap[r]? with
  | some (.mapIter (some b) _ seen _) => match w.heap[b]? with
    | some (.map es _) => (leftOf es seen).toList.length
    | _ => 0
  | _ => 0
theorem IterAt.count {w : World} {r b : Nat} {left : AL} (h : IterAt w r b left) : iterN w r = left.length := by
  obtain ⟨es, clock, since, seen, c0, hb, -, hr, -, -, -, hk⟩ := h
  unfold iterN
  rw [hr]
  simp only [hb]
  have := congrArg List.length hk
  simpa [kvs, kvM] using this

set_option maxRecDepth 100000 in
set_option maxHeartbeats 8000000 in
theorem PS.entries {W w : World} {sb fb : Nat} {Z : List Ent} {v most : Nat} (h : PS W w sb fb Z v most) (hsm : Z.length ≤ 1000) : Calls Tryz.prog 104 #[.pointer (some ⟨sb, 0, none⟩)] w (EntrTo w Z) := by
  obtain ⟨c0, -, -, lb⟩ := h.cells
  obtain ⟨w1, hrun, hit, hu1⟩ := h.map.range (P := Tryz.prog) (T := 158) underlyingFlowMap
  have HS : Hid (∀ e ∈ Z, ∀ w', Upd [] w w' → Calls Tryz.prog 126 #[.pointer (some ⟨e.b, 0, none⟩)] w' (fun en w2 => en = .returned (startV e.f) ∧ w' = w2)) := fun e he w' hu => ((h.ents e he).upd hu (by simp)).start_
  have lfb := h.map.lt
  have HIT := Lib.hid hit
  have HU1 := Lib.hid hu1
  clear h hit hu1
  go_enter Tryz.func104, Tryz.ntmps104
  go_wp2_with fail
  obtain ⟨r0, hr0⟩ : ∃ y, w.heap.size = y := ⟨_, rfl⟩
  have HR0 := Lib.hid hr0
  rw [hr0] at HIT hrun ⊢
  have HFR : Hid (fb < r0 ∧ w.heap.size ≤ r0) := ⟨by omega, by omega⟩
  clear hrun hr0 lfb
  go_loopw [3] (fun lv wr => EntrAt w r0 fb Z lv wr) (fun _ wr => iterN wr r0)
  case atStart => exact ⟨[], Z, none, 0, rfl, RowO.nil _ _ _, fun c hc => (by cases hc), by simp, HIT.out, HU1.out⟩
  case round =>
    obtain ⟨Zd, Zl, ao, cap, rfl, hrow, hnew, hperm, hit, hU⟩ := hrel
    have HROW := Lib.hid hrow
    have HNEW := Lib.hid hnew
    have HPERM := Lib.hid hperm
    have HU := Lib.hid hU
    have HIW := Lib.hid hit
    rcases hit.next (P := Tryz.prog) 0 with ⟨h0, hnext⟩ | ⟨A, k, v', B, w2, hsp, hnext, hit2, hu2, hent, -, -⟩
    · have hZl : Zl = [] := by unfold flM at h0; exact List.map_eq_nil_iff.1 h0
      have HZP : Hid (Zd.Perm Z) := by unfold Hid; rw [hZl, List.append_nil] at hperm; exact hperm
      clear hrow hnew hperm hit hU h0 hZl
      go_wp2_with fail
      go_ret
      exact ⟨Zd, ao, cap, rfl, HROW.out, HZP.out, fun c hc => by have := HNEW.out c hc; have := HFR.out.2; omega, HU.out⟩
    · obtain ⟨Za, e, Zb, hZl, rfl, rfl, rfl, rfl⟩ := flM_split hsp
      have hU2 : Upd [] w w2 := HU.out.then hu2 (fun _ _ h => h) (fun a ha hm => by simp only [List.mem_cons, List.not_mem_nil, or_false] at hm; have := HFR.out.2; omega)
      have hez : e ∈ Z := hperm.mem_iff.1 (by rw [hZl]; simp)
      have HC := Lib.hid (HS.out e hez w2 hU2)
      have hP2 : ((Zd ++ [e]) ++ (Za ++ Zb)).Perm Z := by
        refine List.Perm.trans ?_ hperm
        rw [hZl, List.append_assoc]
        exact List.Perm.append_left Zd (show (e :: (Za ++ Zb)).Perm (Za ++ e :: Zb) from List.perm_middle.symm)
      have HP2 := Lib.hid hP2
      have hI2 : IterAt w2 r0 fb (flM (Za ++ Zb)) := by unfold flM at hit2 ⊢; rw [List.map_append]; exact hit2
      have HI2 := Lib.hid hI2
      have HU2 := Lib.hid hu2
      have HUW := Lib.hid hU2
      have hcnt : (flM (Za ++ Zb)).length < iterN wr r0 := by rw [HIW.out.count, hZl]; unfold flM; simp
      have HCNT := Lib.hid hcnt
      have hlen : (entL Zd).length + 1 ≤ 1000 := by
        have h1 := entL_le (Zd ++ [e])
        have h2 := hperm.length_eq
        have h3 := entL_le Zd
        rw [hZl] at h2
        simp only [List.length_append, List.length_cons] at h2
        omega
      obtain ⟨n, hn⟩ : ∃ n, (entL Zd).length = n := ⟨_, rfl⟩
      have HN := Lib.hid hn
      rw [hn] at hlen HROW ⊢
      have HRW := Lib.hid (HROW.out.upd hu2 (fun c hc e2 => by simp only [List.mem_cons, List.not_mem_nil, or_false] at e2; have := HNEW.out c hc; omega))
      clear hrow hnew hperm hit hU hsp hU2 hez hP2 hI2 hu2 hcnt hn hit2 hZl
      unfold entV at hnext hent
      go_wp2_with fail
      refine HC.out.mono ?_
      rintro en w3 ⟨rfl, rfl⟩
      cases hne : nonE e.f with
      | false =>
        have hst : startV e.f = .tuple #[.int .u64 0, .bool false] := by unfold startV; rw [hne]; rfl
        have HEL : Hid (entL (Zd ++ [e]) = entL Zd) := by unfold Hid; rw [entL_one, hne]; simp
        rw [hst]
        clear hne hst
        go_wp2_with fail
        exact ⟨⟨Zd ++ [e], Za ++ Zb, ao, cap, by rw [HEL.out, HN.out], by rw [HEL.out, HN.out]; exact HRW.out, HNEW.out, HP2.out, HI2.out, HUW.out⟩, by rw [HI2.out.count]; exact HCNT.out⟩
      | true =>
        have hst : startV e.f = .tuple #[.int .u64 e.f.start, .bool true] := by unfold startV; rw [hne]; rfl
        have HEL : Hid (entL (Zd ++ [e]) = entL Zd ++ [stI e.f]) := by unfold Hid; rw [entL_one, hne]; simp
        rw [hst]
        clear hne hst
        obtain ⟨i0, hi0, hz0, hz1, hz2⟩ := info_parts infoEntry
        have hsrc : Src (w2.alloc (.cells #[.int .u64 e.f.start, .int .i64 e.f.id] 164)) 2 (some ⟨w2.heap.size, 0, none⟩) 1 [.int .u64 e.f.start, .int .i64 e.f.id] := one_src w2 164 [.int .u64 e.f.start, .int .i64 e.f.id] (by intro u hu; simp only [List.mem_cons, List.not_mem_nil, or_false] at hu; rcases hu with rfl | rfl <;> rfl) 2 rfl
        have hq3 : Upd [] w2 (w2.alloc (.cells #[.int .u64 e.f.start, .int .i64 e.f.id] 164)) := (Upd.refl [] w2).alloc _
        obtain ⟨v3, hv3⟩ : ∃ y, w2.alloc (.cells #[.int .u64 e.f.start, .int .i64 e.f.id] 164) = y := ⟨_, rfl⟩
        rw [hv3] at hsrc hq3
        have HSRC := Lib.hid hsrc
        have HQ := Lib.hid hq3
        have HR3 := Lib.hid (HRW.out.upd hq3 (by simp))
        have HBN : Hid (n + 1 ≤ maxLen ∧ (n + 1) * 16 ≤ 140737488355328) := ⟨by unfold maxLen; omega, by omega⟩
        clear hsrc hq3
        go_wp2_with (at_builtin; (refine wpList_app2 _ (by rfl) _ _ _ (by rfl) 164 i0 _ 2 16 underlyingEntries hi0 hz0 hz1 hz2 rfl (by omega) ao n cap ((entL Zd).flatMap itVs) (by rfl) HR3.out (some ⟨w2.heap.size, 0, none⟩) 1 1 [.int .u64 e.f.start, .int .i64 e.f.id] (by rfl) HSRC.out HBN.out.1 HBN.out.2 ?_); (intro ao3 cap3 w7 hA3; have HA3 := Lib.hid hA3; clear hA3))
        have hs3 := HQ.out.size
        have hlr := HI2.out.lt
        have hI3 : IterAt w7 r0 fb (flM (Za ++ Zb)) := (HI2.out.upd HQ.out (by simp) (by simp)).upd HA3.out.upd (fun hm => by have := HNEW.out _ hm; omega) (fun hm => by have := HNEW.out _ hm; have := HFR.out.1; omega)
        have hlen1 : (entL (Zd ++ [e])).length = n + 1 := by rw [HEL.out, List.length_append, HN.out]; rfl
        exact ⟨⟨Zd ++ [e], Za ++ Zb, ao3, cap3, by rw [hlen1], by rw [hlen1, HEL.out, List.flatMap_append]; exact HA3.out.row, fun c hc => by rcases HA3.out.at_ c hc with h | h; (exact HNEW.out c h); (omega), HP2.out, hI3, (HUW.out.trans HQ.out).then HA3.out.upd (fun _ _ h => h) (fun a ha hm => by have := HNEW.out a hm; have := HFR.out.2; omega)⟩, by rw [hI3.count]; exact HCNT.out⟩
end Go.Proofs.YtfeobcmcellcpaaGreat
