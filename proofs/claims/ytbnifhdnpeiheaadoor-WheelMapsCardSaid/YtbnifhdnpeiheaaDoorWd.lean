/-
  The walks of the wheel's place and put. No condition.
-/
import Derived.Test.YtbnifhdnpeiheaaDoorWc
import Derived.Test.YtbnifhdnpeiheaaDoorItemsE
set_option linter.unusedVariables false
set_option linter.unusedSimpArgs false
namespace Go.Proofs.YtbnifhdnpeiheaaDoor
open Go.RowKit

theorem heldN_id {wd : Nat} (h : wd ≤ 40) : heldN (wd : Int) = wd := by unfold heldN; omega


theorem place_no (wb k : Nat) (hk : k < 18446744073709551616) (s : WS) (w : World) (h : WhAt w wb s) (hl : k < s.base ∨ lev3 s.wd s.base k = 3) :
    Calls Tryd.prog 105 #[.pointer (some ⟨wb, 0, none⟩), .int .u64 k] w (RetUpd [] w (.tuple #[.int .i64 0, .int .i64 0, .bool false])) := by
  have c0 := h.top.cell (o := 0) (by omega)
  have c1 := h.top.cell (o := 1) (by omega)
  rw [wheelF_base] at c0
  rw [wheelF_wd] at c1
  have hlev := fun w => level_any s.base k h.b64 hk s.wd w
  have hwd := h.wd40
  have lt := h.top.lt
  rw [heldN_id hwd] at hlev
  have HLV := Lib.hid hlev
  obtain ⟨bs, hbs⟩ : ∃ bs, s.base = bs := ⟨_, rfl⟩
  obtain ⟨wd, hww⟩ : ∃ wd, s.wd = wd := ⟨_, rfl⟩
  rw [hbs] at c0 HLV hl
  rw [hww] at c1 HLV hl hwd
  clear h hbs hww hlev
  by_cases hkb : k < bs
  · have HL : Hid (levN wd bs k = -1) := by unfold Hid levN; rw [if_pos hkb]
    clear hl hkb
    go_enter Tryd.func105, Tryd.ntmps105
    go_wp2_with fail
    go_region_held3 (fun w' => Upd [] w w' ∧ ∀ (b o : Nat), b < w.heap.size → b ∉ ([] : List Nat) → w'.cell? ⟨b, o, none⟩ = w.cell? ⟨b, o, none⟩)
      (first | exact Held.init _ _ | assumption) (first | (go_at_call 34; refine (HLV.out _).mono ?_; rintro e w' ⟨rfl, rfl⟩; rw [HL.out]))
    go_wp2
    go_ret3
    exact ⟨rfl, (Upd.refl [] w).drew⟩
  · have HL : Hid (levN wd bs k = 3) := by
      unfold Hid levN
      rw [if_neg hkb]
      rcases hl with hl | hl
      · exact absurd hl hkb
      · rw [hl]; rfl
    clear hl hkb
    go_enter Tryd.func105, Tryd.ntmps105
    go_wp2_with fail
    go_region_held3 (fun w' => Upd [] w w' ∧ ∀ (b o : Nat), b < w.heap.size → b ∉ ([] : List Nat) → w'.cell? ⟨b, o, none⟩ = w.cell? ⟨b, o, none⟩)
      (first | exact Held.init _ _ | assumption) (first | (go_at_call 34; refine (HLV.out _).mono ?_; rintro e w' ⟨rfl, rfl⟩; rw [HL.out]))
    go_wp2
    go_ret3
    exact ⟨rfl, (Upd.refl [] w).drew⟩

theorem place_yes (wb k l : Nat) (hk : k < 18446744073709551616) (s : WS) (w : World) (h : WhAt w wb s) (hb : s.base ≤ k) (hl : lev3 s.wd s.base k = l) (hl3 : l < 3) :
    Calls Tryd.prog 105 #[.pointer (some ⟨wb, 0, none⟩), .int .u64 k] w (RetUpd [] w (.tuple #[.int .i64 l, .int .i64 (bucN s.wd k l), .bool true])) := by
  have c0 := h.top.cell (o := 0) (by omega)
  have c1 := h.top.cell (o := 1) (by omega)
  rw [wheelF_base] at c0
  rw [wheelF_wd] at c1
  have hlev := fun w => level_any s.base k h.b64 hk s.wd w
  have hwd := h.wd40
  have lt := h.top.lt
  rw [heldN_id hwd] at hlev
  have hbu := fun w => bucket_any k l hl3 s.wd w
  rw [heldN_id hwd] at hbu
  have HLV := Lib.hid hlev
  have HBU := Lib.hid hbu
  obtain ⟨bs, hbs⟩ : ∃ bs, s.base = bs := ⟨_, rfl⟩
  obtain ⟨wd, hww⟩ : ∃ wd, s.wd = wd := ⟨_, rfl⟩
  rw [hbs] at c0 HLV hl hb
  rw [hww] at c1 HLV hl hwd HBU ⊢
  clear h hbs hww hlev hbu
  have HL : Hid (levN wd bs k = (l : Int)) := by unfold Hid levN; rw [if_neg (by omega), hl]
  have t1 : decide ((l : Int) < 0) = false := by simp
  have t2 : decide ((3 : Int) ≤ (l : Int)) = false := by simp; omega
  have t3 : decide (3 ≤ l) = false := by simp; omega
  clear hl hb
  go_enter Tryd.func105, Tryd.ntmps105
  go_wp2_with fail
  go_region_held3 (fun w' => Upd [] w w' ∧ ∀ (b o : Nat), b < w.heap.size → b ∉ ([] : List Nat) → w'.cell? ⟨b, o, none⟩ = w.cell? ⟨b, o, none⟩)
    (first | exact Held.init _ _ | assumption) (first | (go_at_call 34; refine (HLV.out _).mono ?_; rintro e w' ⟨rfl, rfl⟩; rw [HL.out]))
  go_wp2_with fail
  refine (HBU.out _).mono ?_
  rintro e w' ⟨rfl, rfl⟩
  go_wp2
  go_ret3
  exact ⟨rfl, (Upd.refl [] w).drew⟩

def putS (s : WS) (l b : Nat) (x : It) (ao : Option Addr) (cap : Nat) : WS :=
  { s with bk := fun q => if q = l * 64 + b then ⟨ao, cap, (s.bk (l * 64 + b)).L ++ [x]⟩ else s.bk q, mw := fun j => if j = l then orB (s.mw l) b else s.mw j }
def PutTo (wb : Nat) (s : WS) (l b : Nat) (x : It) (w w' : World) : Prop :=
  ∃ ao cap, WhAt w' wb (putS s l b x ao cap) ∧ (∀ c ∈ blkO ao, c ∈ blkO (s.bk (l * 64 + b)).ao ∨ w.heap.size ≤ c) ∧ Upd (wb :: blkO (s.bk (l * 64 + b)).ao) w w'

theorem PutTo.drew {wb : Nat} {s : WS} {l b : Nat} {x : It} {w w' : World} (h : PutTo wb s l b x w w') : PutTo wb s l b x w w'.drew := by
  obtain ⟨ao, cap, h1, h2, h3⟩ := h
  exact ⟨ao, cap, h1.up (Upd.refl [] w').drew, h2, h3.drew⟩
theorem put_done {w w1 w2 : World} {wb l b : Nat} {s : WS} {x : It} {ao : Option Addr} {cap : Nat} (h : WhAt w wb s) (hl : l < 3) (hb : b < 64) (hsm : (s.bk (l * 64 + b)).L.length < 1000) (hU : Upd [] w w1)
    (hA : Apped w1 35 2 (s.bk (l * 64 + b)).ao ((s.bk (l * 64 + b)).L.length + 1) ((s.bk (l * 64 + b)).L.flatMap itVs ++ itVs x) ao cap w2) :
    PutTo wb s l b x w ((w2.setCell ⟨wb, 2 + l * 64 + b, none⟩ (.slice ao ((s.bk (l * 64 + b)).L.length + 1) cap)).setCell ⟨wb, 194 + l, none⟩ (.int .u64 (orB (s.mw l) b))) := by
  rw [Nat.add_assoc 2]
  have hq : l * 64 + b < 192 := by omega
  have hs1 := hU.size
  have hin : ∀ c ∈ blkO ao, c ∈ blkO (s.bk (l * 64 + b)).ao ∨ w.heap.size ≤ c := fun c hc => by
    rcases hA.at_ c hc with e | e
    · exact .inl e
    · right; omega
  have hnw : wb ∉ blkO (s.bk (l * 64 + b)).ao := fun e => (h.d2 _ hq _ e).1 rfl
  have hnm : s.mb ∉ blkO (s.bk (l * 64 + b)).ao := fun e => (h.d2 _ hq _ e).2 rfl
  have hU2 : Upd (blkO (s.bk (l * 64 + b)).ao) w w2 := hU.nil.trans hA.upd
  have hnao : wb ∉ blkO ao := fun e => by
    rcases hin _ e with e | e
    · exact hnw e
    · have := h.top.lt; omega
  have hu : Upd [wb] w2 ((w2.setCell ⟨wb, 2 + (l * 64 + b), none⟩ (.slice ao ((s.bk (l * 64 + b)).L.length + 1) cap)).setCell ⟨wb, 194 + l, none⟩ (.int .u64 (orB (s.mw l) b))) := ((Upd.refl _ _).setCell (by simp) _).setCell (by simp) _
  refine ⟨ao, cap, ?_, hin, (hU2.mono (fun i _ hm => by simp [hm])).trans (hu.mono (fun i _ hm => by simp at hm; simp [hm]))⟩
  have hlt := h.lt
  refine { top := ?_, rows := fun q hq' => ?_, map := (h.map.upd hU2 hnm).upd hu (by simp; exact fun e => h.d1 e.symm), ndm := h.ndm, d1 := h.d1, d2 := fun q hq' c hc => ?_, d3 := fun q hq' r hr hqr c hc => ?_, small := fun q hq' => ?_, b64 := h.b64, wd40 := h.wd40, mw64 := fun j hj => ?_, msmall := h.msmall }
  · refine (((h.top.upd hU2 hnw).set _ _).set _ _).congr (fun o ho => ?_)
    simp only [putS]
    by_cases e1 : o = 194 + l
    · subst e1
      rw [if_pos rfl]
      have := wheelF_mw (putS s l b x ao cap) hl
      simp only [putS] at this
      rw [this]
      simp
    · rw [if_neg e1]
      by_cases e2 : o = 2 + (l * 64 + b)
      · subst e2
        rw [if_pos rfl]
        have := wheelF_bk (putS s l b x ao cap) hq
        simp only [putS] at this
        rw [this]
        simp
      · rw [if_neg e2]
        unfold wheelF
        simp only []
        split
        · rfl
        split
        · rfl
        split
        · rw [if_neg (by omega)]
        split
        · rw [if_neg (by omega)]
        · rfl
  · simp only [putS]
    by_cases e : q = l * 64 + b
    · subst e
      rw [if_pos rfl]
      simp only [List.length_append, List.length_cons, List.length_nil, List.flatMap_append, List.flatMap_cons, List.flatMap_nil, List.append_nil]
      exact hA.row.upd hu (fun c hc => by simp; exact fun e => hnao (e ▸ hc))
    · rw [if_neg e]
      exact ((h.rows q hq').upd hU2 (fun c hc => h.d3 q hq' _ hq e c hc)).upd hu (fun c hc => by simp; exact (h.d2 q hq' c hc).1)
  · simp only [putS] at hc
    by_cases e : q = l * 64 + b
    · rw [if_pos e] at hc
      rcases hin c hc with e | e
      · exact h.d2 _ hq c e
      · have := h.top.lt; have := h.map.lt; exact ⟨by omega, by simp only [putS]; omega⟩
    · rw [if_neg e] at hc
      exact h.d2 q hq' c hc
  · simp only [putS] at hc ⊢
    by_cases e : q = l * 64 + b
    · rw [if_pos e] at hc
      rw [if_neg (by omega)]
      intro hc'
      rcases hin c hc with e' | e'
      · exact h.d3 _ hq r hr (by omega) c e' hc'
      · have := (h.rows r hr).lt c hc'; omega
    · rw [if_neg e] at hc
      by_cases e2 : r = l * 64 + b
      · rw [if_pos e2]
        intro hc'
        rcases hin c hc' with e' | e'
        · exact h.d3 q hq' _ hq e c hc e'
        · have := (h.rows q hq').lt c hc; omega
      · rw [if_neg e2]
        exact h.d3 q hq' r hr hqr c hc
  · simp only [putS]
    by_cases e : q = l * 64 + b
    · rw [if_pos e]; simp; omega
    · rw [if_neg e]; exact h.small q hq'
  · simp only [putS]
    by_cases e : j = l
    · rw [if_pos e]; exact orB_lt (h.mw64 l hl) hb
    · rw [if_neg e]; exact h.mw64 j hj

theorem bucN_lt (W k l : Nat) : bucN W k l < 64 := Nat.mod_lt _ (by omega)

set_option maxRecDepth 100000 in
set_option maxHeartbeats 4000000 in
theorem wput_any (wb l : Nat) (x : Int) (k : Nat) (hk : k < 18446744073709551616) (s : WS) (w : World) (h : WhAt w wb s) (hb : s.base ≤ k) (hl : lev3 s.wd s.base k = l) (hl3 : l < 3) (hsm : (s.bk (l * 64 + bucN s.wd k l)).L.length < 1000) :
    Calls Tryd.prog 95 #[.pointer (some ⟨wb, 0, none⟩), .agg #[.int .u64 k, .int .i64 x]] w (fun e w' => e = .returned (.tuple #[]) ∧ PutTo wb s l (bucN s.wd k l) (k, x) w w') := by
  obtain ⟨i0, hi0, hz0, hz1, hz2⟩ := info_parts infoItem
  have hbl := bucN_lt s.wd k l
  have HPL := Lib.hid (fun w h => place_yes wb k l hk s w h hb hl hl3)
  obtain ⟨b, hbb⟩ : ∃ b, bucN s.wd k l = b := ⟨_, rfl⟩
  rw [hbb] at hbl HPL hsm ⊢
  have HH := Lib.hid h
  clear hbb
  obtain ⟨w1, hw1⟩ : ∃ w1, w1 = w.alloc (.cells #[.int .u64 k, .int .i64 x] 35 (0, 0)) := ⟨_, rfl⟩
  have HU1 : Hid (Upd [] w w1) := by unfold Hid; rw [hw1]; exact (Upd.refl _ w).alloc _
  have HB1 : Hid (Blk w1 w.heap.size 35 [.int .u64 k, .int .i64 x]) := by unfold Hid; rw [hw1]; exact heap_one w _
  have HW1 := Lib.hid hw1
  clear h hb hl hw1
  go_enter Tryd.func95, Tryd.ntmps95
  go_wp2_with fail
  rw [← HW1.out]
  refine (HPL.out w1 (HH.out.up HU1.out)).mono ?_
  rintro e w2 ⟨rfl, hU2⟩
  have HU2 : Hid (Upd [] w w2) := HU1.out.trans hU2
  have hB2 := HB1.out.upd hU2 (by simp)
  have y0 := hB2.cell (j := 0) rfl
  have y1 := hB2.cell (j := 1) rfl
  have ly := hB2.lt
  have hT2 := (HH.out.up HU2.out).top
  have c0 := hT2.cell (o := 2 + (l * 64 + b)) (by omega)
  rw [wheelF_bk s (by omega), ← Nat.add_assoc] at c0
  have c1 := hT2.cell (o := 194 + l) (by omega)
  rw [wheelF_mw s hl3] at c1
  have lw := hT2.lt
  have bb : (b : Int) < 64 := by omega
  have bl : (l : Int) < 3 := by omega
  have hR := (HH.out.up HU2.out).rows (l * 64 + b) (by omega)
  have hd1 : wb ∉ blkO (s.bk (l * 64 + b)).ao := fun e => ((HH.out.d2 _ (by omega)) _ e).1 rfl
  obtain ⟨ao, hao⟩ : ∃ ao, (s.bk (l * 64 + b)).ao = ao := ⟨_, rfl⟩
  obtain ⟨cap, hcap⟩ : ∃ cap, (s.bk (l * 64 + b)).cap = cap := ⟨_, rfl⟩
  obtain ⟨n, hn⟩ : ∃ n, (s.bk (l * 64 + b)).L.length = n := ⟨_, rfl⟩
  rw [hao, hn, hcap] at c0 hR
  rw [hao] at hd1
  rw [hn] at hsm
  have HR := Lib.hid hR
  have HAO := Lib.hid hao
  have HN := Lib.hid hn
  have HC0 := Lib.hid c0
  have HC1 := Lib.hid c1
  have HZ : Hid (w2.frozen? ⟨wb, 2 + l * 64 + b, none⟩ = false) := hT2.free _
  have HZ1 : Hid (w2.frozen? ⟨wb, 194 + l, none⟩ = false) := hT2.free _
  have hpost := fun w1 hU ao' cap' w3 h => put_done (w1 := w1) (x := (k, x)) (w2 := w3) (ao := ao') (cap := cap') HH.out hl3 hbl (by rw [hn]; exact hsm) hU h
  rw [hao, hn] at hpost
  have HP := Lib.hid hpost
  clear hU2 hB2 hT2 hR hao hcap hn c1 hpost
  go_wp2
  go_region_law
    (refine step_app2 _ (by rfl) _ _ _ (by rfl) 35 i0 _ 2 16 underlyingItems hi0 hz0 hz1 hz2 rfl (by omega) ao n cap ((s.bk (l * 64 + b)).L.flatMap itVs) (by rfl) (RowO.upd HR.out (((Upd.refl [] w2).drew).alloc _) (by simp)) (some ⟨w2.heap.size, 0, none⟩) 1 1 (itVs (k, x)) (by rfl) ⟨rfl, by simp [itVs, Value.oneCell'], .inr ⟨_, rfl, World.news_of_block (cs := #[.int .u64 k, .int .i64 x]) (t := 35) (fr := (0, 0)) (heap_alloc_new w2 _)⟩⟩ (by unfold maxLen; omega) (by omega) ?_; intro ao2 cap2 w4 hA2; have hU4 : Upd (blkO ao) w2 w4 := ((((Upd.refl (blkO ao) w2).drew).alloc _)).trans hA2.upd; have lw4 := Nat.lt_of_lt_of_le lw hU4.size; have e4 := hU4.cell lw hd1 (2 + l * 64 + b); rw [HC0.out] at e4; have z4 := hU4.frozen lw hd1 (2 + l * 64 + b); rw [HZ.out] at z4; have m4 := hU4.cell lw hd1 (194 + l); rw [HC1.out] at m4; have mz4 := hU4.frozen lw hd1 (194 + l); rw [HZ1.out] at mz4; have HA2 := Lib.hid hA2; clear hA2 hU4)
  all_goals
    go_wp2
    obtain ⟨w5, hw5⟩ : ∃ w5, w5 = w4.setCell ⟨wb, 2 + l * 64 + b, none⟩ (.slice ao2 (n + 1) cap2) := ⟨_, rfl⟩
    rw [← hw5]
    have hne : (⟨wb, 194 + l, none⟩ : Addr) ≠ ⟨wb, 2 + l * 64 + b, none⟩ := by first | (simp; done) | (simp; omega)
    have m5 : w5.cell? ⟨wb, 194 + l, none⟩ = some (.int .u64 (s.mw l)) := by rw [hw5, World.cell?_setCell_other _ _ _ _ (fun e => hne e.symm)]; exact m4
    have mz5 : w5.frozen? ⟨wb, 194 + l, none⟩ = false := by rw [hw5]; simpa using mz4
    have lw5 : wb < w5.heap.size := by rw [hw5]; simpa using lw4
    have HW5 := Lib.hid hw5
    clear hw5 e4 m4 mz4 z4 hne
    go_region_with (go_at_call 120; refine (with_any (s.mw l) b (HH.out.mw64 l hl3) hbl _).mono ?_; rintro e w6 ⟨rfl, rfl⟩)
    all_goals
      go_wp2
      go_end0
      have hp := HP.out _ (by first | exact (HU2.out.alloc _).drew | exact HU2.out.drew.alloc _) ao2 cap2 w4 HA2.out
      rw [← HW5.out] at hp
      exact ⟨rfl, hp.drew⟩
end Go.Proofs.YtbnifhdnpeiheaaDoor
