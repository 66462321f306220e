/-
  Texts of this claim, joined: Oa, Ob, Oc, Od, Oe, Of. No condition.
-/
import Derived.Test.YtfeobcmcellcpaaGreatPN
import Derived.Test.YtfeobcmcellcpaaGreatLaysD
import Derived.Shelf.SlicesE.Clone
set_option linter.unusedVariables false
set_option linter.unusedSimpArgs false
/-! Oa -/
namespace Go.Proofs.YtfeobcmcellcpaaGreat
open Go.RowKit

/-- What a deed on a flow of the program leaves: it may write into its packets' block. -/
def PFlT (w : World) (e : Ent) (f' : Fl) (w' : World) : Prop := ∃ ao cap, PFl w' ⟨e.b, f', ao, cap⟩ ∧ (∀ c ∈ blkO ao, c ∈ blkO e.ao ∨ w.heap.size ≤ c) ∧ Upd (entB e) w w'
theorem PFlT.same {w w' : World} {e : Ent} (h : PFl w e) (hu : Upd [] w w') : PFlT w e e.f w' := ⟨e.ao, e.cap, h.upd hu (by simp), fun c hc => .inl hc, hu.nil⟩
theorem PFl.full {w : World} {e : Ent} (h : PFl w e) : flFull e.f = decide ((e.f.L.length : Int) = e.f.most) := by
  have := h.ok.len
  unfold flFull
  rw [Bool.eq_iff_iff]; simp; omega

/-- The packet is put behind all. -/
theorem PFl.app {w wz : World} {e : Ent} {f' : Fl} {p : Pk} {st : Nat} (h : PFl w e) (hU : Upd [e.b] w wz) (hB : Blk wz e.b 192 [.int .u64 e.f.r, .int .i64 e.f.most, .slice e.ao e.f.L.length e.cap, .int .u64 st, .int .u64 e.f.fin])
    {w5 : World} {ao2 : Option Addr} {cap2 : Nat} (hA : Apped wz 54 3 e.ao (e.f.L.length + 1) (e.f.L.flatMap pkVs ++ pkVs p) ao2 cap2 w5)
    (h1 : f'.id = e.f.id) (h2 : f'.most = e.f.most) (h3 : f'.r = e.f.r) (h4 : f'.start = st) (h5 : f'.fin = e.f.fin) (h6 : f'.L = e.f.L ++ [p]) (hok : FlOk f') :
    PFlT w e f' (w5.setCell ⟨e.b, 2, none⟩ (.slice ao2 (e.f.L.length + 1) cap2)) := by
  have hlt := h.blk.lt
  have hsz := hU.size
  have hbn : e.b ∉ blkO ao2 := fun c => by
    rcases hA.at_ _ c with h | h
    · exact ‹PFl w e›.d h
    · omega
  have hb5 : Blk w5 e.b 192 [.int .u64 e.f.r, .int .i64 e.f.most, .slice e.ao e.f.L.length e.cap, .int .u64 st, .int .u64 e.f.fin] := hB.upd hA.upd h.d
  have u1 : Upd [e.b] w5 (w5.setCell ⟨e.b, 2, none⟩ (.slice ao2 (e.f.L.length + 1) cap2)) := (Upd.refl [e.b] w5).setCell (.inl (by simp)) _
  have hl : f'.L.length = e.f.L.length + 1 := by rw [h6, List.length_append]; rfl
  refine ⟨ao2, cap2, { blk := ?_, row := ?_, d := hbn, ok := hok }, fun c hc => ?_, ?_⟩
  · have := hb5.set 2 (.slice ao2 (e.f.L.length + 1) cap2)
    simp only [h2, h3, h4, h5, hl]
    exact this
  · simp only [hl, h6, List.flatMap_append]
    have := hA.row.upd u1 (fun c hc e2 => by simp only [List.mem_cons, List.not_mem_nil, or_false] at e2; exact hbn (e2 ▸ hc))
    simpa using this
  · rcases hA.at_ c hc with h | h
    · exact .inl h
    · exact .inr (by omega)
  · have k1 : Upd (entB e) w wz := hU.mono (fun i _ hi => by simp only [List.mem_cons, List.not_mem_nil, or_false] at hi; simp [entB, hi])
    have k2 : Upd (entB e) wz w5 := hA.upd.mono (fun i _ hi => by simp [entB, hi])
    have k3 : Upd (entB e) w5 (w5.setCell ⟨e.b, 2, none⟩ (.slice ao2 (e.f.L.length + 1) cap2)) := u1.mono (fun i _ hi => by simp only [List.mem_cons, List.not_mem_nil, or_false] at hi; simp [entB, hi])
    exact k1.trans (k2.trans k3)

set_option maxRecDepth 100000 in
set_option maxHeartbeats 16000000 in
theorem PFl.arrive {w : World} {e : Ent} (h : PFl w e) (v : Nat) (hv : v < 18446744073709551616) (p : Pk) (hp : p.len < 9223372036854775808) :
    Calls Tryz.prog 139 #[.pointer (some ⟨e.b, 0, none⟩), .int .u64 v, .agg #[.int .i64 p.flow, .int .i64 p.len, .int .i64 p.mark]] w (fun en w' => en = .returned (.bool (!flFull e.f)) ∧ PFlT w e (if flFull e.f = true then e.f else flPut e.f v p) w') := by
  have HH := Lib.hid h
  have hfull := h.full
  have hle := h.ok.len
  have hmo := h.ok.most
  obtain ⟨c0, c1, c2, c3, c4, lb⟩ := h.cells
  obtain ⟨n, hn⟩ : ∃ n, e.f.L.length = n := ⟨_, rfl⟩
  have HN := Lib.hid hn
  obtain ⟨q, hq⟩ : ∃ q, e.f.most = q := ⟨_, rfl⟩
  rw [hn, hq] at hfull hle
  rw [hq] at hmo
  have HQ := Lib.hid hq
  rw [hn] at c2
  rw [hq] at c1
  clear hq hn
  by_cases hf : (n : Int) = q
  · rw [hfull, show decide ((n : Int) = q) = true by simp [hf], if_pos rfl]
    have t0 : ((n : Int) == q) = true := by simp [hf]
    subst hf
    clear h hfull
    go_enter Tryz.func139, Tryz.ntmps139
    go_wp2_with fail
    go_ret
    exact ⟨rfl, PFlT.same HH.out ((Upd.refl [] w).alloc _)⟩
  · have hfn : decide ((n : Int) = q) = false := by simp [hf]
    have hfu : flFull e.f = false := by rw [hfull, hfn]
    have HOK : Hid (FlOk (flPut e.f v p)) := h.ok.put hfu hv hp
    rw [hfu, if_neg (by simp)]
    have t0 : ((n : Int) == q) = false := by simp [hf]
    have hle8 : n < 8 := by omega
    clear h hfull hfn hfu hf
    obtain ⟨wa, hwa⟩ : ∃ x, w.alloc (.cells #[.int .i64 p.flow, .int .i64 p.len, .int .i64 p.mark] 54) = x := ⟨_, rfl⟩
    have hUa : Upd [] w wa := by rw [← hwa]; exact (Upd.refl [] w).alloc _
    have hBx : Blk wa w.heap.size 54 (pkVs p) := by rw [← hwa]; exact Blk.new w 54 (pkVs p)
    obtain ⟨bx, hbx⟩ : ∃ y, w.heap.size = y := ⟨_, rfl⟩
    rw [hbx] at hBx
    have HUA := Lib.hid hUa
    have HBA := Lib.hid hBx
    have HBXN := Lib.hid hbx
    have HEA := Lib.hid (HH.out.upd hUa (by simp))
    have nbx : bx ≠ e.b := by omega
    clear hUa hBx c0 c1 c2 c3 c4
    obtain ⟨c0, c1, c2, c3, c4, lba⟩ := HEA.out.cells
    rw [HN.out] at c2
    rw [HQ.out] at c1
    by_cases h0 : n = 0
    · have HST : Hid ((flPut e.f v p).start = max v e.f.fin) := by unfold Hid flPut; rw [HN.out, if_pos h0]
      have t2 : (n == 0) = true := by simp [h0]
      have t3 : ((n : Int) == 0) = true := by simp [h0]
      clear h0
      have z3 := HEA.out.blk.free 3
      obtain ⟨mx, hmx⟩ : ∃ x, max v e.f.fin = x := ⟨_, rfl⟩
      have hmxi : Max.max (v : Int) (e.f.fin : Int) = (mx : Int) := by omega
      have HMX := Lib.hid hmx
      clear hmx
      go_enter Tryz.func139, Tryz.ntmps139
      go_upto_region 6 with (fail)
      obtain ⟨wz, hwz⟩ : ∃ x, wa.setCell ⟨e.b, 3, none⟩ (.int .u64 mx) = x := ⟨_, rfl⟩
      have hu4 : Upd [e.b] wa wz := by rw [← hwz]; exact (Upd.refl [e.b] wa).setCell (.inl (by simp)) _
      have hb4 := HEA.out.blk.set 3 (.int .u64 mx)
      rw [hwz, HN.out, HQ.out] at hb4
      have HBZ : Hid (Blk wz e.b 192 [.int .u64 e.f.r, .int .i64 q, .slice e.ao n e.cap, .int .u64 mx, .int .u64 e.f.fin]) := hb4
      have hr4 := HEA.out.row.upd hu4 (fun c hc e2 => by simp only [List.mem_cons, List.not_mem_nil, or_false] at e2; exact HEA.out.d (e2 ▸ hc))
      rw [HN.out] at hr4
      have HRZ := Lib.hid hr4
      have HBX := Lib.hid (HBA.out.upd hu4 (by simpa using nbx))
      have HUZ : Hid (Upd [e.b] w wz) := HUA.out.nil.trans hu4
      rw [HMX.out] at HST
      rw [hwz]
      clear hwz hu4 hb4 hr4 c0 c1 c2 c3 c4 lba z3 hmxi HMX
      obtain ⟨i0, hi0, hz0, hz1, hz2⟩ := info_parts infoPk
      have hbx := HBX.out
      have y0 := hbx.cell (j := 0) rfl
      have y1 := hbx.cell (j := 1) rfl
      have y2 := hbx.cell (j := 2) rfl
      have lbx := hbx.lt
      have hbz := HBZ.out
      have d2 := hbz.cell (j := 2) rfl
      have ld := hbz.lt
      have HSRC : Hid (Src ((wz.alloc (.cells #[.int .i64 p.flow, .int .i64 p.len, .int .i64 p.mark] 54))) 3 (some ⟨wz.heap.size, 0, none⟩) 1 (pkVs p)) := one_src wz 54 (pkVs p) (pkVs_one p) 3 rfl
      have HG1 : Hid (n + 1 ≤ maxLen ∧ (n + 1) * 24 ≤ 140737488355328) := ⟨by unfold maxLen; omega, by omega⟩
      have HUQ : Hid (Upd [] wz ((wz.alloc (.cells #[.int .i64 p.flow, .int .i64 p.len, .int .i64 p.mark] 54)).drew)) := ((Upd.refl [] wz).alloc _).drew
      have HROW : Hid (RowO ((wz.alloc (.cells #[.int .i64 p.flow, .int .i64 p.len, .int .i64 p.mark] 54)).drew) 54 3 e.ao n e.cap (e.f.L.flatMap pkVs)) := HRZ.out.upd HUQ.out (by simp)
      have HBQ := Lib.hid (hbz.upd HUQ.out (by simp))
      clear hbx hbz
      go_region_law (refine step_app2 _ (by rfl) _ _ _ (by rfl) 54 i0 _ 3 24 underlyingPks hi0 hz0 hz1 hz2 rfl (by omega) e.ao n e.cap (e.f.L.flatMap pkVs) (by rfl) HROW.out (some ⟨wz.heap.size, 0, none⟩) 1 1 (pkVs p) (by rfl) HSRC.out.drew HG1.out.1 HG1.out.2 ?_; intro ao2 cap2 w5 hA2; have hB5 := HBQ.out.upd hA2.upd HH.out.d; have u2 := hB5.cell (j := 2) rfl; have lu := hB5.lt; have fu := hB5.free 2; have HA2 := Lib.hid hA2; clear hA2 hB5)
      all_goals go_wp2_with fail
      all_goals go_ret
      all_goals refine ⟨rfl, ?_⟩
      all_goals have hA3 := HA2.out
      all_goals have hB3 := HBQ.out
      all_goals rw [← HN.out, ← HQ.out] at hB3
      all_goals rw [← HN.out] at hA3 ⊢
      all_goals exact PFl.app (f' := flPut e.f v p) HH.out (HUZ.out.trans HUQ.out.nil) hB3 hA3 rfl rfl rfl HST.out rfl rfl HOK.out
    · have HST : Hid ((flPut e.f v p).start = e.f.start) := by unfold Hid flPut; rw [HN.out, if_neg h0]
      have t2 : (n == 0) = false := by simp [h0]
      have t3 : ((n : Int) == 0) = false := by simp; omega
      clear h0
      go_enter Tryz.func139, Tryz.ntmps139
      go_upto_region 6 with (fail)
      have hb4 := HEA.out.blk
      have hr4 := HEA.out.row
      rw [HN.out, HQ.out] at hb4
      rw [HN.out] at hr4
      obtain ⟨wz, rfl⟩ : ∃ x : World, x = wa := ⟨_, rfl⟩
      have HBZ := Lib.hid hb4
      have HRZ := Lib.hid hr4
      have HBX := HBA
      have HUZ : Hid (Upd [e.b] w wz) := HUA.out.nil
      clear hwa hb4 hr4 c0 c1 c2 c3 c4 lba
      obtain ⟨i0, hi0, hz0, hz1, hz2⟩ := info_parts infoPk
      have hbx := HBX.out
      have y0 := hbx.cell (j := 0) rfl
      have y1 := hbx.cell (j := 1) rfl
      have y2 := hbx.cell (j := 2) rfl
      have lbx := hbx.lt
      have hbz := HBZ.out
      have d2 := hbz.cell (j := 2) rfl
      have ld := hbz.lt
      have HSRC : Hid (Src ((wz.alloc (.cells #[.int .i64 p.flow, .int .i64 p.len, .int .i64 p.mark] 54))) 3 (some ⟨wz.heap.size, 0, none⟩) 1 (pkVs p)) := one_src wz 54 (pkVs p) (pkVs_one p) 3 rfl
      have HG1 : Hid (n + 1 ≤ maxLen ∧ (n + 1) * 24 ≤ 140737488355328) := ⟨by unfold maxLen; omega, by omega⟩
      have HUQ : Hid (Upd [] wz ((wz.alloc (.cells #[.int .i64 p.flow, .int .i64 p.len, .int .i64 p.mark] 54)).drew)) := ((Upd.refl [] wz).alloc _).drew
      have HROW : Hid (RowO ((wz.alloc (.cells #[.int .i64 p.flow, .int .i64 p.len, .int .i64 p.mark] 54)).drew) 54 3 e.ao n e.cap (e.f.L.flatMap pkVs)) := HRZ.out.upd HUQ.out (by simp)
      have HBQ := Lib.hid (hbz.upd HUQ.out (by simp))
      clear hbx hbz
      go_region_law (refine step_app2 _ (by rfl) _ _ _ (by rfl) 54 i0 _ 3 24 underlyingPks hi0 hz0 hz1 hz2 rfl (by omega) e.ao n e.cap (e.f.L.flatMap pkVs) (by rfl) HROW.out (some ⟨wz.heap.size, 0, none⟩) 1 1 (pkVs p) (by rfl) HSRC.out.drew HG1.out.1 HG1.out.2 ?_; intro ao2 cap2 w5 hA2; have hB5 := HBQ.out.upd hA2.upd HH.out.d; have u2 := hB5.cell (j := 2) rfl; have lu := hB5.lt; have fu := hB5.free 2; have HA2 := Lib.hid hA2; clear hA2 hB5)
      all_goals go_wp2_with fail
      all_goals go_ret
      all_goals refine ⟨rfl, ?_⟩
      all_goals have hA3 := HA2.out
      all_goals have hB3 := HBQ.out
      all_goals rw [← HN.out, ← HQ.out] at hB3
      all_goals rw [← HN.out] at hA3 ⊢
      all_goals exact PFl.app (f' := flPut e.f v p) HH.out (HUZ.out.trans HUQ.out.nil) hB3 hA3 rfl rfl rfl HST.out rfl rfl HOK.out
end Go.Proofs.YtfeobcmcellcpaaGreat

/-! Ob -/
namespace Go.Proofs.YtfeobcmcellcpaaGreat
open Go.RowKit

/-- The library's clone at packets. -/
theorem clone_pks {w : World} {ao : Option Addr} {n cap : Nat} {L : List Pk} (h : SlAt w 3 (.slice ao n cap) n (L.flatMap pkVs)) (hao : ∀ ad, ao = some ad → ad.spot = none) (hsm : n ≤ 1000) :
    Calls Tryz.prog 175 #[.slice ao n cap] w (fun e w' => ∃ ao' cap', e = .returned (.slice ao' n cap') ∧ RowO w' 54 3 ao' n cap' (L.flatMap pkVs) ∧ (∀ c ∈ blkO ao', w.heap.size ≤ c) ∧ Upd [] w w') := by
  obtain ⟨i0, hi0, hz0, hz1, hz2⟩ := info_parts infoPk
  have h1 : ∀ u ∈ L.flatMap pkVs, u.oneCell' = true := fun u hu => by obtain ⟨p, _, hp⟩ := List.mem_flatMap.1 hu; exact pkVs_one p u hp
  obtain ⟨ao2, cap2, e, hm, hl, h4⟩ := h
  cases e
  cases ao with
  | none =>
    have hcon := AnyE.slices_Clone_nil Tryz.laysPkClone n cap w
    change Calls Tryz.prog 175 _ _ _ at hcon
    refine hcon.mono ?_
    rintro e w' ⟨rfl, rfl⟩
    have hn : n = 0 := by rcases h4 with h | ⟨b, off, h, _⟩; exact h; cases h
    subst hn
    have hx : L.flatMap pkVs = [] := List.eq_nil_of_length_eq_zero (by simpa using hl)
    rw [hx]
    exact ⟨none, 0, rfl, RowO.nil _ _ _, fun c hc => (by cases hc), Upd.refl _ _⟩
  | some ad =>
    obtain ⟨b, off, sp⟩ := ad
    have hsp : sp = none := hao _ rfl
    subst hsp
    have hc : ∀ j u, (L.flatMap pkVs)[j]? = some u → w.cell? ⟨b, off + j, none⟩ = some u := by
      rcases h4 with rfl | ⟨b', off', e, hb, hc⟩
      · have hx : L.flatMap pkVs = [] := List.eq_nil_of_length_eq_zero (by simpa using hl)
        rw [hx]
        intro j u hj
        cases hj
      · cases e
        exact hc
    have hcon := AnyE.slices_Clone Tryz.laysPkClone i0 _ 3 24 hi0 hz0 hz1 hz2 rfl (by omega) Tryz.sizeOf54 b off n cap (L.flatMap pkVs) w hl hm (by omega) hc h1
    change Calls Tryz.prog 175 _ _ _ at hcon
    refine hcon.mono ?_
    rintro e w' ⟨v', rfl, hown, hne, hbel⟩
    rcases hown.2 with ⟨h1, _⟩ | ⟨g', cap', cur, h1, h2, h3⟩
    · exact absurd h1 hne
    · refine ⟨some ⟨g', 0, none⟩, cap', by rw [h1], ⟨hown.1, .inr ⟨g', cap', cur, rfl, Nat.zero_le _, h3⟩⟩, fun c hc => by simp [blkO] at hc; omega, Upd.of_below hbel⟩
def headV (f : Fl) : Value := match f.L with
  | [] => .tuple #[pkV zPk, .bool false]
  | p :: _ => .tuple #[pkV p, .bool true]

set_option maxHeartbeats 1000000 in
theorem PFl.head {w : World} {e : Ent} (h : PFl w e) : Calls Tryz.prog 162 #[.pointer (some ⟨e.b, 0, none⟩)] w (RetUpd [] w (headV e.f)) := by
  obtain ⟨-, -, c2, -, -, lb⟩ := h.cells
  cases hL : e.f.L with
  | nil =>
    have hs : headV e.f = .tuple #[.agg #[.int .i64 0, .int .i64 0, .int .i64 0], .bool false] := by unfold headV; rw [hL]; rfl
    rw [hL, List.length_nil] at c2
    rw [hs]
    clear h hL hs
    go_enter Tryz.func162, Tryz.ntmps162
    go_wp2_with fail
    refine bodyPost_ret (v := .tuple #[.agg #[.int .i64 0, .int .i64 0, .int .i64 0], .bool false]) (by simp [results, Tryz.results162, go_sem]) rfl ?_
    exact ⟨rfl, by
      first
      | exact (Upd.refl [] w).alloc _
      | exact ((((Upd.refl [] w).alloc _).setCell (.inr (by simp)) _).setCell (.inr (by simp)) _).setCell (.inr (by simp)) _⟩
  | cons p l =>
    have hs : headV e.f = .tuple #[.agg #[.int .i64 p.flow, .int .i64 p.len, .int .i64 p.mark], .bool true] := by unfold headV; rw [hL]; rfl
    obtain ⟨n, hn⟩ : ∃ n, e.f.L.length = n := ⟨_, rfl⟩
    have hn1 : 0 < n := by rw [← hn, hL]; simp
    obtain ⟨g, hg, hrow⟩ := h.row.row (by omega)
    rw [hn] at c2
    rw [hg] at c2
    have x0 := hrow.cell (j := 0) (v := .int .i64 p.flow) (by rw [hL, List.flatMap_cons]; rfl)
    have x1 := hrow.cell (j := 1) (v := .int .i64 p.len) (by rw [hL, List.flatMap_cons]; rfl)
    have x2 := hrow.cell (j := 2) (v := .int .i64 p.mark) (by rw [hL, List.flatMap_cons]; rfl)
    have lg := hrow.lt
    have b1 : (0 : Int) < (n : Int) := by omega
    have t1 : (n == 0) = false := by simp; omega
    have t2 : ((n : Int) == 0) = false := by simp; omega
    rw [hs]
    clear h hL hs hn hrow
    go_enter Tryz.func162, Tryz.ntmps162
    go_wp2_with fail
    refine bodyPost_ret (v := .tuple #[.agg #[.int .i64 p.flow, .int .i64 p.len, .int .i64 p.mark], .bool true]) (by simp [results, Tryz.results162, go_sem]) rfl ?_
    exact ⟨rfl, by
      first
      | exact (Upd.refl [] w).alloc _
      | exact ((((Upd.refl [] w).alloc _).setCell (.inr (by simp)) _).setCell (.inr (by simp)) _).setCell (.inr (by simp)) _⟩
theorem PFlT.trans {w w1 w2 : World} {e : Ent} {f1 f2 : Fl} (h : PFlT w e f1 w1) (k : ∀ e1 : Ent, e1.b = e.b → e1.f = f1 → PFl w1 e1 → PFlT w1 e1 f2 w2) : PFlT w e f2 w2 := by
  obtain ⟨ao, cap, h1, h2, h3⟩ := h
  obtain ⟨ao2, cap2, k1, k2, k3⟩ := k ⟨e.b, f1, ao, cap⟩ rfl rfl h1
  have hs := h3.size
  refine ⟨ao2, cap2, k1, fun c hc => ?_, h3.then k3 (fun _ _ h => h) (fun i hi hm => ?_)⟩
  · rcases k2 c hc with h | h
    · exact h2 c h
    · exact .inr (by omega)
  · simp only [entB, List.mem_cons] at hm ⊢
    rcases hm with h | h
    · exact .inl h
    · rcases h2 i h with h | h
      · exact .inr h
      · omega

/-- Numbers of a flow are set: its row stays. -/
theorem PFl.nums {w w' : World} {e : Ent} {f' : Fl} (h : PFl w e) (hU : Upd [e.b] w w') (hB : Blk w' e.b 192 [.int .u64 f'.r, .int .i64 f'.most, .slice e.ao f'.L.length e.cap, .int .u64 f'.start, .int .u64 f'.fin]) (h1 : f'.L = e.f.L) (hok : FlOk f') : PFlT w e f' w' := by
  refine ⟨e.ao, e.cap, { blk := hB, row := ?_, d := h.d, ok := hok }, fun c hc => .inl hc, hU.mono (fun i _ hi => by simp only [List.mem_cons, List.not_mem_nil, or_false] at hi; simp [entB, hi])⟩
  simp only [h1]
  exact h.row.upd hU (fun c hc e2 => by simp only [List.mem_cons, List.not_mem_nil, or_false] at e2; exact h.d (e2 ▸ hc))
def flCh (f : Fl) (p : Pk) : Fl := { f with fin := flFin f p }
def flDr (f : Fl) : Fl := { f with L := f.L.tail }
def flTu (f : Fl) : Fl := { f with start := f.fin }
theorem fl_steps (f : Fl) (p : Pk) : flTu (flDr (flCh f p)) = flTake f p := rfl
theorem FlOk.ch {f : Fl} (h : FlOk f) (p : Pk) : FlOk (flCh f p) := { h with f64 := addT_lt _ _ }
theorem FlOk.dr {f : Fl} (h : FlOk f) : FlOk (flDr f) := { h with len := by have := h.len; show (f.L.tail.length : Int) ≤ f.most; rw [List.length_tail]; omega, lens := fun q hq => h.lens q (List.mem_of_mem_tail hq) }
theorem FlOk.tu {f : Fl} (h : FlOk f) : FlOk (flTu f) := { h with s64 := h.f64 }

set_option maxHeartbeats 1000000 in
theorem PFl.turn {w : World} {e : Ent} (h : PFl w e) : Calls Tryz.prog 165 #[.pointer (some ⟨e.b, 0, none⟩)] w (fun en w' => en = .returned (.tuple #[]) ∧ PFlT w e (flTu e.f) w') := by
  have HH := Lib.hid h
  obtain ⟨-, -, -, c3, c4, lb⟩ := h.cells
  have z3 := h.blk.free 3
  clear h
  go_enter Tryz.func165, Tryz.ntmps165
  go_wp2_with fail
  go_end0
  exact ⟨rfl, HH.out.nums ((Upd.refl [e.b] w).setCell (.inl (by simp)) _) (HH.out.blk.set 3 _) rfl HH.out.ok.tu⟩

set_option maxRecDepth 100000 in
set_option maxHeartbeats 4000000 in
theorem PFl.charge {w : World} {e : Ent} (h : PFl w e) {p : Pk} {l : List Pk} (hL : e.f.L = p :: l) : Calls Tryz.prog 163 #[.pointer (some ⟨e.b, 0, none⟩)] w (fun en w' => en = .returned (.tuple #[]) ∧ PFlT w e (flCh e.f p) w') := by
  have HH := Lib.hid h
  obtain ⟨c0, -, c2, c3, c4, lb⟩ := h.cells
  have hpl : p.len < 9223372036854775808 := h.ok.lens p (by rw [hL]; simp)
  obtain ⟨n, hn⟩ : ∃ n, e.f.L.length = n := ⟨_, rfl⟩
  have HN := Lib.hid hn
  have hn1 : 0 < n := by rw [← hn, hL]; simp
  obtain ⟨g, hg, hrow⟩ := h.row.row (by omega)
  rw [hn] at c2
  rw [hg] at c2
  have x1 := hrow.cell (j := 1) (v := .int .i64 p.len) (by rw [hL, List.flatMap_cons]; rfl)
  have lg := hrow.lt
  have b1 : (0 : Int) < (n : Int) := by omega
  obtain ⟨cst, hcst⟩ : ∃ x, mulT (sizeN p.len) e.f.r = x := ⟨_, rfl⟩
  obtain ⟨fin, hfin⟩ : ∃ x, addT e.f.start cst = x := ⟨_, rfl⟩
  have HFIN : Hid (flFin e.f p = fin) := by unfold Hid flFin; rw [hcst, hfin]
  have HC : Hid (∀ w, Calls Tryz.prog 115 #[.int .i64 p.len, .int .u64 e.f.r] w (fun en w' => en = .returned (.int .u64 cst) ∧ w = w')) := fun w => by rw [← hcst]; exact tgcost p.len hpl e.f.r h.ok.r64 w
  have HA : Hid (∀ w, Calls Tryz.prog 116 #[.int .u64 e.f.start, .int .u64 cst] w (fun en w' => en = .returned (.int .u64 fin) ∧ w = w')) := fun w => by rw [← hfin]; exact tgadd e.f.start cst h.ok.s64 (by rw [← hcst]; exact mulT_lt _ _) w
  have z4 := h.blk.free 4
  have d0 : w.drew.cell? ⟨e.b, 0, none⟩ = some (.int .u64 e.f.r) := c0
  have d2 : w.drew.cell? ⟨e.b, 2, none⟩ = some (.slice (some ⟨g, 0, none⟩) n e.cap) := c2
  have d3 : w.drew.cell? ⟨e.b, 3, none⟩ = some (.int .u64 e.f.start) := c3
  have d4 : w.drew.cell? ⟨e.b, 4, none⟩ = some (.int .u64 e.f.fin) := c4
  have dx : w.drew.cell? ⟨g, 1, none⟩ = some (.int .i64 p.len) := x1
  have db : e.b < w.drew.heap.size := lb
  have dg : g < w.drew.heap.size := lg
  clear h hL hn hrow hcst hfin hg
  go_enter Tryz.func163, Tryz.ntmps163
  refine wp_region_tail 20 (by kernel_rfl) (by kernel_rfl) ?_
  simp only [List.take_succ_cons, List.take_zero, List.drop_succ_cons, List.drop_zero]
  iterate 16 go_big_quiet_step (fail)
  go_big_quiet_step (exact ((HC.out _).mono (fun _ _ h => ⟨h.1, h.2.symm⟩)) _)
  go_big_quiet_step (exact ((HA.out _).mono (fun _ _ h => ⟨h.1, h.2.symm⟩)) _)
  iterate 2 go_big_quiet_step (fail)
  refine wpQuiet_nil ?_
  go_wp2_with fail
  go_end0
  refine ⟨rfl, HH.out.nums (f' := flCh e.f p) ((Upd.refl [e.b] w).setCell (.inl (by simp)) _).drew ?_ rfl (HH.out.ok.ch p)⟩
  have := HH.out.blk.set 4 (.int .u64 fin)
  rw [← HFIN.out] at this ⊢
  exact this

set_option maxRecDepth 100000 in
set_option maxHeartbeats 4000000 in
theorem PFl.drop {w : World} {e : Ent} (h : PFl w e) {p : Pk} {l : List Pk} (hL : e.f.L = p :: l) : Calls Tryz.prog 164 #[.pointer (some ⟨e.b, 0, none⟩)] w (fun en w' => en = .returned (.tuple #[]) ∧ PFlT w e (flDr e.f) w') := by
  have HH := Lib.hid h
  obtain ⟨-, -, c2, -, -, lb⟩ := h.cells
  have hle := h.ok.len
  have hmo := h.ok.most
  obtain ⟨n, hn⟩ : ∃ n, e.f.L.length = n := ⟨_, rfl⟩
  have HN := Lib.hid hn
  have hn1 : 0 < n := by rw [← hn, hL]; simp
  obtain ⟨g, hg, hrow⟩ := h.row.row (by omega)
  have hcap := hrow.parts
  obtain ⟨cur, -, hcap1, hcap2, -, -⟩ := hcap.2
  rw [hn] at c2 hle hrow hcap1
  rw [hg] at c2
  have lg := hrow.lt
  have b1 : (0 : Int) < (n : Int) := by omega
  have b2 : (1 : Int) ≤ (n : Int) := by omega
  have b3 : 1 ≤ e.cap := by omega
  obtain ⟨m, hm⟩ : ∃ m, n - 1 = m := ⟨_, rfl⟩
  have HTL : Hid (e.f.L.tail.length = m) := by unfold Hid; rw [List.length_tail]; omega
  have HM8 : Hid (m ≤ 1000) := by unfold Hid; omega
  have HSL : Hid (∀ off c, (off = 3 ∨ m = 0) → SlAt w 3 (.slice (some ⟨g, off, none⟩) m c) m (e.f.L.tail.flatMap pkVs)) := fun off c ho => by
    refine ⟨_, _, rfl, by unfold maxLen; omega, by rw [flat_len pkVs 3 pkVs_len, HTL.out], ?_⟩
    rcases ho with rfl | h0
    · refine .inr ⟨g, 3, rfl, lg, fun j u hj => hrow.cell ?_⟩
      rw [hL] at hj ⊢
      rw [List.flatMap_cons, List.getElem?_append_right (by rw [pkVs_len]; omega), pkVs_len, show 3 + j - 3 = j by omega]
      exact hj
    · exact .inl h0
  have HOK : Hid (FlOk (flDr e.f)) := h.ok.dr
  have HDB : Hid (e.b ∉ blkO (some (⟨g, 0, none⟩ : Addr))) := by have := h.d; rw [hg] at this; exact this
  have z2 := h.blk.free 2
  clear h hL hcap hn hrow
  go_enter Tryz.func164, Tryz.ntmps164
  by_cases hc1 : e.cap = 1
  · have hm0 : m = 0 := by omega
    have hce : (e.cap == 1) = true := by simp [hc1]
    have HCL := Lib.hid (fun c => clone_pks (HSL.out 0 c (.inr hm0)) (fun ad h => by cases h; rfl) HM8.out)
    rw [hc1] at c2
    clear hc1 hm0 hcap1 hcap2 b3
    go_wp2_with fail
    refine (HCL.out _).mono ?_
    rintro en w2 ⟨ao2, cap2, rfl, hR2, hN2, hU2⟩
    have HR2 := Lib.hid hR2
    have HN2 := Lib.hid hN2
    have HU2 := Lib.hid hU2
    have HB2 := Lib.hid (HH.out.blk.upd hU2 (by simp))
    have u2 := HB2.out.cell (j := 2) rfl
    have f2 := HB2.out.free 2
    have l2 := HB2.out.lt
    clear hR2 hN2 hU2 c2 z2
    go_wp2_with fail
    go_end0
    have hbn : e.b ∉ blkO ao2 := fun h => by have := HN2.out _ h; omega
    have u3 : Upd [e.b] w2 (w2.setCell ⟨e.b, 2, none⟩ (.slice ao2 m cap2)) := (Upd.refl [e.b] w2).setCell (.inl (by simp)) _
    refine ⟨rfl, ao2, cap2, { blk := ?_, row := ?_, d := hbn, ok := HOK.out }, fun c hc => .inr (HN2.out c hc), (HU2.out.nil.trans u3).mono (fun i _ hi => by simp only [List.mem_cons, List.not_mem_nil, or_false] at hi; simp [entB, hi])⟩
    · have := HB2.out.set 2 (.slice ao2 m cap2)
      rw [show (flDr e.f).L.length = m from HTL.out]
      exact this
    · rw [show (flDr e.f).L.length = m from HTL.out]
      exact HR2.out.upd u3 (fun c hc e2 => by simp only [List.mem_cons, List.not_mem_nil, or_false] at e2; exact hbn (e2 ▸ hc))
  · have HCL := Lib.hid (fun c => clone_pks (HSL.out 3 c (.inl rfl)) (fun ad h => by cases h; rfl) HM8.out)
    have hce : (e.cap == 1) = false := by simp [hc1]
    go_wp2_with fail
    refine (HCL.out _).mono ?_
    rintro en w2 ⟨ao2, cap2, rfl, hR2, hN2, hU2⟩
    have HR2 := Lib.hid hR2
    have HN2 := Lib.hid hN2
    have HU2 := Lib.hid hU2
    have HB2 := Lib.hid (HH.out.blk.upd hU2 (by simp))
    have u2 := HB2.out.cell (j := 2) rfl
    have f2 := HB2.out.free 2
    have l2 := HB2.out.lt
    clear hR2 hN2 hU2 c2 z2
    go_wp2_with fail
    go_end0
    have hbn : e.b ∉ blkO ao2 := fun h => by have := HN2.out _ h; omega
    have u3 : Upd [e.b] w2 (w2.setCell ⟨e.b, 2, none⟩ (.slice ao2 m cap2)) := (Upd.refl [e.b] w2).setCell (.inl (by simp)) _
    refine ⟨rfl, ao2, cap2, { blk := ?_, row := ?_, d := hbn, ok := HOK.out }, fun c hc => .inr (HN2.out c hc), (HU2.out.nil.trans u3).mono (fun i _ hi => by simp only [List.mem_cons, List.not_mem_nil, or_false] at hi; simp [entB, hi])⟩
    · have := HB2.out.set 2 (.slice ao2 m cap2)
      rw [show (flDr e.f).L.length = m from HTL.out]
      exact this
    · rw [show (flDr e.f).L.length = m from HTL.out]
      exact HR2.out.upd u3 (fun c hc e2 => by simp only [List.mem_cons, List.not_mem_nil, or_false] at e2; exact hbn (e2 ▸ hc))
end Go.Proofs.YtfeobcmcellcpaaGreat

/-! Oc -/
namespace Go.Proofs.YtfeobcmcellcpaaGreat
open Go.RowKit

def ofM (b : Nat) (f : Nat) : Value := .func (.func f) #[.pointer (some ⟨b, 0, none⟩)] #[]
theorem idx3 (b : Nat) (w : World) : (Instr.index 209 (.agg #[.func (.func 163) #[.pointer (some ⟨b, 0, none⟩)] #[], .func (.func 164) #[.pointer (some ⟨b, 0, none⟩)] #[], .func (.func 165) #[.pointer (some ⟨b, 0, none⟩)] #[]]) (.int .i64 0)).run Tryz.prog w = .ok (.func (.func 163) #[.pointer (some ⟨b, 0, none⟩)] #[]) w ∧
    (Instr.index 209 (.agg #[.func (.func 163) #[.pointer (some ⟨b, 0, none⟩)] #[], .func (.func 164) #[.pointer (some ⟨b, 0, none⟩)] #[], .func (.func 165) #[.pointer (some ⟨b, 0, none⟩)] #[]]) (.int .i64 1)).run Tryz.prog w = .ok (.func (.func 164) #[.pointer (some ⟨b, 0, none⟩)] #[]) w ∧
    (Instr.index 209 (.agg #[.func (.func 163) #[.pointer (some ⟨b, 0, none⟩)] #[], .func (.func 164) #[.pointer (some ⟨b, 0, none⟩)] #[], .func (.func 165) #[.pointer (some ⟨b, 0, none⟩)] #[]]) (.int .i64 2)).run Tryz.prog w = .ok (.func (.func 165) #[.pointer (some ⟨b, 0, none⟩)] #[]) w :=
  ⟨by kernel_rfl, by kernel_rfl, by kernel_rfl⟩
theorem PFlT.then_ {w w1 : World} {e : Ent} {f1 f2 : Fl} {fn : Nat} (h : PFlT w e f1 w1) (k : ∀ e1 : Ent, e1.b = e.b → e1.f = f1 → PFl w1 e1 → Calls Tryz.prog fn #[.pointer (some ⟨e1.b, 0, none⟩)] w1 (fun en w' => en = .returned (.tuple #[]) ∧ PFlT w1 e1 f2 w')) :
    Calls Tryz.prog fn #[.pointer (some ⟨e.b, 0, none⟩)] w1 (fun en w' => en = .returned (.tuple #[]) ∧ PFlT w e f2 w') := by
  obtain ⟨ao, cap, h1, h2, h3⟩ := h
  refine (k ⟨e.b, f1, ao, cap⟩ rfl rfl h1).mono ?_
  rintro en w' ⟨rfl, hk⟩
  obtain ⟨ao2, cap2, k1, k2, k3⟩ := hk
  have hs := h3.size
  refine ⟨rfl, ao2, cap2, k1, fun c hc => ?_, h3.then k3 (fun _ _ h => h) (fun i hi hm => ?_)⟩
  · rcases k2 c hc with h | h
    · exact h2 c h
    · exact .inr (by omega)
  · simp only [entB, List.mem_cons] at hm ⊢
    rcases hm with h | h
    · exact .inl h
    · rcases h2 i h with h | h
      · exact .inr h
      · omega
def ServAt (w : World) (e : Ent) (p : Pk) (kv : Value) (wr : World) : Prop :=
  (kv = .int .i64 0 ∧ PFlT w e e.f wr) ∨ (kv = .int .i64 1 ∧ PFlT w e (flCh e.f p) wr) ∨ (kv = .int .i64 2 ∧ PFlT w e (flDr (flCh e.f p)) wr) ∨ (kv = .int .i64 3 ∧ PFlT w e (flTake e.f p) wr)

set_option maxRecDepth 100000 in
set_option maxHeartbeats 16000000 in
theorem PFl.serve {w : World} {e : Ent} (h : PFl w e) : Calls Tryz.prog 141 #[.pointer (some ⟨e.b, 0, none⟩)] w (fun en w' => en = .returned (serveV e.f) ∧ PFlT w e (serveF e.f) w') := by
  have HH := Lib.hid h
  have lb := h.blk.lt
  cases hL : e.f.L with
  | nil =>
    have HS : Hid (serveV e.f = .tuple #[pkV zPk, .int .u64 0, .bool false] ∧ serveF e.f = e.f) := by unfold Hid serveV serveF; rw [hL]; exact ⟨rfl, rfl⟩
    have HV : Hid (headV e.f = .tuple #[.agg #[.int .i64 0, .int .i64 0, .int .i64 0], .bool false]) := by unfold Hid headV; rw [hL]; rfl
    rw [HS.out.1, HS.out.2]
    clear h hL
    go_enter Tryz.func141, Tryz.ntmps141
    go_wp2_with fail
    have HW := Lib.hid ((HH.out.upd ((Upd.refl [] w).alloc (.cells #[.int .i64 0, .int .i64 0, .int .i64 0] 54)) (by simp)).head)
    rw [HV.out] at HW
    refine HW.out.mono ?_
    rintro en w2 ⟨rfl, hu2⟩
    have HU2 := Lib.hid hu2
    have hz := (Blk.new w 54 [.int .i64 0, .int .i64 0, .int .i64 0]).upd hu2 (by simp)
    have z0 := hz.cell (j := 0) rfl
    have z1 := hz.cell (j := 1) rfl
    have z2 := hz.cell (j := 2) rfl
    have f0 := hz.free 0
    have f1 := hz.free 1
    have f2 := hz.free 2
    have lz := hz.lt
    have HZ := Lib.hid hz
    clear hu2 hz
    go_wp2_with fail
    have hz3 := (((HZ.out.set 0 (.int .i64 0)).set 1 (.int .i64 0)).set 2 (.int .i64 0)).alloc (.cells #[.int .i64 0, .int .i64 0, .int .i64 0] 54)
    have q0 := hz3.cell (j := 0) rfl
    have q1 := hz3.cell (j := 1) rfl
    have q2 := hz3.cell (j := 2) rfl
    refine bodyPost_ret (v := .tuple #[.agg #[.int .i64 0, .int .i64 0, .int .i64 0], .int .u64 0, .bool false]) (by simp [results, Tryz.results141, go_sem, q0, q1, q2, z0, z1, z2, lz]) rfl ?_
    have u3 : Upd [] w _ := ((((((Upd.refl [] w).alloc (.cells #[.int .i64 0, .int .i64 0, .int .i64 0] 54)).trans HU2.out).setCell (p := ⟨w.heap.size, 0, none⟩) (.inr (Nat.le_refl _)) (.int .i64 0)).setCell (p := ⟨w.heap.size, 1, none⟩) (.inr (Nat.le_refl _)) (.int .i64 0)).setCell (p := ⟨w.heap.size, 2, none⟩) (.inr (Nat.le_refl _)) (.int .i64 0)).alloc (.cells #[.int .i64 0, .int .i64 0, .int .i64 0] 54)
    exact ⟨rfl, PFlT.same HH.out u3⟩
  | cons p l =>
    have HS : Hid (serveV e.f = .tuple #[pkV p, .int .u64 (flFin e.f p), .bool true] ∧ serveF e.f = flTake e.f p) := by unfold Hid serveV serveF; rw [hL]; exact ⟨rfl, rfl⟩
    have HV : Hid (headV e.f = .tuple #[.agg #[.int .i64 p.flow, .int .i64 p.len, .int .i64 p.mark], .bool true]) := by unfold Hid headV; rw [hL]; rfl
    have HL := Lib.hid hL
    rw [HS.out.1, HS.out.2]
    clear h hL
    go_enter Tryz.func141, Tryz.ntmps141
    go_wp2_with fail
    have HW := Lib.hid ((HH.out.upd ((Upd.refl [] w).alloc (.cells #[.int .i64 0, .int .i64 0, .int .i64 0] 54)) (by simp)).head)
    rw [HV.out] at HW
    refine HW.out.mono ?_
    rintro en w2 ⟨rfl, hu2⟩
    have HU2 := Lib.hid hu2
    have hz := (Blk.new w 54 [.int .i64 0, .int .i64 0, .int .i64 0]).upd hu2 (by simp)
    have HZ := Lib.hid hz
    clear hu2 hz
    go_wp2_with fail
    obtain ⟨w3, hw3⟩ : ∃ y, w2.alloc (.cells #[.int .i64 p.flow, .int .i64 p.len, .int .i64 p.mark] 54) = y := ⟨_, rfl⟩
    obtain ⟨bp, hbp⟩ : ∃ y, w2.heap.size = y := ⟨_, rfl⟩
    obtain ⟨bz, hbz⟩ : ∃ y, w.heap.size = y := ⟨_, rfl⟩
    have hb3 := Blk.new w2 54 [.int .i64 p.flow, .int .i64 p.len, .int .i64 p.mark]
    have hu3 : Upd [] w2 w3 := by rw [← hw3]; exact (Upd.refl [] w2).alloc _
    have hz3 := HZ.out.upd hu3 (by simp)
    rw [hw3, hbp] at hb3
    have hlz := HZ.out.lt
    have HZP : Hid (bz < bp) := by unfold Hid; omega
    rw [hbz] at hz3
    have HU3 : Hid (Upd [] w w3) := ((Upd.refl [] w).alloc (.cells #[.int .i64 0, .int .i64 0, .int .i64 0] 54)).trans (HU2.out.trans hu3)
    have HB3 := Lib.hid hb3
    have HZ3 := Lib.hid hz3
    have HE3 := Lib.hid (HH.out.upd HU3.out (by simp))
    have HBZ := Lib.hid hbz
    have HNZ : Hid (∀ c ∈ entB e, c < bz) := fun c hc => by have := HH.out.lt c hc; omega
    rw [hw3, hbp, hbz]
    clear hb3 hu3 hz3 hw3 hbp hbz hlz HZ HU2 HW lb
    go_loopw [24] (fun kv wr => ServAt w3 e p kv wr) (fun kv _ => 3 - (intOf kv).toNat)
    case atStart => exact .inl ⟨rfl, PFlT.same HE3.out (Upd.refl _ _)⟩
    case round =>
      rcases hrel with ⟨rfl, hT⟩ | ⟨rfl, hT⟩ | ⟨rfl, hT⟩ | ⟨rfl, hT⟩
      · have HC := Lib.hid (hT.then_ (f2 := flCh e.f p) (fun e1 _ h2 h3 => by rw [← h2]; exact h3.charge (p := p) (l := l) (by rw [h2]; exact HL.out)))
        obtain ⟨i0, i1, i2⟩ := idx3 e.b wr
        clear hT
        go_wp2_with fail
        refine HC.out.mono ?_
        rintro en w5 ⟨rfl, hk⟩
        have HK := Lib.hid hk
        clear hk
        go_wp2_with fail
        exact ⟨.inr (.inl ⟨rfl, HK.out⟩), by simp [intOf]⟩
      · have HC := Lib.hid (hT.then_ (f2 := flDr (flCh e.f p)) (fun e1 _ h2 h3 => by rw [← h2]; exact h3.drop (p := p) (l := l) (by rw [h2]; exact HL.out)))
        obtain ⟨i0, i1, i2⟩ := idx3 e.b wr
        clear hT
        go_wp2_with fail
        refine HC.out.mono ?_
        rintro en w5 ⟨rfl, hk⟩
        have HK := Lib.hid hk
        clear hk
        go_wp2_with fail
        exact ⟨.inr (.inr (.inl ⟨rfl, HK.out⟩)), by simp [intOf]⟩
      · have HC := Lib.hid (hT.then_ (f2 := flTu (flDr (flCh e.f p))) (fun e1 _ h2 h3 => by rw [← h2]; exact h3.turn))
        obtain ⟨i0, i1, i2⟩ := idx3 e.b wr
        clear hT
        go_wp2_with fail
        refine HC.out.mono ?_
        rintro en w5 ⟨rfl, hk⟩
        have HK := Lib.hid hk
        clear hk
        go_wp2_with fail
        exact ⟨.inr (.inr (.inr ⟨rfl, HK.out⟩)), by simp [intOf]⟩
      · have HT := Lib.hid hT
        obtain ⟨ao, cap, h1, h2, h3⟩ := hT
        obtain ⟨-, -, -, -, c4, lb⟩ := h1.cells
        have hzn : bz ∉ entB e := fun hm => by have := HNZ.out _ hm; omega
        have hpn : bp ∉ entB e := fun hm => by have := HNZ.out _ hm; have := HZP.out; omega
        have hb := HB3.out.upd h3 hpn
        have hz := HZ3.out.upd h3 hzn
        have HZ4 := Lib.hid hz
        have v0 := hb.cell (j := 0) rfl
        have v1 := hb.cell (j := 1) rfl
        have v2 := hb.cell (j := 2) rfl
        have lp := hb.lt
        have q0 := hz.cell (j := 0) rfl
        have q1 := hz.cell (j := 1) rfl
        have q2 := hz.cell (j := 2) rfl
        have p0 := hz.free 0
        have p1 := hz.free 1
        have p2 := hz.free 2
        have lz := hz.lt
        obtain ⟨fin, hfin⟩ : ∃ y, flFin e.f p = y := ⟨_, rfl⟩
        have c5 : wr.cell? ⟨e.b, 4, none⟩ = some (.int .u64 fin) := by rw [← hfin]; exact c4
        have nbp : bp ≠ bz := by have := HZP.out; omega
        have nbe : e.b ≠ bz := by have := HNZ.out e.b (by simp [entB]); omega
        have HFI := Lib.hid hfin
        clear h1 h2 h3 hb hz hzn hpn c4 hfin
        go_upto_region 9 with (fail)
        go_region
        all_goals
          go_wp2_with fail
          refine bodyPost_ret (v := .tuple #[.agg #[.int .i64 p.flow, .int .i64 p.len, .int .i64 p.mark], .int .u64 fin, .bool true]) (by simp [results, Tryz.results141, go_sem, q0, q1, q2, lz]) rfl ?_
          obtain ⟨ao, cap, h1, h2, h3⟩ := HT.out
          have u6 : Upd [bz] wr ((((wr.setCell ⟨bz, 0, none⟩ (.int .i64 p.flow)).setCell ⟨bz, 1, none⟩ (.int .i64 p.len)).setCell ⟨bz, 2, none⟩ (.int .i64 p.mark)).drew) := ((((Upd.refl [bz] wr).setCell (.inl (by simp)) _).setCell (.inl (by simp)) _).setCell (.inl (by simp)) _).drew
          have hz3 := HZ3.out.lt
          refine ⟨by rw [HFI.out]; rfl, ao, cap, h1.upd u6 (fun c hc e2 => ?_), fun c hc => ?_, ?_⟩
          · simp only [List.mem_cons, List.not_mem_nil, or_false] at e2
            subst e2
            rcases List.mem_cons.1 hc with h | h
            · exact nbe h.symm
            · rcases h2 _ h with h | h
              · exact absurd (HNZ.out c (by simp [entB, h])) (Nat.lt_irrefl _)
              · omega
          · rcases h2 _ hc with h | h
            · exact .inl h
            · have := HU3.out.size; exact .inr (by omega)
          · exact (HU3.out.then h3 (fun _ _ h => by cases h) (fun _ _ h => h)).then u6 (fun _ _ h => h) (fun i hi hm => by simp only [List.mem_cons, List.not_mem_nil, or_false] at hm; have := HBZ.out; omega)
end Go.Proofs.YtfeobcmcellcpaaGreat

/-! Od -/
namespace Go.Proofs.YtfeobcmcellcpaaGreat
open Go.RowKit

section
variable {W w w' w6 w7 : World} {sb fb : Nat} {Z : List Ent} {v most : Nat}
theorem flM_set {Z : List Ent} {k : Nat} {e e' : Ent} (he : Z[k]? = some e) (hb : e'.b = e.b) (hid : e'.f.id = e.f.id) : flM (Z.set k e') = flM Z := by
  unfold flM
  apply List.ext_getElem?
  intro j
  rw [List.getElem?_map, List.getElem?_map, List.getElem?_set]
  split
  · rename_i h; subst h
    have hk := (List.getElem?_eq_some_iff.1 he).1
    simp only [hk, if_true, he, Option.map_some, entV, hb, hid]
  · rfl
theorem ids_set {Z : List Ent} {k : Nat} {e e' : Ent} (he : Z[k]? = some e) (hid : e'.f.id = e.f.id) : (Z.set k e').map (·.f.id) = Z.map (·.f.id) := by
  apply List.ext_getElem?
  intro j
  rw [List.getElem?_map, List.getElem?_map, List.getElem?_set]
  split
  · rename_i h; subst h
    have hk := (List.getElem?_eq_some_iff.1 he).1
    simp only [hk, if_true, he, Option.map_some, hid]
  · rfl
theorem PS.put {k : Nat} {e e' : Ent} (h : PS W w sb fb Z v most) (he : Z[k]? = some e) (hb : e'.b = e.b) (hid : e'.f.id = e.f.id) (hat : PFl w' e') (hn : ∀ c ∈ blkO e'.ao, c ∈ blkO e.ao ∨ w.heap.size ≤ c) (hu : Upd (entB e) w w') :
    PS W w' sb fb (Z.set k e') v most ∧ Fr (psB sb fb Z) (psB sb fb (Z.set k e')) w w' := by
  have hm : e ∈ Z := List.mem_of_getElem? he
  have hi := (List.getElem?_eq_some_iff.1 he).1
  have hW : W.heap.size ≤ w.heap.size := by have := h.new.1; have := h.blk.lt; omega
  have hsub : ∀ c ∈ entB e', c ∈ entB e ∨ w.heap.size ≤ c := fun c hc => by
    rcases List.mem_cons.1 hc with rfl | hc
    · exact .inl (by simp [entB, hb])
    · exact (hn c hc).imp (fun k => by simp [entB, k]) id
  have hother : ∀ j x, j ≠ k → Z[j]? = some x → ∀ c ∈ entB x, c ∉ entB e := fun j x hji hx c hc hce => by
    obtain ⟨hj, rfl⟩ := List.getElem?_eq_some_iff.1 hx
    obtain ⟨_, rfl⟩ := List.getElem?_eq_some_iff.1 he
    rcases Nat.lt_or_ge j k with hlt | hge
    · exact List.pairwise_iff_getElem.1 h.dis j k hj hi hlt c hc hce
    · exact List.pairwise_iff_getElem.1 h.dis k j hi hj (by omega) c hce hc
  have hmem : ∀ x ∈ Z.set k e', x = e' ∨ ∃ j, j ≠ k ∧ Z[j]? = some x := fun x hx => by
    obtain ⟨j, hj, rfl⟩ := List.getElem_of_mem hx
    rw [List.length_set] at hj
    by_cases e1 : k = j
    · left; subst e1; simp
    · right; exact ⟨j, fun q => e1 q.symm, by rw [List.getElem_set_ne e1]; exact List.getElem?_eq_getElem hj⟩
  have hsb : sb ∉ entB e := fun hc => (h.own e hm sb hc).1 rfl
  have hfb : fb ∉ entB e := fun hc => (h.own e hm fb hc).2 rfl
  refine ⟨{ h with
    blk := h.blk.upd hu hsb
    map := by rw [flM_set he hb hid]; exact h.map.upd hu hfb
    ents := fun x hx => by
      rcases hmem x hx with rfl | ⟨j, hji, hxj⟩
      · exact hat
      · exact (h.ents x (List.mem_of_getElem? hxj)).upd hu (hother j x hji hxj)
    dis := by
      rw [List.pairwise_iff_getElem]
      intro a b ha hb2 hab c hc hc2
      rw [List.length_set] at ha hb2
      rw [List.getElem_set] at hc hc2
      split at hc
      · rename_i q; subst q
        rw [if_neg (by omega)] at hc2
        rcases hsub c hc with q | q
        · exact hother b _ (by omega) (List.getElem?_eq_getElem hb2) c hc2 q
        · have := (h.ents _ (List.getElem_mem hb2)).lt c hc2; omega
      · split at hc2
        · rename_i k1 q; subst q
          rcases hsub c hc2 with q | q
          · exact hother a _ (by omega) (List.getElem?_eq_getElem ha) c hc q
          · have := (h.ents _ (List.getElem_mem ha)).lt c hc; omega
        · exact List.pairwise_iff_getElem.1 h.dis a b ha hb2 hab c hc hc2
    own := fun x hx c hc => by
      rcases hmem x hx with rfl | ⟨j, hji, hxj⟩
      · rcases hsub c hc with q | q
        · exact h.own e hm c q
        · exact ⟨fun k2 => by have := h.blk.lt; omega, fun k2 => by have := h.map.lt; omega⟩
      · exact h.own x (List.mem_of_getElem? hxj) c hc
    newE := fun x hx c hc => by
      rcases hmem x hx with rfl | ⟨j, hji, hxj⟩
      · rcases hsub c hc with q | q
        · exact h.newE e hm c q
        · omega
      · exact h.newE x (List.mem_of_getElem? hxj) c hc
    nd := by rw [ids_set he hid]; exact h.nd }, fun c hc => ?_, hu.mono (fun c _ hc => psB_ent hm hc)⟩
  rcases mem_psB.1 hc with rfl | rfl | ⟨x, hx, hcx⟩
  · left; simp [psB]
  · left; simp [psB]
  · rcases hmem x hx with rfl | ⟨j, hji, hxj⟩
    · exact (hsub c hcx).imp (fun k => psB_ent hm k) id
    · left; exact psB_ent (List.mem_of_getElem? hxj) hcx
theorem PS.add {e : Ent} (h : PS W w sb fb Z v most) (hU : Upd [] w w6) (hE : PFl w6 e) (hnew : ∀ c ∈ entB e, w.heap.size ≤ c) (hid : ∀ x ∈ Z, x.f.id ≠ e.f.id) (hm : MapTo w6 fb (flM (Z ++ [e])) w7) :
    PS W w7 sb fb (Z ++ [e]) v most ∧ Fr (psB sb fb Z) (psB sb fb (Z ++ [e])) w w7 := by
  have hW : W.heap.size ≤ w.heap.size := by have := h.new.1; have := h.blk.lt; omega
  have hsw := h.blk.lt
  have hfw := h.map.lt
  have hall : ∀ x ∈ Z ++ [e], x ∈ Z ∨ x = e := fun x hx => by rcases List.mem_append.1 hx with h | h; exact .inl h; exact .inr (by simpa using h)
  refine ⟨{ h with
    blk := (h.blk.upd hU (by simp)).upd hm.upd (by simpa using h.d)
    map := hm.map
    ents := fun x hx => by
      rcases hall x hx with hx | rfl
      · exact ((h.ents x hx).upd hU (by simp)).upd hm.upd (fun c hc e2 => by simp only [List.mem_cons, List.not_mem_nil, or_false] at e2; exact (h.own x hx c hc).2 e2)
      · exact hE.upd hm.upd (fun c hc e2 => by simp only [List.mem_cons, List.not_mem_nil, or_false] at e2; have := hnew c hc; omega)
    dis := by
      rw [List.pairwise_append]
      refine ⟨h.dis, List.pairwise_singleton _ _, fun a ha b hb c hc hc2 => ?_⟩
      simp only [List.mem_cons, List.not_mem_nil, or_false] at hb
      subst hb
      have := (h.ents a ha).lt c hc; have := hnew c hc2; omega
    own := fun x hx c hc => by
      rcases hall x hx with hx | rfl
      · exact h.own x hx c hc
      · have := hnew c hc; exact ⟨by omega, by omega⟩
    newE := fun x hx c hc => by
      rcases hall x hx with hx | rfl
      · exact h.newE x hx c hc
      · have := hnew c hc; omega
    nd := by
      rw [List.map_append, List.nodup_append]
      refine ⟨h.nd, by simp, fun a ha b hb => ?_⟩
      obtain ⟨x, hx, rfl⟩ := List.mem_map.1 ha
      simp only [List.map_cons, List.map_nil, List.mem_cons, List.not_mem_nil, or_false] at hb
      subst hb
      exact hid x hx }, fun c hc => ?_, hU.nil.trans (hm.upd.mono (fun c _ hc => by simp only [List.mem_cons, List.not_mem_nil, or_false] at hc; subst hc; simp [psB]))⟩
  rcases mem_psB.1 hc with rfl | rfl | ⟨x, hx, hcx⟩
  · left; simp [psB]
  · left; simp [psB]
  · rcases hall x hx with hx | rfl
    · left; exact psB_ent hx hcx
    · right; exact hnew c hcx
theorem flM_erase : ∀ {Z : List Ent} {k : Nat} {e : Ent}, (Z.map (·.f.id)).Nodup → Z[k]? = some e → delM (flM Z) e.f.id = flM (Z.eraseIdx k) := by
  intro Z
  induction Z with
  | nil => intro k e _ h; simp at h
  | cons x Z ih =>
    intro k e hn h
    simp only [List.map_cons, List.nodup_cons] at hn
    cases k with
    | zero =>
      simp only [List.getElem?_cons_zero, Option.some.injEq] at h
      subst h
      simp [flM, delM]
    | succ k =>
      simp only [List.getElem?_cons_succ] at h
      have hne : e.f.id ≠ x.f.id := fun hh => hn.1 (by rw [← hh]; exact List.mem_map_of_mem (List.mem_of_getElem? h))
      have := ih hn.2 h
      simp only [flM, List.map_cons, delM, List.eraseIdx_cons_succ] at this ⊢
      rw [if_neg hne, this]
theorem PS.erase {k : Nat} (h : PS W w sb fb Z v most) (hm : MapTo w fb (flM (Z.eraseIdx k)) w7) :
    PS W w7 sb fb (Z.eraseIdx k) v most ∧ Fr (psB sb fb Z) (psB sb fb (Z.eraseIdx k)) w w7 := by
  have hmem : ∀ x ∈ Z.eraseIdx k, x ∈ Z := fun x hx => List.mem_of_mem_eraseIdx hx
  refine ⟨{ h with
    blk := h.blk.upd hm.upd (by simpa using h.d)
    map := hm.map
    ents := fun x hx => (h.ents x (hmem x hx)).upd hm.upd (fun c hc e2 => by simp only [List.mem_cons, List.not_mem_nil, or_false] at e2; exact (h.own x (hmem x hx) c hc).2 e2)
    dis := h.dis.sublist (List.eraseIdx_sublist Z k)
    own := fun x hx c hc => h.own x (hmem x hx) c hc
    newE := fun x hx c hc => h.newE x (hmem x hx) c hc
    nd := h.nd.sublist ((List.eraseIdx_sublist Z k).map _) }, fun c hc => ?_, hm.upd.mono (fun c _ hc => by simp only [List.mem_cons, List.not_mem_nil, or_false] at hc; subst hc; simp [psB])⟩
  rcases mem_psB.1 hc with rfl | rfl | ⟨x, hx, hcx⟩
  · left; simp [psB]
  · left; simp [psB]
  · left; exact psB_ent (hmem x hx) hcx
end
theorem srt_set {F : List Fl} {i : Nat} {f f' : Fl} (h : F.Pairwise (fun a b => a.id < b.id)) (hf : F[i]? = some f) (hid : f'.id = f.id) : (F.set i f').Pairwise (fun a b => a.id < b.id) := by
  rw [List.pairwise_iff_getElem]
  intro a b ha hb2 hab
  rw [List.length_set] at ha hb2
  have key := List.pairwise_iff_getElem.1 h a b ha hb2 hab
  obtain ⟨_, hze⟩ := List.getElem?_eq_some_iff.1 hf
  rw [List.getElem_set, List.getElem_set]
  split
  · rename_i k; subst k
    rw [if_neg (by omega), hid, ← hze]; exact key
  · split
    · rename_i k; subst k
      rw [hid, ← hze]; exact key
    · exact key
end Go.Proofs.YtfeobcmcellcpaaGreat

/-! Oe -/
namespace Go.Proofs.YtfeobcmcellcpaaGreat
open Go.RowKit

theorem PG.v_ {W w : World} {sb : Nat} {S : Sf} {G : List Nat} (h : PG W sb S G w) : Calls Tryz.prog 65 #[.pointer (some ⟨sb, 0, none⟩)] w (fun en w' => en = .returned (.int .u64 S.v) ∧ w = w') := by
  obtain ⟨fb, Z, h, -, -, -⟩ := h
  obtain ⟨-, c1, -, l⟩ := h.cells
  clear h
  go_enter Tryz.func65, Tryz.ntmps65
  go_wp2
  go_ret
  exact ⟨rfl, rfl⟩

/-- A flow of it has changed. -/
theorem PG.put {W w w0 w' : World} {sb fb : Nat} {S : Sf} {G : List Nat} {Z : List Ent} {i k : Nat} {e : Ent} {f' : Fl} (h : PS W w sb fb Z S.v S.most) (hp : (Z.map (·.f)).Perm S.F) (hs : S.F.Pairwise (fun a b => a.id < b.id)) (hG : G = psB sb fb Z) (hu0 : Upd [] w w0)
    (hi : S.F[i]? = some e.f) (hk : Z[k]? = some e) (hid : f'.id = e.f.id) (hT : PFlT w0 e f' w') : PTo W sb { S with F := S.F.set i f' } G w w' := by
  obtain ⟨ao, cap, h1, h2, h3⟩ := hT
  obtain ⟨k1, k2⟩ := (h.upd hu0).put (e' := ⟨e.b, f', ao, cap⟩) hk rfl hid h1 h2 h3
  refine ⟨_, ⟨fb, _, k1, ?_, srt_set hs hi hid, rfl⟩, by rw [hG]; exact (Fr.of hu0).trans k2⟩
  rw [List.map_set]
  exact (perm_set hp (by rw [List.getElem?_map, hk]; rfl) hi f').1
theorem lookFl {w : World} {fb : Nat} {M : AL} (h : IMap w fb M) (id : Int) : (Instr.lookup 158 (.map (some fb)) (.int .i64 id) false).run Tryz.prog w = .ok ((lookM M id).getD (.pointer none)) w := by
  have := h.look underlyingFlowMap underlyingIntM zeroFlowP id false
  simpa using this

set_option maxRecDepth 100000 in
set_option maxHeartbeats 8000000 in
theorem PG.arrive {W w : World} {sb : Nat} {S : Sf} {G : List Nat} (h : PG W sb S G w) (p : Pk) (hp : p.len < 9223372036854775808) :
    Calls Tryz.prog 123 #[.pointer (some ⟨sb, 0, none⟩), .agg #[.int .i64 p.flow, .int .i64 p.len, .int .i64 p.mark]] w (fun e w' => e = .returned (.int .i64 (arrCode S p)) ∧ PTo W sb (arrS S p) G w w') := by
  have HG := Lib.hid h
  obtain ⟨fb, Z, hz, hperm, hsrt, hGe⟩ := h
  obtain ⟨wa, hwa⟩ : ∃ x, w.alloc (.cells #[.int .i64 p.flow, .int .i64 p.len, .int .i64 p.mark] 54) = x := ⟨_, rfl⟩
  have HUA : Hid (Upd [] w wa) := by rw [← hwa]; exact (Upd.refl [] w).alloc _
  have hbx : Blk wa w.heap.size 54 (pkVs p) := by rw [← hwa]; exact Blk.new w 54 (pkVs p)
  obtain ⟨bx, hbb⟩ : ∃ y, w.heap.size = y := ⟨_, rfl⟩
  rw [hbb] at hbx
  have y0 := hbx.cell (j := 0) rfl
  have y1 := hbx.cell (j := 1) rfl
  have y2 := hbx.cell (j := 2) rfl
  have lbx := hbx.lt
  have d0 : wa.drew.cell? ⟨bx, 0, none⟩ = some (.int .i64 p.flow) := y0
  have d1 : wa.drew.cell? ⟨bx, 1, none⟩ = some (.int .i64 p.len) := y1
  have d2 : wa.drew.cell? ⟨bx, 2, none⟩ = some (.int .i64 p.mark) := y2
  have ldx : bx < wa.drew.heap.size := lbx
  have hza := hz.upd HUA.out
  obtain ⟨c0, c1, -, lb⟩ := hza.cells
  have e0 : wa.drew.cell? ⟨sb, 0, none⟩ = some (.map (some fb)) := c0
  have le : sb < wa.drew.heap.size := lb
  have hlk := lookFl (w := wa.drew) (fb := fb) (M := flM Z) (hza.map.upd (Upd.refl [] wa).drew (by simp)) p.flow
  rcases pos_look hperm hz.nd p.flow with ⟨hpos, hl, -, -⟩ | ⟨i, k, e, hpos, hi, hk, hid, hl, -⟩
  · have HC : Hid (arrCode S p = 5 ∧ arrS S p = S) := by
      have h1 : arrCode S p = 5 := by unfold arrCode; rw [hpos]; rfl
      exact ⟨h1, by unfold arrS; rw [h1]; rfl⟩
    rw [HC.out.1, HC.out.2]
    rw [hl] at hlk
    simp only [Option.getD_none] at hlk
    clear hz hza hperm hsrt hGe hpos hl hbx hp
    go_enter Tryz.func123, Tryz.ntmps123
    go_upto_region 1 with (fail)
    refine wp_region_tail 6 (by kernel_rfl) (by kernel_rfl) ?_
    simp only [List.take_succ_cons, List.take_zero, List.drop_succ_cons, List.drop_zero]
    iterate 6 go_big_quiet_step (fail)
    refine wpQuiet_nil ?_
    go_wp2_with fail
    go_ret
    exact ⟨rfl, PTo.same HG.out HUA.out.drew⟩
  · rw [hl] at hlk
    simp only [Option.getD_some, entV] at hlk
    obtain ⟨fl, hfl⟩ : ∃ x, flFull e.f = x := ⟨_, rfl⟩
    have hia : flAt S.F (posF S.F p.flow) = e.f := by rw [hpos]; exact flAt_get hi
    have HCC : Hid (arrCode S p = (if fl = true then 9 else 0) ∧ arrS S p = (if fl = true then S else { S with F := S.F.set i (flPut e.f S.v p) })) := by
      have h1 : arrCode S p = (if fl = true then 9 else 0) := by unfold arrCode; rw [hia, hpos, if_neg (by omega), hfl]
      refine ⟨h1, ?_⟩
      unfold arrS
      rw [h1, hia, hpos, Int.toNat_natCast]
      cases fl <;> simp
    rw [HCC.out.1, HCC.out.2]
    have HARR : Hid (∀ w', Upd [] w w' → Calls Tryz.prog 139 #[.pointer (some ⟨e.b, 0, none⟩), .int .u64 S.v, .agg #[.int .i64 p.flow, .int .i64 p.len, .int .i64 p.mark]] w' (fun en w'' => en = .returned (.bool (!fl)) ∧ PFlT w' e (if fl = true then e.f else flPut e.f S.v p) w'')) := fun w' hu => by
      have := ((hz.ents e (List.mem_of_getElem? hk)).upd hu (by simp)).arrive S.v hz.v64 p hp
      rw [hfl] at this
      exact this
    have HPUT : Hid (∀ w0 w' f', Upd [] w w0 → f'.id = e.f.id → PFlT w0 e f' w' → PTo W sb { S with F := S.F.set i f' } G w w') := fun w0 w' f' hu h1 h2 => PG.put hz hperm hsrt hGe hu hi hk h1 h2
    have HSELF : Hid (({ S with F := S.F.set i e.f } : Sf) = S) := by
      obtain ⟨hi2, h2⟩ := List.getElem?_eq_some_iff.1 hi
      unfold Hid
      rw [show S.F.set i e.f = S.F by rw [← h2]; exact List.set_getElem_self hi2]
    obtain ⟨eb, heb⟩ : ∃ y, e.b = y := ⟨_, rfl⟩
    have HEB := Lib.hid heb
    rw [heb] at HARR hlk
    clear hz hza hperm hsrt hGe hpos hl hbx hp hi hk hid hia hfl
    go_enter Tryz.func123, Tryz.ntmps123
    go_upto_region 1 with (fail)
    refine wp_region_tail 6 (by kernel_rfl) (by kernel_rfl) ?_
    simp only [List.take_succ_cons, List.take_zero, List.drop_succ_cons, List.drop_zero]
    iterate 6 go_big_quiet_step (fail)
    refine wpQuiet_nil ?_
    go_upto_region 4 with (fail)
    obtain ⟨wq, hwq⟩ : ∃ y, wa.drew = y := ⟨_, rfl⟩
    have HUQ : Hid (Upd [] w wq) := by rw [← hwq]; exact HUA.out.drew
    have q1 : wq.cell? ⟨sb, 1, none⟩ = some (.int .u64 S.v) := by rw [← hwq]; exact c1
    have lqs : sb < wq.heap.size := by rw [← hwq]; exact lb
    rw [hwq] at d0 d1 d2 ldx ⊢
    have g1 : wq.drew.cell? ⟨sb, 1, none⟩ = some (.int .u64 S.v) := q1
    have lgs : sb < wq.drew.heap.size := lqs
    have k0 : wq.drew.cell? ⟨bx, 0, none⟩ = some (.int .i64 p.flow) := d0
    have k1 : wq.drew.cell? ⟨bx, 1, none⟩ = some (.int .i64 p.len) := d1
    have k2 : wq.drew.cell? ⟨bx, 2, none⟩ = some (.int .i64 p.mark) := d2
    have kl : bx < wq.drew.heap.size := ldx
    clear hwq hlk e0 le c0 c1 lb y0 y1 y2 lbx
    refine wp_region_tail 6 (by kernel_rfl) (by kernel_rfl) ?_
    simp only [List.take_succ_cons, List.take_zero, List.drop_succ_cons, List.drop_zero]
    iterate 6 go_big_quiet_step (fail)
    refine wpQuiet_nil ?_
    go_wp2_with fail
    refine (HARR.out _ HUQ.out.drew).mono ?_
    rintro en w3 ⟨rfl, hT⟩
    have HT := Lib.hid hT
    clear hT
    cases fl with
    | true =>
      go_wp2_with fail
      go_ret
      have := HPUT.out _ _ _ HUQ.out.drew rfl HT.out
      exact ⟨rfl, by simpa [HSELF.out] using this⟩
    | false =>
      go_wp2_with fail
      go_ret
      exact ⟨rfl, HPUT.out _ _ _ HUQ.out.drew rfl HT.out⟩
end Go.Proofs.YtfeobcmcellcpaaGreat

/-! Of -/
namespace Go.Proofs.YtfeobcmcellcpaaGreat
open Go.RowKit

theorem srt_erase {F : List Fl} (h : F.Pairwise (fun a b => a.id < b.id)) (i : Nat) : (F.eraseIdx i).Pairwise (fun a b => a.id < b.id) := h.sublist (List.eraseIdx_sublist F i)
theorem map_erase : ∀ (Z : List Ent) (k : Nat), (Z.eraseIdx k).map (·.f) = (Z.map (·.f)).eraseIdx k
  | [], _ => rfl
  | _ :: _, 0 => rfl
  | x :: Z, k + 1 => by simp only [List.eraseIdx_cons_succ, List.map_cons, map_erase Z k]

set_option maxRecDepth 100000 in
set_option maxHeartbeats 8000000 in
theorem PG.remove {W w : World} {sb : Nat} {S : Sf} {G : List Nat} (h : PG W sb S G w) (id : Int) :
    Calls Tryz.prog 122 #[.pointer (some ⟨sb, 0, none⟩), .int .i64 id] w (fun e w' => e = .returned (.int .i64 (delE S id)) ∧ PTo W sb (delS S id) G w w') := by
  have HG := Lib.hid h
  obtain ⟨fb, Z, hz, hperm, hsrt, hGe⟩ := h
  obtain ⟨c0, c1, -, lb⟩ := hz.cells
  have hlk := lookFl hz.map id
  rcases pos_look hperm hz.nd id with ⟨hpos, hl, -, -⟩ | ⟨i, k, e, hpos, hi, hk, hid, hl, hix⟩
  · have HC : Hid (delE S id = 5 ∧ delS S id = S) := by
      have h1 : delE S id = 5 := by unfold delE; rw [hpos]; rfl
      exact ⟨h1, by unfold delS; rw [h1]; rfl⟩
    rw [HC.out.1, HC.out.2]
    rw [hl] at hlk
    simp only [Option.getD_none] at hlk
    clear hz hperm hsrt hGe hpos hl
    go_enter Tryz.func122, Tryz.ntmps122
    go_wp2_with fail
    go_ret
    exact ⟨rfl, PTo.same HG.out (Upd.refl _ _)⟩
  · rw [hl] at hlk
    simp only [Option.getD_some, entV] at hlk
    have hia : flAt S.F (posF S.F id) = e.f := by rw [hpos]; exact flAt_get hi
    have HE := Lib.hid (hz.ents e (List.mem_of_getElem? hk))
    have HLEN := Lib.hid (HE.out.len_)
    obtain ⟨n, hn⟩ : ∃ n, e.f.L.length = n := ⟨_, rfl⟩
    rw [hn] at HLEN
    obtain ⟨eb, heb⟩ : ∃ y, e.b = y := ⟨_, rfl⟩
    rw [heb] at hlk HLEN
    by_cases h0 : 0 < n
    · have HC : Hid (delE S id = 8 ∧ delS S id = S) := by
        have h1 : delE S id = 8 := by unfold delE; rw [hia, hpos, if_neg (by omega), hn, if_pos h0]
        exact ⟨h1, by unfold delS; rw [h1]; rfl⟩
      rw [HC.out.1, HC.out.2]
      have t1 : decide (0 < n) = true := by simp [h0]
      have t2 : decide ((0 : Int) < (n : Int)) = true := by simp [h0]
      clear hz hperm hsrt hGe hpos hl hi hk hid hia hn heb hix
      go_enter Tryz.func122, Tryz.ntmps122
      go_wp2_with fail
      refine HLEN.out.mono ?_
      rintro en w3 ⟨rfl, rfl⟩
      go_wp2_with fail
      go_ret
      exact ⟨rfl, PTo.same HG.out (Upd.refl _ _)⟩
    · have HC : Hid (delE S id = 0 ∧ delS S id = { S with F := S.F.eraseIdx i }) := by
        have h1 : delE S id = 0 := by unfold delE; rw [hia, hpos, if_neg (by omega), hn, if_neg h0]
        exact ⟨h1, by unfold delS; rw [h1, hpos, Int.toNat_natCast]; rfl⟩
      rw [HC.out.1, HC.out.2]
      have t1 : decide (0 < n) = false := by simp; omega
      have t2 : decide ((0 : Int) < (n : Int)) = false := by simp; omega
      obtain ⟨w7, hrun, hmt⟩ := hz.map.del underlyingFlowMap underlyingIntM id 0
      have hmt' : MapTo w fb (flM (Z.eraseIdx k)) w7 := by rw [← flM_erase hz.nd hk, hid]; exact hmt
      obtain ⟨k1, k2⟩ := hz.erase hmt'
      have HEND : Hid (PTo W sb { S with F := S.F.eraseIdx i } G w w7) := by
        refine ⟨_, ⟨fb, _, k1, ?_, srt_erase hsrt i, rfl⟩, by rw [hGe]; exact k2⟩
        have := (perm_set hperm (by rw [List.getElem?_map, hk]; rfl) hi e.f).2
        rw [map_erase]
        exact this
      clear hz hperm hsrt hGe hpos hl hi hk hid hia hn heb hix hmt hmt' k1 k2
      go_enter Tryz.func122, Tryz.ntmps122
      go_wp2_with fail
      refine HLEN.out.mono ?_
      rintro en w3 ⟨rfl, rfl⟩
      go_wp2_with fail
      go_ret
      exact ⟨rfl, HEND.out⟩
theorem insF_perm {F : List Fl} {f : Fl} (hn : ∀ g ∈ F, g.id ≠ f.id) : (insF F f).Perm (F ++ [f]) := by
  unfold insF
  have h1 : (F.filter (fun g => decide (g.id < f.id)) ++ F.filter (fun g => decide (f.id < g.id))).Perm F := by
    have h2 : F.filter (fun g => decide (f.id < g.id)) = F.filter (fun g => !decide (g.id < f.id)) := by
      apply List.filter_congr
      intro g hg
      have := hn g hg
      rw [Bool.eq_iff_iff]; simp; omega
    rw [h2]
    exact List.filter_append_perm _ F
  exact (List.perm_middle).trans ((h1.cons f).trans (List.perm_append_singleton f F).symm)
theorem insF_srt {F : List Fl} {f : Fl} (h : F.Pairwise (fun a b => a.id < b.id)) : (insF F f).Pairwise (fun a b => a.id < b.id) := by
  unfold insF
  rw [List.pairwise_append]
  refine ⟨h.sublist List.filter_sublist, ?_, fun a ha b hb => ?_⟩
  · rw [List.pairwise_cons]
    exact ⟨fun b hb => by simpa using (List.mem_filter.1 hb).2, h.sublist List.filter_sublist⟩
  · have h1 : a.id < f.id := by simpa using (List.mem_filter.1 ha).2
    rcases List.mem_cons.1 hb with rfl | hb
    · exact h1
    · have h2 : f.id < b.id := by simpa using (List.mem_filter.1 hb).2
      omega
theorem PS.add_end {W w w5 w7 : World} {sb fb : Nat} {S : Sf} {G : List Nat} {Z : List Ent} {id : Int} {r bn : Nat} {most : Int} (hz : PS W w sb fb Z S.v S.most) (hp : (Z.map (·.f)).Perm S.F) (hs : S.F.Pairwise (fun a b => a.id < b.id)) (hG : G = psB sb fb Z)
    (hix : idxM (flM Z) id 0 = none) (hno : ∀ f ∈ S.F, f.id ≠ id) (hbn : w.heap.size = bn) (hE : PFl w5 ⟨bn, flNew id r most, none, 0⟩) (hU : Upd [] w w5) (hm : MapTo w5 fb (putM (flM Z) id (.pointer (some ⟨bn, 0, none⟩))) w7) :
    PTo W sb { S with F := insF S.F (flNew id r most) } G w w7 := by
  have hm' : MapTo w5 fb (flM (Z ++ [⟨bn, flNew id r most, none, 0⟩])) w7 := by
    have := push_eq id (flM Z) 0 (.pointer (some ⟨bn, 0, none⟩)) hix
    rw [this] at hm
    unfold flM at hm ⊢
    rw [List.map_append]
    exact hm
  obtain ⟨k1, k2⟩ := hz.add hU hE (fun c hc => by simp only [entB, blkO, List.mem_cons, List.not_mem_nil, or_false] at hc; omega) (fun x hx => hno x.f (hp.mem_iff.1 (List.mem_map_of_mem hx))) hm'
  refine ⟨_, ⟨fb, _, k1, ?_, insF_srt hs, rfl⟩, by rw [hG]; exact k2⟩
  rw [List.map_append]
  exact (hp.append_right _).trans (insF_perm (f := flNew id r most) (fun g hg => hno g hg)).symm

set_option maxRecDepth 100000 in
set_option maxHeartbeats 8000000 in
theorem PG.add {W w : World} {sb : Nat} {S : Sf} {G : List Nat} (h : PG W sb S G w) (id : Int) (r : Nat) (hr : r < 18446744073709551616) (most : Int) :
    Calls Tryz.prog 121 #[.pointer (some ⟨sb, 0, none⟩), .int .i64 id, .int .u64 r, .int .i64 most] w (fun e w' => e = .returned (.bool (decide (posF S.F id < 0))) ∧ PTo W sb (addSf S id r most) G w w') := by
  have HG := Lib.hid h
  obtain ⟨fb, Z, hz, hperm, hsrt, hGe⟩ := h
  obtain ⟨c0, c1, -, lb⟩ := hz.cells
  have hlk := lookFl hz.map id
  rcases pos_look hperm hz.nd id with ⟨hpos, hl, hix, hno⟩ | ⟨i, k, e, hpos, hi, hk, hid, hl, hix⟩
  · have HC : Hid (addSf S id r most = { S with F := insF S.F (flNew id r most) }) := by unfold Hid addSf; rw [hpos]; rfl
    rw [HC.out, hpos]
    rw [hl] at hlk
    simp only [Option.getD_none] at hlk
    have e0 : w.drew.cell? ⟨sb, 0, none⟩ = some (.map (some fb)) := c0
    have le : sb < w.drew.heap.size := lb
    have hnew := ofnew_any id r hr most w.drew
    obtain ⟨bn, hbn⟩ : ∃ y, w.drew.heap.size = y := ⟨_, rfl⟩
    rw [hbn] at hnew
    have HNEW := Lib.hid hnew
    have HBN : Hid (w.heap.size = bn) := hbn
    clear hnew hbn
    have HZ := Lib.hid hz
    have HNO : Hid (∀ x ∈ Z, x.f.id ≠ id) := fun x hx => hno x.f (hperm.mem_iff.1 (List.mem_map_of_mem hx))
    have HP := Lib.hid hperm
    have HSR := Lib.hid hsrt
    have HGE := Lib.hid hGe
    have HIX := Lib.hid hix
    have HNF := Lib.hid hno
    clear hz hperm hsrt hGe hpos hl hix hno
    go_enter Tryz.func121, Tryz.ntmps121
    go_upto_region 3 with (fail)
    go_region_with (go_at_call 137; refine HNEW.out.mono ?_; rintro en w5 ⟨rfl, hP5, hU5⟩; have HP5 := Lib.hid hP5; have HU5 := Lib.hid hU5; have u0 := (hU5.cell le (by simp) 0).trans e0; have lu := Nat.lt_of_lt_of_le le hU5.size; obtain ⟨w7, hput, hmt⟩ := (HZ.out.map.upd ((Upd.refl [] w).drew.trans hU5) (by simp)).put underlyingFlowMap underlyingIntM id (.pointer (some ⟨bn, 0, none⟩)); have HMT := Lib.hid hmt; clear hmt hP5 hU5)
    all_goals
      go_wp2_with fail
      go_ret
      exact ⟨rfl, PS.add_end HZ.out HP.out HSR.out HGE.out HIX.out HNF.out HBN.out HP5.out ((Upd.refl [] w).drew.trans HU5.out) HMT.out⟩
  · rw [hl] at hlk
    simp only [Option.getD_some, entV] at hlk
    have HC : Hid (addSf S id r most = S) := by unfold Hid addSf; rw [hpos, if_neg (by omega)]
    have b1 : decide ((i : Int) < 0) = false := by simp
    rw [HC.out, hpos, b1]
    clear hz hperm hsrt hGe hpos hl hi hk hid hix b1
    go_enter Tryz.func121, Tryz.ntmps121
    go_wp2_with fail
    go_ret
    exact ⟨rfl, PTo.same HG.out (Upd.refl _ _)⟩
end Go.Proofs.YtfeobcmcellcpaaGreat
