/-
  The walk of the program's Sfq's Serve. No condition.
-/
import Derived.Test.YtfeobcmcellcpaaGreatPOB
set_option linter.unusedVariables false
set_option linter.unusedSimpArgs false
namespace Go.Proofs.YtfeobcmcellcpaaGreat
open Go.RowKit

theorem PFlT.upd {w w6 w7 : World} {e : Ent} {f' : Fl} (h : PFlT w e f' w6) (hu : Upd [] w6 w7) : PFlT w e f' w7 := by
  obtain ⟨ao, cap, h1, h2, h3⟩ := h
  exact ⟨ao, cap, h1.upd hu (by simp), h2, h3.trans hu.nil⟩
theorem PFlT.ofDrew {w w6 : World} {e : Ent} {f' : Fl} (h : PFlT w.drew e f' w6) : PFlT w e f' w6 := by
  obtain ⟨ao, cap, h1, h2, h3⟩ := h
  exact ⟨ao, cap, h1, h2, (Upd.refl (entB e) w).drew.trans h3⟩
theorem PFlT.boxed {w5 w6 w7 : World} {e : Ent} {f' : Fl} {z : Obj} (hlt : ∀ c ∈ entB e, c < w5.heap.size) (h : PFlT (w5.alloc z).drew e f' w6) (hu : Upd [w5.heap.size] w6 w7) : PFlT w5 e f' w7 := by
  obtain ⟨ao, cap, h1, h2, h3⟩ := h
  have hs : (w5.alloc z).drew.heap.size = w5.heap.size + 1 := by show (w5.alloc z).heap.size = _; simp
  have hu5 : Upd [] w5 (w5.alloc z).drew := ((Upd.refl [] w5).alloc _).drew
  refine ⟨ao, cap, h1.upd hu (fun c hc e2 => ?_), fun c hc => ?_, (hu5.then h3 (fun _ _ h => by cases h) (fun _ _ h => h)).then hu (fun _ _ h => h) (fun i hi hm => by simp only [List.mem_cons, List.not_mem_nil, or_false] at hm; omega)⟩
  · simp only [List.mem_cons, List.not_mem_nil, or_false] at e2
    subst e2
    rcases List.mem_cons.1 hc with h | h
    · have := hlt e.b (by simp [entB]); simp only at h; omega
    · rcases h2 _ h with h | h
      · exact absurd (hlt w5.heap.size (by simp [entB, h])) (Nat.lt_irrefl _)
      · omega
  · rcases h2 c hc with h | h
    · exact .inl h
    · exact .inr (by omega)
theorem srv_end {W w w5 w7 w8 : World} {sb fb bz i k mx fin : Nat} {S : Sf} {G : List Nat} {Z : List Ent} {e e' : Ent} {f : Fl} {p : Pk} (hz : PS W w sb fb Z S.v S.most) (hp : (Z.map (·.f)).Perm S.F) (hs : S.F.Pairwise (fun a b => a.id < b.id)) (hG : G = psB sb fb Z) (hbz : w.heap.size = bz)
    (h5 : Upd (psB sb fb Z) w w5) (hk : Z[k]? = some e) (hef : e.f = f) (hfi : S.F[i]? = some f) (hsv : servV S = .tuple #[.agg #[.int .i64 p.flow, .int .i64 p.len, .int .i64 p.mark], .bool true] ∧ servS S = { F := S.F.set i (flTake f p), v := f.start, most := max S.most (flFin f p) })
    (hfin : flFin f p = fin) (hmx : max S.most fin = mx) (h8 : PS W w8 sb fb (Z.set k e') f.start mx) (h7 : Fr (psB sb fb Z) (psB sb fb (Z.set k e')) w5 w7) (hu8 : Upd [sb] w7 w8) (hb5 : bz < w5.heap.size) (he' : e'.f = flTake f p) :
    Ending.returned (.tuple #[.agg #[.int .i64 p.flow, .int .i64 p.len, .int .i64 p.mark], .bool true]) = Ending.returned (servV S) ∧ PTo W sb (servS S) G w (((w8.setCell ⟨bz, 0, none⟩ (.int .i64 p.flow)).setCell ⟨bz, 1, none⟩ (.int .i64 p.len)).setCell ⟨bz, 2, none⟩ (.int .i64 p.mark)) := by
  have u6 : Upd [bz] w8 (((w8.setCell ⟨bz, 0, none⟩ (.int .i64 p.flow)).setCell ⟨bz, 1, none⟩ (.int .i64 p.len)).setCell ⟨bz, 2, none⟩ (.int .i64 p.mark)) := (((Upd.refl [bz] w8).setCell (.inl (by simp)) _).setCell (.inl (by simp)) _).setCell (.inl (by simp)) _
  have hlt := hz.lt
  have hs5 := h5.size
  have hall : ∀ c ∈ psB sb fb (Z.set k e'), c ∈ psB sb fb Z ∨ w5.heap.size ≤ c := h7.1
  refine ⟨by rw [hsv.1], psB sb fb (Z.set k e'), ?_, ?_⟩
  · rw [hsv.2, hfin]
    refine ⟨fb, Z.set k e', ?_, ?_, srt_set hs hfi rfl, rfl⟩
    · simp only [hmx]
      refine h8.updS u6 (fun c hc e2 => ?_)
      simp only [List.mem_cons, List.not_mem_nil, or_false] at e2
      rcases hall c hc with h | h
      · have := hlt c h; omega
      · omega
    · rw [List.map_set, he']
      exact (perm_set hp (by rw [List.getElem?_map, hk, ← hef]; rfl) hfi (flTake f p)).1
  · rw [hG]
    refine ⟨fun c hc => ?_, ((h5.trans h7.2).then hu8 (fun _ _ h => h) (fun i _ hi => by simp only [List.mem_cons, List.not_mem_nil, or_false] at hi; rw [hi]; simp [psB])).then u6 (fun _ _ h => h) (fun i hi hm => by simp only [List.mem_cons, List.not_mem_nil, or_false] at hm; omega)⟩
    rcases hall c hc with h | h
    · exact .inl h
    · exact .inr (by omega)

set_option maxRecDepth 100000 in
set_option maxHeartbeats 16000000 in
theorem PG.serve {W w : World} {sb : Nat} {S : Sf} {G : List Nat} (h : PG W sb S G w) (hsm : S.F.length ≤ 1000) :
    Calls Tryz.prog 124 #[.pointer (some ⟨sb, 0, none⟩)] w (fun e w' => e = .returned (servV S) ∧ PTo W sb (servS S) G w w') := by
  have HG := Lib.hid h
  obtain ⟨fb, Z, hz, hperm, hsrt, hGe⟩ := h
  have hlen : Z.length ≤ 1000 := by have := hperm.length_eq; simp only [List.length_map] at this; omega
  obtain ⟨w1, hw1⟩ : ∃ y, w.alloc (.cells #[.int .i64 0, .int .i64 0, .int .i64 0] 54) = y := ⟨_, rfl⟩
  have u1 : Upd [] w w1 := by rw [← hw1]; exact (Upd.refl [] w).alloc _
  have b1 : Blk w1 w.heap.size 54 [.int .i64 0, .int .i64 0, .int .i64 0] := by rw [← hw1]; exact Blk.new w 54 _
  obtain ⟨bz, hbz⟩ : ∃ y, w.heap.size = y := ⟨_, rfl⟩
  rw [hbz] at b1
  have HU1 := Lib.hid u1
  have HB1 := Lib.hid b1
  have HBZ := Lib.hid hbz
  have HENT := Lib.hid ((hz.upd u1).entries hlen)
  have HZ := Lib.hid hz
  have HP := Lib.hid hperm
  have HSR := Lib.hid hsrt
  have HGE := Lib.hid hGe
  have hsb : sb < bz := by rw [← hbz]; exact hz.blk.lt
  clear hz hperm hsrt hGe u1 b1
  go_enter Tryz.func124, Tryz.ntmps124
  go_wp2_with fail
  refine HENT.out.mono ?_
  rintro en w2 ⟨Zd, ao, cap, rfl, hrow, hpz, hnew, hu2⟩
  have HROW := Lib.hid hrow
  have HNEW := Lib.hid hnew
  have HU2 := Lib.hid (HU1.out.trans hu2)
  have HLP : Hid ((entL Zd).Perm ((S.F.filter nonE).map stI)) := (entL_perm2 hpz).trans (entL_perm HP.out)
  have HLL : Hid ((entL Zd).length ≤ 1000) := by have h1 := entL_le Zd; have := hpz.length_eq; unfold Hid; omega
  have hb2 := HB1.out.upd hu2 (by simp)
  have HB2 := Lib.hid hb2
  obtain ⟨n, hn⟩ : ∃ n, (entL Zd).length = n := ⟨_, rfl⟩
  have HN := Lib.hid hn
  rw [hn] at HROW
  have q0 := hb2.cell (j := 0) rfl
  have q1 := hb2.cell (j := 1) rfl
  have q2 := hb2.cell (j := 2) rfl
  have p0 := hb2.free 0
  have p1 := hb2.free 1
  have p2 := hb2.free 2
  have lz := hb2.lt
  obtain ⟨c0, c1, c2, lb⟩ := (HZ.out.upd HU2.out).cells
  have z1 := (HZ.out.upd HU2.out).blk.free 1
  rw [hn]
  clear hrow hnew hu2 hpz hb2 hn hw1
  by_cases h0 : n = 0
  · have HBE : Hid (bestF S.F = -1) := empty_best HLP.out (by rw [HN.out]; exact h0)
    have t1 : ((n : Int) == 0) = true := by simp [h0]
    have t2 : (n == 0) = true := by simp [h0]
    have d1 : w2.drew.cell? ⟨sb, 1, none⟩ = some (.int .u64 S.v) := c1
    have d2 : w2.drew.cell? ⟨sb, 2, none⟩ = some (.int .u64 S.most) := c2
    have ld : sb < w2.drew.heap.size := lb
    obtain ⟨mx, hmx⟩ : ∃ x, max S.v S.most = x := ⟨_, rfl⟩
    have hmxi : Max.max (S.v : Int) (S.most : Int) = (mx : Int) := by omega
    have HMX := Lib.hid hmx
    clear h0 hmx
    go_wp2_with fail
    refine wp_region_tail 12 (by kernel_rfl) (by kernel_rfl) ?_
    simp only [List.take_succ_cons, List.take_zero, List.drop_succ_cons, List.drop_zero]
    iterate 12 go_big_quiet_step (fail)
    refine wpQuiet_nil ?_
    go_upto_region 4 with (fail)
    obtain ⟨w3, hw3⟩ : ∃ y, (w2.setCell ⟨sb, 1, none⟩ (.int .u64 mx)).drew = y := ⟨_, rfl⟩
    have hu3 : Upd [sb] w2 w3 := by rw [← hw3]; exact ((Upd.refl [sb] w2).setCell (.inl (by simp)) _).drew
    have hmx64 : mx < 18446744073709551616 := by have := HZ.out.v64; have := HZ.out.m64; have := HMX.out; omega
    have hz3 : PS W w3 sb fb Z mx S.most := (HZ.out.upd HU2.out).nums (by rw [← hw3]; exact (HZ.out.upd HU2.out).blk.set 1 _) hu3 hmx64 HZ.out.m64
    have HZ3 := Lib.hid hz3
    have hb3 := HB2.out.upd hu3 (by simp only [List.mem_cons, List.not_mem_nil, or_false]; omega)
    have HB3 := Lib.hid hb3
    have HU3 := Lib.hid hu3
    rw [hw3]
    clear hu3 hz3 hw3 c0 c1 c2 lb z1 d1 d2 ld q0 q1 q2 p0 p1 p2 lz hmxi hmx64
    have q0 := hb3.cell (j := 0) rfl
    have q1 := hb3.cell (j := 1) rfl
    have q2 := hb3.cell (j := 2) rfl
    have p0 := hb3.free 0
    have p1 := hb3.free 1
    have p2 := hb3.free 2
    have lz := hb3.lt
    clear hb3
    go_wp2_with fail
    refine bodyPost_ret (v := .tuple #[.agg #[.int .i64 0, .int .i64 0, .int .i64 0], .bool false]) (by simp [results, Tryz.results124, go_sem, q0, q1, q2, lz]) rfl ?_
    have u6 : Upd [bz] w3 (((w3.setCell ⟨bz, 0, none⟩ (.int .i64 0)).setCell ⟨bz, 1, none⟩ (.int .i64 0)).setCell ⟨bz, 2, none⟩ (.int .i64 0)) := (((Upd.refl [bz] w3).setCell (.inl (by simp)) _).setCell (.inl (by simp)) _).setCell (.inl (by simp)) _
    have hzn : ∀ c ∈ psB sb fb Z, c ∉ [bz] := fun c hc e2 => by simp only [List.mem_cons, List.not_mem_nil, or_false] at e2; have := HZ.out.lt c hc; have := HBZ.out; omega
    refine ⟨by rw [(servV_no HBE.out).1], psB sb fb Z, ?_, ?_⟩
    · rw [(servV_no HBE.out).2]
      exact ⟨fb, Z, by rw [HMX.out]; exact HZ3.out.updS u6 hzn, HP.out, HSR.out, rfl⟩
    · rw [HGE.out]
      exact ⟨fun c hc => .inl hc, (HU2.out.then HU3.out (U := psB sb fb Z) (fun _ _ h => by cases h) (fun i _ hi => by simp only [List.mem_cons, List.not_mem_nil, or_false] at hi; rw [hi]; simp [psB])).then u6 (fun _ _ h => h) (fun i hi hm => by simp only [List.mem_cons, List.not_mem_nil, or_false] at hm; have := HBZ.out; omega)⟩
  · obtain ⟨i, f, hbe, hfi, hnf, hmin⟩ := least_best HSR.out HLP.out (by rw [HN.out]; omega)
    rw [HN.out] at hmin
    have HMIN := Lib.hid (minf_any HROW.out HN.out (by omega) (by have := HLL.out; have := HN.out; omega))
    rw [hmin] at HMIN
    obtain ⟨p, l, hL⟩ : ∃ p l, f.L = p :: l := by
      cases hc : f.L with
      | nil => unfold nonE at hnf; rw [hc] at hnf; simp at hnf
      | cons p l => exact ⟨p, l, rfl⟩
    have HSV := Lib.hid (servV_yes hbe hfi hL)
    obtain ⟨k, e, hke, hef⟩ := perm_at HP.out (List.mem_of_getElem? hfi)
    have HKE := Lib.hid hke
    have HEF := Lib.hid hef
    have HFI := Lib.hid hfi
    have t1 : ((n : Int) == 0) = false := by simp; omega
    have t2 : (n == 0) = false := by simp; omega
    simp only [stI] at HMIN
    clear h0 hbe hfi hnf hmin hke hef
    go_upto_region 5 with (fail)
    go_wp2_with fail
    refine HMIN.out.mono ?_
    rintro en w3 ⟨rfl, hu3⟩
    have HU3 := Lib.hid (HU2.out.trans hu3)
    go_upto_region 6 with (fail)
    have hz3 := HZ.out.upd HU3.out
    have hb3 := HB2.out.upd hu3 (by simp)
    obtain ⟨w4, hw4⟩ : ∃ y, w3.alloc (.cells #[.int .u64 f.start, .int .i64 f.id] 164) = y := ⟨_, rfl⟩
    obtain ⟨bm, hbm⟩ : ∃ y, w3.heap.size = y := ⟨_, rfl⟩
    have hu4 : Upd [] w3 w4 := by rw [← hw4]; exact (Upd.refl [] w3).alloc _
    have hm4 : Blk w4 bm 164 [.int .u64 f.start, .int .i64 f.id] := by rw [← hw4, ← hbm]; exact Blk.new w3 164 _
    have HBMZ : Hid (sb < bm) := by have := hz3.blk.lt; unfold Hid; omega
    have hz4 := hz3.upd hu4
    have HZ4 := Lib.hid hz4
    have HB4 := Lib.hid (hb3.upd hu4 (by simp))
    have HM4 := Lib.hid hm4
    have HU4 : Hid (Upd [] w w4) := HU3.out.trans hu4
    rw [hw4, hbm]
    clear hu3 hz3 hb3 c0 c1 c2 lb z1 q0 q1 q2 p0 p1 p2 lz hbm hw4
    have y0 := hm4.cell (j := 0) rfl
    have ly := hm4.lt
    obtain ⟨c0, c1, c2, lb⟩ := hz4.cells
    have z1 := hz4.blk.free 1
    clear hu4 hm4 hz4
    go_upto_region 7 with (fail)
    obtain ⟨w5, hw5⟩ : ∃ y, w4.setCell ⟨sb, 1, none⟩ (.int .u64 f.start) = y := ⟨_, rfl⟩
    have hu5 : Upd [sb] w4 w5 := by rw [← hw5]; exact (Upd.refl [sb] w4).setCell (.inl (by simp)) _
    have hst64 : f.start < 18446744073709551616 := by rw [← HEF.out]; exact (HZ4.out.ents e (List.mem_of_getElem? HKE.out)).ok.s64
    have hz5 : PS W w5 sb fb Z f.start S.most := HZ4.out.nums (by rw [← hw5]; exact HZ4.out.blk.set 1 _) hu5 hst64 HZ4.out.m64
    have HZ5 := Lib.hid hz5
    have HB5 := Lib.hid (HB4.out.upd hu5 (by simp only [List.mem_cons, List.not_mem_nil, or_false]; omega))
    have hm5 := HM4.out.upd hu5 (by simp only [List.mem_cons, List.not_mem_nil, or_false]; have := HBMZ.out; omega)
    have HU5 : Hid (Upd (psB sb fb Z) w w5) := HU4.out.then hu5 (fun _ _ h => by cases h) (fun i _ hi => by simp only [List.mem_cons, List.not_mem_nil, or_false] at hi; rw [hi]; simp [psB])
    rw [hw5]
    obtain ⟨c0', c1', c2', lb'⟩ := hz5.cells
    have d0 : w5.drew.cell? ⟨sb, 0, none⟩ = some (.map (some fb)) := c0'
    have ld : sb < w5.drew.heap.size := lb'
    have m1 : w5.drew.cell? ⟨bm, 1, none⟩ = some (.int .i64 f.id) := hm5.cell (j := 1) rfl
    have lm : bm < w5.drew.heap.size := hm5.lt
    have m1w := hm5.cell (j := 1) rfl
    have lmw := hm5.lt
    have hlk := lookFl (w := w5.drew) (fb := fb) (M := flM Z) (hz5.map.upd (Upd.refl [] w5).drew (by simp)) f.id
    have hlo := (look_fl hz5.nd HKE.out).2
    rw [HEF.out] at hlo
    rw [hlo] at hlk
    simp only [Option.getD_some, entV] at hlk
    have HUA : Hid (Upd [] w5 w5.drew) := (Upd.refl [] w5).drew
    have HUB : Hid (Upd [] w5 ((w5.alloc (.cells #[.int .i64 0, .int .i64 0, .int .i64 0] 54)).drew)) := ((Upd.refl [] w5).alloc _).drew
    have hlkB := lookFl (w := (w5.alloc (.cells #[.int .i64 0, .int .i64 0, .int .i64 0] 54)).drew) (fb := fb) (M := flM Z) (hz5.map.upd HUB.out (by simp)) f.id
    rw [hlo] at hlkB
    simp only [Option.getD_some, entV] at hlkB
    have hsv : ∀ w', Upd [] w5 w' → Calls Tryz.prog 141 #[.pointer (some ⟨e.b, 0, none⟩)] w' (fun en w'' => en = .returned (serveV e.f) ∧ PFlT w' e (serveF e.f) w'') := fun w' hu => ((hz5.ents e (List.mem_of_getElem? HKE.out)).upd hu (by simp)).serve
    have hvv : serveV e.f = .tuple #[.agg #[.int .i64 p.flow, .int .i64 p.len, .int .i64 p.mark], .int .u64 (flFin f p), .bool true] ∧ serveF e.f = flTake f p := by rw [HEF.out]; unfold serveV serveF; rw [hL]; exact ⟨rfl, rfl⟩
    rw [hvv.1, hvv.2] at hsv
    obtain ⟨fin, hfin⟩ : ∃ y, flFin f p = y := ⟨_, rfl⟩
    have HFIN := Lib.hid hfin
    have hf64 : fin < 18446744073709551616 := by rw [← hfin]; exact addT_lt _ _
    rw [hfin] at hsv
    obtain ⟨eb, heb⟩ : ∃ y, e.b = y := ⟨_, rfl⟩
    have HEB := Lib.hid heb
    rw [heb] at hsv hlk hlkB
    have HSRV := Lib.hid hsv
    have HEN : Hid (∀ c ∈ entB e, c < w5.heap.size) := (hz5.ents e (List.mem_of_getElem? HKE.out)).lt
    clear hsv hvv hlo hfin hz5 hm5 hu5 hw5 c0 c1 c2 lb z1 y0 ly c1' c2' heb hst64
    go_region_with (go_at_call 141; first | (refine (HSRV.out _ HUA.out).mono ?_; rintro en w6 ⟨rfl, hT⟩; have HT := Lib.hid hT; clear hT) | (refine (HSRV.out _ HUB.out).mono ?_; rintro en w6 ⟨rfl, hT⟩; have HT := Lib.hid hT; have hzb : Blk w6 w5.heap.size 54 [.int .i64 0, .int .i64 0, .int .i64 0] := Blk.upd (w := (w5.alloc (.cells #[.int .i64 0, .int .i64 0, .int .i64 0] 54)).drew) (Blk.new w5 54 [.int .i64 0, .int .i64 0, .int .i64 0]) (hT.choose_spec.choose_spec.2.2) (fun hm => Nat.lt_irrefl _ (HEN.out _ hm)); have v0 := hzb.cell (j := 0) rfl; have v1 := hzb.cell (j := 1) rfl; have v2 := hzb.cell (j := 2) rfl; have g0 := hzb.free 0; have g1 := hzb.free 1; have g2 := hzb.free 2; have gl := hzb.lt; have HZB := Lib.hid hzb; clear hT hzb))
    all_goals
      first
      | (obtain ⟨w7, hw7⟩ : ∃ y, ((w6.setCell ⟨w5.heap.size, 0, none⟩ (.int .i64 p.flow)).setCell ⟨w5.heap.size, 1, none⟩ (.int .i64 p.len)).setCell ⟨w5.heap.size, 2, none⟩ (.int .i64 p.mark) = y := ⟨_, rfl⟩
         have HT7 : Hid (PFlT w5 e (flTake f p) w7) := by rw [← hw7]; exact PFlT.boxed HEN.out HT.out ((((Upd.refl [w5.heap.size] w6).setCell (.inl (by simp)) _).setCell (.inl (by simp)) _).setCell (.inl (by simp)) _)
         have hb7 : Blk w7 w5.heap.size 54 (pkVs p) := by rw [← hw7]; exact ((HZB.out.set 0 _).set 1 _).set 2 _
         obtain ⟨bp, hbp⟩ : ∃ y, w5.heap.size = y := ⟨_, rfl⟩
         rw [hw7]
         rw [hbp] at hb7 ⊢
         have HB7 := Lib.hid hb7
         have HBP : Hid (w5.heap.size ≤ bp) := Nat.le_of_eq hbp
         clear hw7 hbp hb7 v0 v1 v2 g0 g1 g2 gl HZB
         skip
         obtain ⟨ao6, cap6, k1, k2, k3⟩ := HT7.out
         obtain ⟨z7, fr7⟩ := HZ5.out.put (e' := ⟨e.b, flTake f p, ao6, cap6⟩) HKE.out rfl (by rw [HEF.out]; rfl) k1 k2 k3
         have HZ7 := Lib.hid z7
         have HF7 := Lib.hid fr7
         obtain ⟨c0, c1, c2, lb⟩ := z7.cells
         have z2 := z7.blk.free 2
         have hzn : bz ∉ entB e := fun hm => by have := HZ.out.lt bz (psB_ent (List.mem_of_getElem? HKE.out) hm); have := HBZ.out; omega
         have HB7z := Lib.hid (HB5.out.upd k3 hzn)
         obtain ⟨mx, hmx⟩ : ∃ x, max S.most fin = x := ⟨_, rfl⟩
         have hmxi : Max.max (S.most : Int) (fin : Int) = (mx : Int) := by omega
         have hmx64 : mx < 18446744073709551616 := by have := HZ5.out.m64; omega
         have HMX := Lib.hid hmx
         clear k1 k2 k3 z7 fr7 hzn hmx
         go_upto_region 8 with (fail)
         go_upto_region 9 with (fail)
         obtain ⟨w8, hw8⟩ : ∃ y, w7.setCell ⟨sb, 2, none⟩ (.int .u64 mx) = y := ⟨_, rfl⟩
         have hu8 : Upd [sb] w7 w8 := by rw [← hw8]; exact (Upd.refl [sb] w7).setCell (.inl (by simp)) _
         have z8 := HZ7.out.nums (v' := f.start) (m' := mx) (by rw [← hw8]; exact HZ7.out.blk.set 2 _) hu8 HZ7.out.v64 hmx64
         have HZ8 := Lib.hid z8
         have HU8 := Lib.hid hu8
         have hsp : bp ≠ sb := by have := HBP.out; have := HZ5.out.blk.lt; omega
         have hb8 := HB7.out.upd hu8 (by simp only [List.mem_cons, List.not_mem_nil, or_false]; exact hsp)
         have hz8 := HB7z.out.upd hu8 (by simp only [List.mem_cons, List.not_mem_nil, or_false]; omega)
         rw [hw8]
         clear hu8 z8 hw8 c0 c1 c2 lb z2 hmxi hmx64
         have y0 := hb8.cell (j := 0) rfl
         have y1 := hb8.cell (j := 1) rfl
         have y2 := hb8.cell (j := 2) rfl
         have ly := hb8.lt
         have q0 := hz8.cell (j := 0) rfl
         have q1 := hz8.cell (j := 1) rfl
         have q2 := hz8.cell (j := 2) rfl
         have p0 := hz8.free 0
         have p1 := hz8.free 1
         have p2 := hz8.free 2
         have lz := hz8.lt
         have nbp : bp ≠ bz := by have := HBP.out; have := HB5.out.lt; omega
         clear hb8 hz8
         go_wp2_with fail
         refine bodyPost_ret (v := .tuple #[.agg #[.int .i64 p.flow, .int .i64 p.len, .int .i64 p.mark], .bool true]) (by simp [results, Tryz.results124, go_sem, q0, q1, q2, lz]) rfl ?_
         exact srv_end HZ.out HP.out HSR.out HGE.out HBZ.out HU5.out HKE.out HEF.out HFI.out HSV.out (HFIN.out) (HMX.out) HZ8.out HF7.out HU8.out HB5.out.lt rfl
         done)
      | (obtain ⟨w7, hw7⟩ : ∃ y, w6.alloc (.cells #[.int .i64 p.flow, .int .i64 p.len, .int .i64 p.mark] 54) = y := ⟨_, rfl⟩
         obtain ⟨bp, hbp⟩ : ∃ y, w6.heap.size = y := ⟨_, rfl⟩
         rw [hw7, hbp]
         have HB7 : Hid (Blk w7 bp 54 (pkVs p)) := by rw [← hw7, ← hbp]; exact Blk.new w6 54 (pkVs p)
         have HBP : Hid (w5.heap.size ≤ bp) := by obtain ⟨_, _, _, _, h3⟩ := HT.out; have h4 : w5.heap.size ≤ w6.heap.size := h3.size; unfold Hid; omega
         have HT6 : PFlT w5 e (flTake f p) w6 := HT.out.ofDrew
         have HT7 : Hid (PFlT w5 e (flTake f p) w7) := by rw [← hw7]; exact HT6.upd ((Upd.refl [] w6).alloc _)
         clear hw7 hbp HT6
         skip
         obtain ⟨ao6, cap6, k1, k2, k3⟩ := HT7.out
         obtain ⟨z7, fr7⟩ := HZ5.out.put (e' := ⟨e.b, flTake f p, ao6, cap6⟩) HKE.out rfl (by rw [HEF.out]; rfl) k1 k2 k3
         have HZ7 := Lib.hid z7
         have HF7 := Lib.hid fr7
         obtain ⟨c0, c1, c2, lb⟩ := z7.cells
         have z2 := z7.blk.free 2
         have hzn : bz ∉ entB e := fun hm => by have := HZ.out.lt bz (psB_ent (List.mem_of_getElem? HKE.out) hm); have := HBZ.out; omega
         have HB7z := Lib.hid (HB5.out.upd k3 hzn)
         obtain ⟨mx, hmx⟩ : ∃ x, max S.most fin = x := ⟨_, rfl⟩
         have hmxi : Max.max (S.most : Int) (fin : Int) = (mx : Int) := by omega
         have hmx64 : mx < 18446744073709551616 := by have := HZ5.out.m64; omega
         have HMX := Lib.hid hmx
         clear k1 k2 k3 z7 fr7 hzn hmx
         go_upto_region 8 with (fail)
         go_upto_region 9 with (fail)
         obtain ⟨w8, hw8⟩ : ∃ y, w7.setCell ⟨sb, 2, none⟩ (.int .u64 mx) = y := ⟨_, rfl⟩
         have hu8 : Upd [sb] w7 w8 := by rw [← hw8]; exact (Upd.refl [sb] w7).setCell (.inl (by simp)) _
         have z8 := HZ7.out.nums (v' := f.start) (m' := mx) (by rw [← hw8]; exact HZ7.out.blk.set 2 _) hu8 HZ7.out.v64 hmx64
         have HZ8 := Lib.hid z8
         have HU8 := Lib.hid hu8
         have hsp : bp ≠ sb := by have := HBP.out; have := HZ5.out.blk.lt; omega
         have hb8 := HB7.out.upd hu8 (by simp only [List.mem_cons, List.not_mem_nil, or_false]; exact hsp)
         have hz8 := HB7z.out.upd hu8 (by simp only [List.mem_cons, List.not_mem_nil, or_false]; omega)
         rw [hw8]
         clear hu8 z8 hw8 c0 c1 c2 lb z2 hmxi hmx64
         have y0 := hb8.cell (j := 0) rfl
         have y1 := hb8.cell (j := 1) rfl
         have y2 := hb8.cell (j := 2) rfl
         have ly := hb8.lt
         have q0 := hz8.cell (j := 0) rfl
         have q1 := hz8.cell (j := 1) rfl
         have q2 := hz8.cell (j := 2) rfl
         have p0 := hz8.free 0
         have p1 := hz8.free 1
         have p2 := hz8.free 2
         have lz := hz8.lt
         have nbp : bp ≠ bz := by have := HBP.out; have := HB5.out.lt; omega
         clear hb8 hz8
         go_wp2_with fail
         refine bodyPost_ret (v := .tuple #[.agg #[.int .i64 p.flow, .int .i64 p.len, .int .i64 p.mark], .bool true]) (by simp [results, Tryz.results124, go_sem, q0, q1, q2, lz]) rfl ?_
         exact srv_end HZ.out HP.out HSR.out HGE.out HBZ.out HU5.out HKE.out HEF.out HFI.out HSV.out (HFIN.out) (HMX.out) HZ8.out HF7.out HU8.out HB5.out.lt rfl
         done)
end Go.Proofs.YtfeobcmcellcpaaGreat
