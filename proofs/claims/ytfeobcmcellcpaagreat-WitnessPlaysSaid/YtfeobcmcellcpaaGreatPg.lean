/-
  The document's Plays. No condition.
-/
import Derived.Test.YtfeobcmcellcpaaGreatPf
import Derived.Deep.DeepCutAuto
set_option linter.unusedVariables false
set_option linter.unusedSimpArgs false
namespace Go.Proofs.YtfeobcmcellcpaaGreat
open Go.RowKit

def DPlAt (W w : World) (p : Pl) (l : List Pt) (mb : Nat) (iv : Value) (wr : World) : Prop := ∃ (i : Nat) (m : Ms) (G : List Nat), iv = .int .i64 i ∧ i ≤ l.length ∧ playsM p l = runM p (l.drop i) (lastS l i) m ∧ DG W mb p.c m G wr ∧ (∀ x ∈ G, w.heap.size ≤ x) ∧ Upd [] w wr ∧ m.n ≤ 16 * i
def DPlTo (W : World) (p : Pl) (l : List Pt) (w : World) (e : Ending) (w' : World) : Prop :=
  (∃ m mb G, playsM p l = some m ∧ e = .returned (.pointer (some ⟨mb, 0, none⟩)) ∧ DG W mb p.c m G w' ∧ (∀ x ∈ G, w.heap.size ≤ x) ∧ Upd [] w w' ∧ m.n ≤ 16 * l.length) ∨
  (playsM p l = none ∧ e = .returned (.pointer none) ∧ Upd [] w w')

/-- Behind the call that was found: where its copy lies. -/
def CallVar (w0 : World) (o : Option Cl) (s7 s8 : Value) (wx : World) : Prop := ∃ g, s7 = .pointer (some ⟨g, 0, none⟩) ∧ w0.heap.size ≤ g ∧ Blk wx g 46 (clVs (o.getD zCl)) ∧ s8 = .bool o.isSome ∧ Upd [] w0 wx
theorem callvar_a {wr w6 : World} {o : Option Cl} {q : Cl} {os : Bool} (hq : o.getD zCl = q) (hos : o.isSome = os) (hC : Upd [] wr.drew w6) : CallVar wr o (.pointer (some ⟨w6.heap.size, 0, none⟩)) (.bool os) (w6.alloc (.cells #[.int .i64 q.op, .int .i64 q.flow, .int .i64 q.a, .int .i64 q.b] 46)) := by
  have h : Upd [] wr w6 := (Upd.refl [] wr).drew.trans hC
  exact ⟨_, rfl, h.size, by rw [hq]; exact Blk.new w6 46 (clVs q), by rw [hos], h.alloc _⟩
theorem callvar_b {wr w6 : World} {o : Option Cl} {q : Cl} {os : Bool} (hq : o.getD zCl = q) (hos : o.isSome = os) (hz : Blk w6 wr.heap.size 46 [.int .i64 0, .int .i64 0, .int .i64 0, .int .i64 0]) (hC : Upd [] ((wr.alloc (.cells #[.int .i64 0, .int .i64 0, .int .i64 0, .int .i64 0] 46)).drew) w6) :
    CallVar wr o (.pointer (some ⟨wr.heap.size, 0, none⟩)) (.bool os) ((((w6.setCell ⟨wr.heap.size, 0, none⟩ (.int .i64 q.op)).setCell ⟨wr.heap.size, 1, none⟩ (.int .i64 q.flow)).setCell ⟨wr.heap.size, 2, none⟩ (.int .i64 q.a)).setCell ⟨wr.heap.size, 3, none⟩ (.int .i64 q.b)) := by
  have h : Upd [] wr w6 := (((Upd.refl [] wr).alloc _).drew).trans hC
  exact ⟨_, rfl, Nat.le_refl _, by rw [hq]; exact (((hz.set 0 (.int .i64 q.op)).set 1 (.int .i64 q.flow)).set 2 (.int .i64 q.a)).set 3 (.int .i64 q.b), by rw [hos], (((h.setCell (.inr (Nat.le_refl _)) _).setCell (.inr (Nat.le_refl _)) _).setCell (.inr (Nat.le_refl _)) _).setCell (.inr (Nat.le_refl _)) _⟩

set_option maxRecDepth 100000 in
set_option maxHeartbeats 16000000 in
theorem dplays_any {W w : World} {pv v : Value} {p : Pl} {l : List Pt} (hW : W.heap.size ≤ w.heap.size) (hp : PlanAt w pv p) (hl : PtsAt' w v l) (hlen : l.length ≤ 288230376151711744) : Calls Tryz.prog 21 #[pv, v] w (DPlTo W p l w) := by
  have HP := Lib.hid hp
  have HL := Lib.hid hl
  obtain ⟨lv, rfl, -⟩ := hp
  obtain ⟨-, ao, cap, rfl, -⟩ := pts_at hl
  obtain ⟨n, hn⟩ : ∃ n, l.length = n := ⟨_, rfl⟩
  have HN := Lib.hid hn
  have HW := Lib.hid hW
  have HLEN := Lib.hid hlen
  rw [hn] at hlen ⊢
  clear hl hn hW
  obtain ⟨wp, hwp⟩ : ∃ y, w.alloc (.cells #[.int .i64 p.c.sh, .int .i64 p.c.sl, .int .i64 p.c.wo, .int .i64 p.c.wd, .int .u64 p.c.unit, lv] 29) = y := ⟨_, rfl⟩
  have hup : Upd [] w wp := by rw [← hwp]; exact (Upd.refl [] w).alloc _
  have hbp : Blk wp w.heap.size 29 [.int .i64 p.c.sh, .int .i64 p.c.sl, .int .i64 p.c.wo, .int .i64 p.c.wd, .int .u64 p.c.unit, lv] := by rw [← hwp]; exact Blk.new w 29 [.int .i64 p.c.sh, .int .i64 p.c.sl, .int .i64 p.c.wo, .int .i64 p.c.wd, .int .u64 p.c.unit, lv]
  have HUP := Lib.hid hup
  obtain ⟨bp, hb⟩ : ∃ y, w.heap.size = y := ⟨_, rfl⟩
  have HB := Lib.hid hb
  rw [hb] at hbp
  have HBP := Lib.hid hbp
  have HRI := Lib.hid (fun w' => dright_any p.c w')
  unfold cfV at HRI
  have z0 := hbp.cell (j := 0) rfl
  have z1 := hbp.cell (j := 1) rfl
  have z2 := hbp.cell (j := 2) rfl
  have z3 := hbp.cell (j := 3) rfl
  have z4 := hbp.cell (j := 4) rfl
  have lz := hbp.lt
  have HPL : Hid (playsM p l = if rightC p.c = true then runM p l none ms0 else none) := rfl
  obtain ⟨RC, hRC⟩ : ∃ y, rightC p.c = y := ⟨_, rfl⟩
  rw [hRC] at HRI
  have HRC := Lib.hid hRC
  clear hup hbp hRC
  go_enter Tryz.func21, Tryz.ntmps21
  go_wp2_with fail
  refine (HRI.out _).mono ?_
  rintro e w2 ⟨rfl, hu2⟩
  have HU2 := Lib.hid (HUP.out.trans hu2)
  have hb2 := HBP.out.upd hu2 (by simp)
  have HB2 := Lib.hid hb2
  clear hu2 z0 z1 z2 z3 z4 lz
  cases RC with
  | false =>
    go_wp2_with fail
    go_ret
    exact .inr ⟨by rw [HPL.out, HRC.out]; rfl, rfl, HU2.out⟩
  | true =>
    have HNEW : Hid (Calls Tryz.prog 41 #[.agg #[.int .i64 p.c.sh, .int .i64 p.c.sl, .int .i64 p.c.wo, .int .i64 p.c.wd, .int .u64 p.c.unit]] w2 (DNewTo W p.c w2)) := dmnew_any p.c HRC.out (Nat.le_trans HW.out HU2.out.size)
    have z0 := hb2.cell (j := 0) rfl
    have z1 := hb2.cell (j := 1) rfl
    have z2 := hb2.cell (j := 2) rfl
    have z3 := hb2.cell (j := 3) rfl
    have z4 := hb2.cell (j := 4) rfl
    have lz := hb2.lt
    clear hb2
    go_wp2_with fail
    refine HNEW.out.mono ?_
    rintro e w3 ⟨mb, G, rfl, hm, hu3, hng⟩
    have HG0 := Lib.hid hm
    have HNG0 : Hid (∀ x ∈ G, w2.heap.size ≤ x) := hng
    have HU3 : Hid (Upd [] w2 w3) := hu3
    have HPR0 : Hid (playsM p l = runM p (l.drop 0) (lastS l 0) ms0) := by unfold Hid; rw [HPL.out, if_pos HRC.out]; rfl
    clear hm hng hu3 z0 z1 z2 z3 z4 lz
    go_wp2_with fail
    go_loopw [6] (fun iv wr => DPlAt W w2 p l mb iv wr) (fun iv _ => n - (intOf iv).toNat)
    case atStart => exact ⟨0, ms0, G, rfl, Nat.zero_le _, HPR0.out, HG0.out, HNG0.out, HU3.out, Nat.zero_le _⟩
    case round =>
      clear HG0 HNG0 HU3 HPR0
      obtain ⟨i, m, G, rfl, hi, hpr, hm, hng, hU, hmn⟩ := hrel
      rw [HN.out] at hi
      have HUX := Lib.hid hU
      have HU : Hid (Upd [] w wr) := HU2.out.trans hU
      have HM := Lib.hid hm
      have HNG := Lib.hid hng
      have HPR := Lib.hid hpr
      have HMN := Lib.hid hmn
      clear hm hng hpr hmn
      by_cases hlt : i < n
      · have t1 : decide (i < n) = true := by simp [hlt]
        have b1 : (i : Int) < (n : Int) := by omega
        have fin1 : i + 1 ≤ 9223372036854775807 := by omega
        obtain ⟨x, hx⟩ : ∃ x, l[i]? = some x := ⟨_, List.getElem?_eq_getElem (by rw [HN.out]; exact hlt)⟩
        obtain ⟨-, _, _, e1, hat⟩ := pts_at (HL.out.upd HU.out)
        rw [HN.out] at e1
        cases e1
        obtain ⟨gx, ox, rfl, lx, hpt, x0, x1, x2, x3, x4, x5, x6⟩ := hat i x hx
        have HX := Lib.hid hx
        have hptw := HL.out.2 x (List.mem_of_getElem? hx)
        obtain ⟨lo, lc, hlv, -⟩ := hpt
        rw [hlv] at x4
        unfold PtAt at hptw
        rw [hlv] at hptw
        have HPTW := Lib.hid hptw
        clear hptw
        have HC : Hid (∀ w', Upd [] w w' → Calls Tryz.prog 47 #[.agg #[.int .i64 p.c.sh, .int .i64 p.c.sl, .int .i64 p.c.wo, .int .i64 p.c.wd, .int .u64 p.c.unit, lv], .agg #[.int .i64 x.step, .int .i64 x.who, .int .i64 x.place, .int .i64 x.r.e, .slice lo x.r.L.length lc, .int .i64 x.r.n, .int .u64 x.r.v]] w' (RetUpd [] w' (callV (callP p.L x)))) := fun w' hu => by
          have := dcall_any (x := x) (HP.out.upd hu)
          unfold ptV at this
          rw [hlv] at this
          exact this
        have hb1 := HB2.out.upd hU (by simp)
        have z0 := hb1.cell (j := 0) rfl
        have z1 := hb1.cell (j := 1) rfl
        have z2 := hb1.cell (j := 2) rfl
        have z3 := hb1.cell (j := 3) rfl
        have z4 := hb1.cell (j := 4) rfl
        have z5 := hb1.cell (j := 5) rfl
        have lz := hb1.lt
        have HRUN := Lib.hid (run_at HX.out HPR.out)
        obtain ⟨o, ho⟩ : ∃ y, callP p.L x = y := ⟨_, rfl⟩
        have HO := Lib.hid ho
        rw [ho] at HC
        have HCV : Hid (callV o = .tuple #[.agg #[.int .i64 (o.getD zCl).op, .int .i64 (o.getD zCl).flow, .int .i64 (o.getD zCl).a, .int .i64 (o.getD zCl).b], .bool o.isSome]) := by unfold Hid; cases o <;> rfl
        obtain ⟨q, hq⟩ : ∃ y, o.getD zCl = y := ⟨_, rfl⟩
        obtain ⟨os, hos⟩ : ∃ y, o.isSome = y := ⟨_, rfl⟩
        rw [hq, hos] at HCV
        have HQ := Lib.hid hq
        have HOS := Lib.hid hos
        rw [HCV.out] at HC
        clear hat hlv hb1 hU ho hq hos
        go_upto_region 7 with (fail)
        have HUA : Hid (Upd [] w wr.drew) := HU.out.drew
        have HUB : Hid (Upd [] w ((wr.alloc (.cells #[.int .i64 0, .int .i64 0, .int .i64 0, .int .i64 0] 46)).drew)) := (HU.out.alloc _).drew
        have HUW : Hid (Upd [] wr ((wr.alloc (.cells #[.int .i64 0, .int .i64 0, .int .i64 0, .int .i64 0] 46)).drew)) := ((Upd.refl [] wr).alloc _).drew
        have a0 : wr.drew.cell? ⟨bp, 0, none⟩ = _ := z0
        have a1 : wr.drew.cell? ⟨bp, 1, none⟩ = _ := z1
        have a2 : wr.drew.cell? ⟨bp, 2, none⟩ = _ := z2
        have a3 : wr.drew.cell? ⟨bp, 3, none⟩ = _ := z3
        have a4 : wr.drew.cell? ⟨bp, 4, none⟩ = _ := z4
        have a5 : wr.drew.cell? ⟨bp, 5, none⟩ = _ := z5
        have al : bp < wr.drew.heap.size := lz
        have c0 : wr.drew.cell? ⟨gx, ox + i * 7, none⟩ = _ := x0
        have c1 : wr.drew.cell? ⟨gx, ox + i * 7 + 1, none⟩ = _ := x1
        have c2 : wr.drew.cell? ⟨gx, ox + i * 7 + 2, none⟩ = _ := x2
        have c3 : wr.drew.cell? ⟨gx, ox + i * 7 + 3, none⟩ = _ := x3
        have c4 : wr.drew.cell? ⟨gx, ox + i * 7 + 4, none⟩ = _ := x4
        have c5 : wr.drew.cell? ⟨gx, ox + i * 7 + 5, none⟩ = _ := x5
        have c6 : wr.drew.cell? ⟨gx, ox + i * 7 + 6, none⟩ = _ := x6
        have cl : gx < wr.drew.heap.size := lx
        go_cut [7, 8] (fun s7 s8 wx => CallVar wr o s7 s8 wx)
        case first =>
          go_region_with (go_at_call 47; first | (refine (HC.out _ HUA.out).mono ?_; rintro e w6 ⟨rfl, hC⟩; have HCC := Lib.hid hC; clear hC) | (refine (HC.out _ HUB.out).mono ?_; rintro e w6 ⟨rfl, hC⟩; have HCC := Lib.hid hC; have hzb : Blk w6 wr.heap.size 46 [.int .i64 0, .int .i64 0, .int .i64 0, .int .i64 0] := Blk.upd (w := (wr.alloc (.cells #[.int .i64 0, .int .i64 0, .int .i64 0, .int .i64 0] 46)).drew) (Blk.new wr 46 [.int .i64 0, .int .i64 0, .int .i64 0, .int .i64 0]) hC (by simp); have v0 := hzb.cell (j := 0) rfl; have v1 := hzb.cell (j := 1) rfl; have v2 := hzb.cell (j := 2) rfl; have v3 := hzb.cell (j := 3) rfl; have g0 := hzb.free 0; have g1 := hzb.free 1; have g2 := hzb.free 2; have g3 := hzb.free 3; have gl := hzb.lt; have HZB := Lib.hid hzb; clear hC hzb))
          all_goals go_wp2_with fail
          all_goals go_meet
          all_goals first | exact callvar_a HQ.out HOS.out HCC.out | exact callvar_b HQ.out HOS.out HZB.out HCC.out
        case rest =>
          obtain ⟨g, rfl, hg, hbk, hs8, huc⟩ := hcut
          have HUC := Lib.hid huc
          have HBK := Lib.hid hbk
          have HGN := Lib.hid hg
          clear a0 a1 a2 a3 a4 a5 al c0 c1 c2 c3 c4 c5 c6 cl z0 z1 z2 z3 z4 z5 lz HUA HUB HUW
          cases o with
          | none =>
            have HNONE : Hid (playsM p l = none) := HRUN.out.1 HO.out
            have hs8' := hs8
            simp only [Option.isSome_none] at hs8'
            subst hs8'
            clear hs8 hbk hg huc x0 x1 x2 x3 x4 x5 x6
            go_wp2_with fail
            go_quiet (fail)
            go_wp2_with fail
            go_ret
            exact .inr ⟨HNONE.out, rfl, HU.out.trans (HUC.out.trans ((Upd.refl [] wc).drewN _))⟩
          | some k =>
            obtain ⟨-, h2⟩ := HRUN.out
            have HST := Lib.hid (h2 k HO.out)
            have hs8' := hs8
            simp only [Option.isSome_some] at hs8'
            subst hs8'
            clear hs8
            have hbk' : Blk wc g 46 [.int .i64 k.op, .int .i64 k.flow, .int .i64 k.a, .int .i64 k.b] := hbk
            have k0 := hbk'.cell (j := 0) rfl
            have k1 := hbk'.cell (j := 1) rfl
            have k2 := hbk'.cell (j := 2) rfl
            have k3 := hbk'.cell (j := 3) rfl
            have lk := hbk'.lt
            have e0 := (huc.cell lx (by simp) (ox + i * 7)).trans x0
            have e3 := (huc.cell lx (by simp) (ox + i * 7 + 3)).trans x3
            have e4 := (huc.cell lx (by simp) (ox + i * 7 + 4)).trans x4
            have e5 := (huc.cell lx (by simp) (ox + i * 7 + 5)).trans x5
            have e6 := (huc.cell lx (by simp) (ox + i * 7 + 6)).trans x6
            have lxc := Nat.lt_of_lt_of_le lx huc.size
            have hkG : g ∉ G := fun hc => by have := HM.out.lt g hc; omega
            have hxG : gx ∉ G := fun hc => by
              have h1 := HNG.out gx hc
              have h0 := pts_at HL.out
              obtain ⟨-, _, _, e3', hat3⟩ := h0
              rw [HN.out] at e3'
              cases e3'
              obtain ⟨_, _, e4', lg4, -⟩ := hat3 i x HX.out
              cases e4'
              have := HU2.out.size
              omega
            obtain ⟨r, hr⟩ : ∃ y, doM p.c m k = y := ⟨_, rfl⟩
            have hn16 := doM_n p.c m k
            have hdc := ddo_any (HM.out.upd huc.drew) (by have := HMN.out; have := HLEN.out; have := HN.out; omega) k
            rw [hr] at hdc HST hn16
            have HDC1 : Hid (Calls Tryz.prog 42 #[.pointer (some ⟨mb, 0, none⟩), .agg #[.int .i64 k.op, .int .i64 k.flow, .int .i64 k.a, .int .i64 k.b]] wc.drew (DTo W mb p.c r G wc.drew)) := hdc
            have HDC2 := Lib.hid hn16
            have HLTC : Hid (Upd [] w wc) := HU.out.trans huc
            have HPC : Hid (Upd [] w2 wc) := HUX.out.trans huc
            clear hbk hbk' huc hdc hn16 h2 HRUN x0 x1 x2 x3 x4 x5 x6 lx hr hg
            rcases Nat.eq_zero_or_pos i with rfl | hpos
            · have i0 : decide ((0 : Int) < ((0 : Nat) : Int)) = false := rfl
              have HBH : Hid (behind (lastS l 0) x.step = true) := behind_zero _ _
              obtain ⟨sm, hsm⟩ : ∃ y, rtSame r.1 x.r = y := ⟨_, rfl⟩
              have HSMM := Lib.hid hsm
              go_upto_region 8 with (fail)
              refine wp_region_held_drew (S := fun w' => Upd G wc w' ∧ ∀ (b o : Nat), b < wc.heap.size → b ∉ G → w'.cell? ⟨b, o, none⟩ = wc.cell? ⟨b, o, none⟩) (by kernel_rfl) (Held.init _ _) (fun hHeld => ?_)
              refine wpAnyH_take (i := 0) (v := ?_) rfl (by kernel_rfl) (by kernel_rfl) (by kernel_rfl) (fun _ _ _ h => h) (Or.inl ⟨by rfl, ?_⟩) (by assumption) ?_
              rotate_left
              · intro w hSw
                try dsimp only at hSw
                go_simp
                try with_reducible rfl
              try simp only [List.getElem_toArray, List.getElem_cons_zero, List.getElem_cons_succ, Act.put, List.setIfInBounds_toArray, List.set_cons_zero, List.set_cons_succ]
              refine wpAnyH_take (i := 1) (v := ?_) rfl (by kernel_rfl) (by kernel_rfl) (by kernel_rfl) (fun _ _ _ h => h) (Or.inl ⟨by rfl, ?_⟩) (by assumption) ?_
              rotate_left
              · intro w hSw
                try dsimp only at hSw
                go_simp
                try with_reducible rfl
              try simp only [List.getElem_toArray, List.getElem_cons_zero, List.getElem_cons_succ, Act.put, List.setIfInBounds_toArray, List.set_cons_zero, List.set_cons_succ]
              refine wpAnyH_take (i := 2) (v := ?_) rfl (by kernel_rfl) (by kernel_rfl) (by kernel_rfl) (fun _ _ _ h => h) (Or.inl ⟨by rfl, ?_⟩) (by assumption) ?_
              rotate_left
              · intro w hSw
                try dsimp only at hSw
                go_simp
                try with_reducible rfl
              try simp only [List.getElem_toArray, List.getElem_cons_zero, List.getElem_cons_succ, Act.put, List.setIfInBounds_toArray, List.set_cons_zero, List.set_cons_succ]
              refine wpAnyH_take (i := 3) (v := ?_) rfl (by kernel_rfl) (by kernel_rfl) (by kernel_rfl) (fun _ _ _ h => h) (Or.inl ⟨by rfl, ?_⟩) (by assumption) ?_
              rotate_left
              · intro w hSw
                try dsimp only at hSw
                go_simp
                try with_reducible rfl
              try simp only [List.getElem_toArray, List.getElem_cons_zero, List.getElem_cons_succ, Act.put, List.setIfInBounds_toArray, List.set_cons_zero, List.set_cons_succ]
              refine wpAnyH_take (i := 4) (v := ?_) rfl (by kernel_rfl) (by kernel_rfl) (by kernel_rfl) (fun _ _ _ h => h) (Or.inl ⟨by rfl, ?_⟩) (by assumption) ?_
              rotate_left
              · intro w hSw
                try dsimp only at hSw
                go_simp
                try with_reducible rfl
              try simp only [List.getElem_toArray, List.getElem_cons_zero, List.getElem_cons_succ, Act.put, List.setIfInBounds_toArray, List.set_cons_zero, List.set_cons_succ]
              refine wpAnyH_take (i := 5) (v := ?_) rfl (by kernel_rfl) (by kernel_rfl) (by kernel_rfl) (fun _ _ _ h => h) (Or.inl ⟨by rfl, ?_⟩) (by assumption) ?_
              rotate_left
              · intro w hSw
                try dsimp only at hSw
                go_simp
                try with_reducible rfl
              try simp only [List.getElem_toArray, List.getElem_cons_zero, List.getElem_cons_succ, Act.put, List.setIfInBounds_toArray, List.set_cons_zero, List.set_cons_succ]
              refine wpAnyH_take (i := 6) (v := undef) rfl (by kernel_rfl) (by kernel_rfl) (by kernel_rfl) (fun _ _ _ h => h) (Or.inr ⟨by rfl, rfl⟩) (by assumption) ?_
              try simp only [List.getElem_toArray, List.getElem_cons_zero, List.getElem_cons_succ, Act.put, List.setIfInBounds_toArray, List.set_cons_zero, List.set_cons_succ]
              refine wpAnyH_take (i := 7) (v := undef) rfl (by kernel_rfl) (by kernel_rfl) (by kernel_rfl) (fun _ _ _ h => h) (Or.inr ⟨by rfl, rfl⟩) (by assumption) ?_
              try simp only [List.getElem_toArray, List.getElem_cons_zero, List.getElem_cons_succ, Act.put, List.setIfInBounds_toArray, List.set_cons_zero, List.set_cons_succ]
              refine wpAnyH_take (i := 8) (v := undef) rfl (by kernel_rfl) (by kernel_rfl) (by kernel_rfl) (fun _ _ _ h => h) (Or.inr ⟨by rfl, rfl⟩) (by assumption) ?_
              try simp only [List.getElem_toArray, List.getElem_cons_zero, List.getElem_cons_succ, Act.put, List.setIfInBounds_toArray, List.set_cons_zero, List.set_cons_succ]
              refine wpAnyH_take (i := 9) (v := undef) rfl (by kernel_rfl) (by kernel_rfl) (by kernel_rfl) (fun _ _ _ h => h) (Or.inr ⟨by rfl, rfl⟩) (by assumption) ?_
              try simp only [List.getElem_toArray, List.getElem_cons_zero, List.getElem_cons_succ, Act.put, List.setIfInBounds_toArray, List.set_cons_zero, List.set_cons_succ]
              refine wpAnyH_take (i := 10) (v := undef) rfl (by kernel_rfl) (by kernel_rfl) (by kernel_rfl) (fun _ _ _ h => h) (Or.inr ⟨by rfl, rfl⟩) (by assumption) ?_
              try simp only [List.getElem_toArray, List.getElem_cons_zero, List.getElem_cons_succ, Act.put, List.setIfInBounds_toArray, List.set_cons_zero, List.set_cons_succ]
              refine wpAnyH_take (i := 11) (v := undef) rfl (by kernel_rfl) (by kernel_rfl) (by kernel_rfl) (fun _ _ _ h => h) (Or.inr ⟨by rfl, rfl⟩) (by assumption) ?_
              try simp only [List.getElem_toArray, List.getElem_cons_zero, List.getElem_cons_succ, Act.put, List.setIfInBounds_toArray, List.set_cons_zero, List.set_cons_succ]
              refine wpAnyH_take (i := 12) (v := undef) rfl (by kernel_rfl) (by kernel_rfl) (by kernel_rfl) (fun _ _ _ h => h) (Or.inr ⟨by rfl, rfl⟩) (by assumption) ?_
              try simp only [List.getElem_toArray, List.getElem_cons_zero, List.getElem_cons_succ, Act.put, List.setIfInBounds_toArray, List.set_cons_zero, List.set_cons_succ]
              refine wpAnyH_take (i := 13) (v := undef) rfl (by kernel_rfl) (by kernel_rfl) (by kernel_rfl) (fun _ _ _ h => h) (Or.inr ⟨by rfl, rfl⟩) (by assumption) ?_
              try simp only [List.getElem_toArray, List.getElem_cons_zero, List.getElem_cons_succ, Act.put, List.setIfInBounds_toArray, List.set_cons_zero, List.set_cons_succ]
              refine wpAnyH_take (i := 14) (v := undef) rfl (by kernel_rfl) (by kernel_rfl) (by kernel_rfl) (fun _ _ _ h => h) (Or.inr ⟨by rfl, rfl⟩) (by assumption) ?_
              try simp only [List.getElem_toArray, List.getElem_cons_zero, List.getElem_cons_succ, Act.put, List.setIfInBounds_toArray, List.set_cons_zero, List.set_cons_succ]
              refine wpAnyH_take (i := 15) (v := undef) rfl (by kernel_rfl) (by kernel_rfl) (by kernel_rfl) (fun _ _ _ h => h) (Or.inr ⟨by rfl, rfl⟩) (by assumption) ?_
              try simp only [List.getElem_toArray, List.getElem_cons_zero, List.getElem_cons_succ, Act.put, List.setIfInBounds_toArray, List.set_cons_zero, List.set_cons_succ]
              refine wpAnyH_take (i := 16) (v := undef) rfl (by kernel_rfl) (by kernel_rfl) (by kernel_rfl) (fun _ _ _ h => h) (Or.inr ⟨by rfl, rfl⟩) (by assumption) ?_
              try simp only [List.getElem_toArray, List.getElem_cons_zero, List.getElem_cons_succ, Act.put, List.setIfInBounds_toArray, List.set_cons_zero, List.set_cons_succ]
              refine wpAnyH_take (i := 17) (v := undef) rfl (by kernel_rfl) (by kernel_rfl) (by kernel_rfl) (fun _ _ _ h => h) (Or.inr ⟨by rfl, rfl⟩) (by assumption) ?_
              try simp only [List.getElem_toArray, List.getElem_cons_zero, List.getElem_cons_succ, Act.put, List.setIfInBounds_toArray, List.set_cons_zero, List.set_cons_succ]
              refine wpAnyH_take (i := 18) (v := ?_) rfl (by kernel_rfl) (by kernel_rfl) (by kernel_rfl) (fun _ _ _ h => h) (Or.inl ⟨by rfl, ?_⟩) (by assumption) ?_
              rotate_left
              · intro w hSw
                try dsimp only at hSw
                go_simp
                try with_reducible rfl
              try simp only [List.getElem_toArray, List.getElem_cons_zero, List.getElem_cons_succ, Act.put, List.setIfInBounds_toArray, List.set_cons_zero, List.set_cons_succ]
              refine wpAnyH_take (i := 19) (v := ?_) rfl (by kernel_rfl) (by kernel_rfl) (by kernel_rfl) (fun _ _ _ h => h) (Or.inl ⟨by rfl, ?_⟩) (by assumption) ?_
              rotate_left
              · intro w hSw
                try dsimp only at hSw
                go_simp
                try with_reducible rfl
              try simp only [List.getElem_toArray, List.getElem_cons_zero, List.getElem_cons_succ, Act.put, List.setIfInBounds_toArray, List.set_cons_zero, List.set_cons_succ]
              refine wpAnyH_take (i := 20) (v := ?_) rfl (by kernel_rfl) (by kernel_rfl) (by kernel_rfl) (fun _ _ _ h => h) (Or.inl ⟨by rfl, ?_⟩) (by assumption) ?_
              rotate_left
              · intro w hSw
                try dsimp only at hSw
                go_simp
                try with_reducible rfl
              try simp only [List.getElem_toArray, List.getElem_cons_zero, List.getElem_cons_succ, Act.put, List.setIfInBounds_toArray, List.set_cons_zero, List.set_cons_succ]
              refine wpAnyH_take (i := 21) (v := ?_) rfl (by kernel_rfl) (by kernel_rfl) (by kernel_rfl) (fun _ _ _ h => h) (Or.inl ⟨by rfl, ?_⟩) (by assumption) ?_
              rotate_left
              · intro w hSw
                try dsimp only at hSw
                go_simp
                try with_reducible rfl
              try simp only [List.getElem_toArray, List.getElem_cons_zero, List.getElem_cons_succ, Act.put, List.setIfInBounds_toArray, List.set_cons_zero, List.set_cons_succ]
              refine wpAnyH_take (i := 22) (v := ?_) rfl (by kernel_rfl) (by kernel_rfl) (by kernel_rfl) (fun _ _ _ h => h) (Or.inl ⟨by rfl, ?_⟩) (by assumption) ?_
              rotate_left
              · intro w hSw
                try dsimp only at hSw
                go_simp
                try with_reducible rfl
              try simp only [List.getElem_toArray, List.getElem_cons_zero, List.getElem_cons_succ, Act.put, List.setIfInBounds_toArray, List.set_cons_zero, List.set_cons_succ]
              refine wpAnyH_take (i := 24) (v := ?_) rfl (by kernel_rfl) (by kernel_rfl) (by kernel_rfl) (fun _ _ _ h => h) (Or.inl ⟨by rfl, ?_⟩) (by assumption) ?_
              rotate_left
              · intro w hSw
                try dsimp only at hSw
                go_simp
                try with_reducible rfl
              try simp only [List.getElem_toArray, List.getElem_cons_zero, List.getElem_cons_succ, Act.put, List.setIfInBounds_toArray, List.set_cons_zero, List.set_cons_succ]
              refine wpAnyH_take (i := 25) (v := ?_) rfl (by kernel_rfl) (by kernel_rfl) (by kernel_rfl) (fun _ _ _ h => h) (Or.inl ⟨by rfl, ?_⟩) (by assumption) ?_
              rotate_left
              · intro w hSw
                try dsimp only at hSw
                go_simp
                try with_reducible rfl
              try simp only [List.getElem_toArray, List.getElem_cons_zero, List.getElem_cons_succ, Act.put, List.setIfInBounds_toArray, List.set_cons_zero, List.set_cons_succ]
              refine wpAnyH_take (i := 26) (v := ?_) rfl (by kernel_rfl) (by kernel_rfl) (by kernel_rfl) (fun _ _ _ h => h) (Or.inl ⟨by rfl, ?_⟩) (by assumption) ?_
              rotate_left
              · intro w hSw
                try dsimp only at hSw
                go_simp
                try with_reducible rfl
              try simp only [List.getElem_toArray, List.getElem_cons_zero, List.getElem_cons_succ, Act.put, List.setIfInBounds_toArray, List.set_cons_zero, List.set_cons_succ]
              refine wpAnyH_take (i := 27) (v := ?_) rfl (by kernel_rfl) (by kernel_rfl) (by kernel_rfl) (fun _ _ _ h => h) (Or.inl ⟨by rfl, ?_⟩) (by assumption) ?_
              rotate_left
              · intro w hSw
                try dsimp only at hSw
                go_simp
                try with_reducible rfl
              try simp only [List.getElem_toArray, List.getElem_cons_zero, List.getElem_cons_succ, Act.put, List.setIfInBounds_toArray, List.set_cons_zero, List.set_cons_succ]
              refine wpAnyH_take (i := 28) (v := ?_) rfl (by kernel_rfl) (by kernel_rfl) (by kernel_rfl) (fun _ _ _ h => h) (Or.inl ⟨by rfl, ?_⟩) (by assumption) ?_
              rotate_left
              · intro w hSw
                try dsimp only at hSw
                go_simp
                try with_reducible rfl
              try simp only [List.getElem_toArray, List.getElem_cons_zero, List.getElem_cons_succ, Act.put, List.setIfInBounds_toArray, List.set_cons_zero, List.set_cons_succ]
              refine wpAnyH_ready (rs := [23]) (by kernel_rfl) (by simp) ?_
              refine AllReadyH.cons rfl (fun K hK => ?_) AllReadyH.nil
              go_simp
              go_at_call 42
              refine HDC1.out.mono ?_
              rintro e w6 hto
              obtain ⟨v, G', rfl, hm6, hf6, hr6⟩ := hto
              obtain ⟨ao6, cap6, rfl, hro6, hrn6⟩ := hr6
              have hB : Upd G wc.drew w6 := hf6.2
              have HU6 : Hid (Upd [] w w6) := HLTC.out.drew.then hf6.2 (fun _ _ h => h) (fun i hi hm => by have := HNG.out i hm; have := HU2.out.size; omega)
              have HU6P : Hid (Upd [] w2 w6) := HPC.out.drew.then hf6.2 (fun _ _ h => h) (fun i hi hm => by have := HNG.out i hm; omega)
              have HM6 := Lib.hid hm6
              have HF6 := Lib.hid hf6
              have HSM : Hid (Calls Tryz.prog 55 #[.agg #[.int .i64 r.1.e, .slice ao6 r.1.L.length cap6, .int .i64 r.1.n, .int .u64 r.1.v], .agg #[.int .i64 x.r.e, .slice lo x.r.L.length lc, .int .i64 x.r.n, .int .u64 x.r.v]] w6 (RetUpd [] w6 (.bool (rtSame r.1 x.r)))) := hret_any ⟨_, rfl, hro6.sl⟩ ⟨_, rfl, HPTW.out.upd HU6.out⟩
              rw [hsm] at HSM
              clear hm6 hf6 hro6 hrn6
              refine hK.out _ _ (Held.step hHeld hB) (fun hHeld2 => ?_)
              clear hK K hHeld
              try simp only [List.getElem_toArray, List.getElem_cons_zero, List.getElem_cons_succ, Act.put, List.setIfInBounds_toArray, List.set_cons_zero, List.set_cons_succ]
              refine wpAnyH_ready (rs := [29]) (by kernel_rfl) (by simp) ?_
              refine AllReadyH.cons rfl (fun K hK => ?_) AllReadyH.nil
              go_simp
              go_at_call 55
              refine HSM.out.mono ?_
              rintro e w7 ⟨rfl, hB0⟩
              have HB7 := Lib.hid hB0
              have hB7 := hB0.nil (S := G)
              clear hB0
              refine hK.out _ _ (Held.step hHeld2 hB7) (fun hHeld3 => ?_)
              clear hK K hHeld2
              try simp only [List.getElem_toArray, List.getElem_cons_zero, List.getElem_cons_succ, Act.put, List.setIfInBounds_toArray, List.set_cons_zero, List.set_cons_succ]
              refine wpAnyH_take (i := 30) (v := ?_) rfl (by kernel_rfl) (by kernel_rfl) (by kernel_rfl) (fun _ _ _ h => h) (Or.inl ⟨by rfl, ?_⟩) (by assumption) ?_
              rotate_left
              · intro w hSw
                try dsimp only at hSw
                go_simp
                try with_reducible rfl
              try simp only [List.getElem_toArray, List.getElem_cons_zero, List.getElem_cons_succ, Act.put, List.setIfInBounds_toArray, List.set_cons_zero, List.set_cons_succ]
              refine wpAnyH_take (i := 31) (v := ?_) rfl (by kernel_rfl) (by kernel_rfl) (by kernel_rfl) (fun _ _ _ h => h) (Or.inl ⟨by rfl, ?_⟩) (by assumption) ?_
              rotate_left
              · intro w hSw
                try dsimp only at hSw
                go_simp
                try with_reducible rfl
              try simp only [List.getElem_toArray, List.getElem_cons_zero, List.getElem_cons_succ, Act.put, List.setIfInBounds_toArray, List.set_cons_zero, List.set_cons_succ]
              refine wpAnyH_done (by kernel_rfl) ?_ _
              cases sm with
              | false =>
                have HNONE : Hid (playsM p l = none) := HST.out.2.1 HSMM.out
                go_wp2_with fail
                go_ret
                exact .inr ⟨HNONE.out, rfl, HU6.out.trans HB7.out⟩
              | true =>
                have HSOME : Hid (playsM p l = runM p (l.drop (0 + 1)) (lastS l (0 + 1)) r.2) := HST.out.2.2 HBH.out HSMM.out
                go_wp2_with fail
                exact ⟨⟨0 + 1, r.2, G', by congr 1, by have := HN.out; omega, HSOME.out, HM6.out.upd HB7.out, fun y hy => by rcases HF6.out.1 y hy with h | h; (exact HNG.out y h); (have := HPC.out.size; simp at h; omega), HU6P.out.trans HB7.out, by have := HDC2.out; have := HMN.out; omega⟩, by first | (simp [intOf]; done) | (simp [intOf]; omega)⟩
            · obtain ⟨j, rfl⟩ : ∃ j, i = j + 1 := ⟨i - 1, by omega⟩
              obtain ⟨y, hy⟩ : ∃ y, l[j]? = some y := ⟨_, List.getElem?_eq_getElem (by have := HN.out; omega)⟩
              have hbs := behind_succ hy x.step
              obtain ⟨-, _, _, e1', hat⟩ := pts_at (HL.out.upd HLTC.out)
              rw [HN.out] at e1'
              cases e1'
              obtain ⟨_, _, e2', lg', -, v0, -, -, -, -, -, -⟩ := hat j y hy
              cases e2'
              have i1 : decide ((0 : Int) < ((j + 1 : Nat) : Int)) = true := decide_eq_true (by omega)
              have i1' : decide ((0 : Int) < (j : Int) + 1) = true := decide_eq_true (by omega)
              have i3 : (j : Int) < (n : Int) := by omega
              have jn : j < n := by omega
              have b1' : (j : Int) + 1 < (n : Int) := by omega
              have b0' : (0 : Int) ≤ (j : Int) + 1 := by omega
              have w1 : wrap64 (j : Int) = (j : Int) := by unfold wrap64; have := HLEN.out; have := HN.out; omega
              have w2' : IntKind.i64.wrap (j : Int) = (j : Int) := by rw [IntKind.wrap_i64]; have := HLEN.out; have := HN.out; omega
              have w3' : wrap64 ((j : Int) + 1 - 1) = (j : Int) := by rw [Int.add_sub_cancel]; exact w1
              have w4 : IntKind.i64.wrap ((j : Int) + 1 - 1) = (j : Int) := by rw [Int.add_sub_cancel]; exact w2'
              clear hat hy
              by_cases hst : y.step < x.step
              · have i4 : decide (x.step ≤ y.step) = false := by simp; omega
                have HBH : Hid (behind (lastS l (j + 1)) x.step = true) := by unfold Hid; rw [hbs]; simp [hst]
                clear hbs hst
                obtain ⟨sm, hsm⟩ : ∃ y, rtSame r.1 x.r = y := ⟨_, rfl⟩
                have HSMM := Lib.hid hsm
                go_upto_region 8 with (fail)
                refine wp_region_held_drew (S := fun w' => Upd G wc w' ∧ ∀ (b o : Nat), b < wc.heap.size → b ∉ G → w'.cell? ⟨b, o, none⟩ = wc.cell? ⟨b, o, none⟩) (by kernel_rfl) (Held.init _ _) (fun hHeld => ?_)
                refine wpAnyH_take (i := 0) (v := ?_) rfl (by kernel_rfl) (by kernel_rfl) (by kernel_rfl) (fun _ _ _ h => h) (Or.inl ⟨by rfl, ?_⟩) (by assumption) ?_
                rotate_left
                · intro w hSw
                  try dsimp only at hSw
                  go_simp
                  try with_reducible rfl
                try simp only [List.getElem_toArray, List.getElem_cons_zero, List.getElem_cons_succ, Act.put, List.setIfInBounds_toArray, List.set_cons_zero, List.set_cons_succ]
                refine wpAnyH_take (i := 1) (v := ?_) rfl (by kernel_rfl) (by kernel_rfl) (by kernel_rfl) (fun _ _ _ h => h) (Or.inl ⟨by rfl, ?_⟩) (by assumption) ?_
                rotate_left
                · intro w hSw
                  try dsimp only at hSw
                  go_simp
                  try with_reducible rfl
                try simp only [List.getElem_toArray, List.getElem_cons_zero, List.getElem_cons_succ, Act.put, List.setIfInBounds_toArray, List.set_cons_zero, List.set_cons_succ]
                refine wpAnyH_take (i := 2) (v := ?_) rfl (by kernel_rfl) (by kernel_rfl) (by kernel_rfl) (fun _ _ _ h => h) (Or.inl ⟨by rfl, ?_⟩) (by assumption) ?_
                rotate_left
                · intro w hSw
                  try dsimp only at hSw
                  go_simp
                  try with_reducible rfl
                try simp only [List.getElem_toArray, List.getElem_cons_zero, List.getElem_cons_succ, Act.put, List.setIfInBounds_toArray, List.set_cons_zero, List.set_cons_succ]
                refine wpAnyH_take (i := 3) (v := ?_) rfl (by kernel_rfl) (by kernel_rfl) (by kernel_rfl) (fun _ _ _ h => h) (Or.inl ⟨by rfl, ?_⟩) (by assumption) ?_
                rotate_left
                · intro w hSw
                  try dsimp only at hSw
                  go_simp
                  try with_reducible rfl
                try simp only [List.getElem_toArray, List.getElem_cons_zero, List.getElem_cons_succ, Act.put, List.setIfInBounds_toArray, List.set_cons_zero, List.set_cons_succ]
                refine wpAnyH_take (i := 4) (v := ?_) rfl (by kernel_rfl) (by kernel_rfl) (by kernel_rfl) (fun _ _ _ h => h) (Or.inl ⟨by rfl, ?_⟩) (by assumption) ?_
                rotate_left
                · intro w hSw
                  try dsimp only at hSw
                  go_simp
                  try with_reducible rfl
                try simp only [List.getElem_toArray, List.getElem_cons_zero, List.getElem_cons_succ, Act.put, List.setIfInBounds_toArray, List.set_cons_zero, List.set_cons_succ]
                refine wpAnyH_take (i := 5) (v := ?_) rfl (by kernel_rfl) (by kernel_rfl) (by kernel_rfl) (fun _ _ _ h => h) (Or.inl ⟨by rfl, ?_⟩) (by assumption) ?_
                rotate_left
                · intro w hSw
                  try dsimp only at hSw
                  go_simp
                  try with_reducible rfl
                try simp only [List.getElem_toArray, List.getElem_cons_zero, List.getElem_cons_succ, Act.put, List.setIfInBounds_toArray, List.set_cons_zero, List.set_cons_succ]
                refine wpAnyH_take (i := 6) (v := ?_) rfl (by kernel_rfl) (by kernel_rfl) (by kernel_rfl) (fun _ _ _ h => h) (Or.inl ⟨by rfl, ?_⟩) (by assumption) ?_
                rotate_left
                · intro w hSw
                  try dsimp only at hSw
                  go_simp
                  try with_reducible rfl
                try simp only [List.getElem_toArray, List.getElem_cons_zero, List.getElem_cons_succ, Act.put, List.setIfInBounds_toArray, List.set_cons_zero, List.set_cons_succ]
                refine wpAnyH_take (i := 7) (v := ?_) rfl (by kernel_rfl) (by kernel_rfl) (by kernel_rfl) (fun _ _ _ h => h) (Or.inl ⟨by rfl, ?_⟩) (by assumption) ?_
                rotate_left
                · intro w hSw
                  try dsimp only at hSw
                  go_simp
                  try with_reducible rfl
                try simp only [List.getElem_toArray, List.getElem_cons_zero, List.getElem_cons_succ, Act.put, List.setIfInBounds_toArray, List.set_cons_zero, List.set_cons_succ]
                refine wpAnyH_take (i := 8) (v := ?_) rfl (by kernel_rfl) (by kernel_rfl) (by kernel_rfl) (fun _ _ _ h => h) (Or.inl ⟨by rfl, ?_⟩) (by assumption) ?_
                rotate_left
                · intro w hSw
                  try dsimp only at hSw
                  go_simp
                  try with_reducible rfl
                try simp only [List.getElem_toArray, List.getElem_cons_zero, List.getElem_cons_succ, Act.put, List.setIfInBounds_toArray, List.set_cons_zero, List.set_cons_succ]
                refine wpAnyH_take (i := 9) (v := ?_) rfl (by kernel_rfl) (by kernel_rfl) (by kernel_rfl) (fun _ _ _ h => h) (Or.inl ⟨by rfl, ?_⟩) (by assumption) ?_
                rotate_left
                · intro w hSw
                  try dsimp only at hSw
                  go_simp
                  try with_reducible rfl
                try simp only [List.getElem_toArray, List.getElem_cons_zero, List.getElem_cons_succ, Act.put, List.setIfInBounds_toArray, List.set_cons_zero, List.set_cons_succ]
                refine wpAnyH_take (i := 10) (v := ?_) rfl (by kernel_rfl) (by kernel_rfl) (by kernel_rfl) (fun _ _ _ h => h) (Or.inl ⟨by rfl, ?_⟩) (by assumption) ?_
                rotate_left
                · intro w hSw
                  try dsimp only at hSw
                  go_simp
                  try with_reducible rfl
                try simp only [List.getElem_toArray, List.getElem_cons_zero, List.getElem_cons_succ, Act.put, List.setIfInBounds_toArray, List.set_cons_zero, List.set_cons_succ]
                refine wpAnyH_take (i := 11) (v := ?_) rfl (by kernel_rfl) (by kernel_rfl) (by kernel_rfl) (fun _ _ _ h => h) (Or.inl ⟨by rfl, ?_⟩) (by assumption) ?_
                rotate_left
                · intro w hSw
                  try dsimp only at hSw
                  go_simp
                  try with_reducible rfl
                try simp only [List.getElem_toArray, List.getElem_cons_zero, List.getElem_cons_succ, Act.put, List.setIfInBounds_toArray, List.set_cons_zero, List.set_cons_succ]
                refine wpAnyH_take (i := 12) (v := ?_) rfl (by kernel_rfl) (by kernel_rfl) (by kernel_rfl) (fun _ _ _ h => h) (Or.inl ⟨by rfl, ?_⟩) (by assumption) ?_
                rotate_left
                · intro w hSw
                  try dsimp only at hSw
                  go_simp
                  try with_reducible rfl
                try simp only [List.getElem_toArray, List.getElem_cons_zero, List.getElem_cons_succ, Act.put, List.setIfInBounds_toArray, List.set_cons_zero, List.set_cons_succ]
                refine wpAnyH_take (i := 13) (v := ?_) rfl (by kernel_rfl) (by kernel_rfl) (by kernel_rfl) (fun _ _ _ h => h) (Or.inl ⟨by rfl, ?_⟩) (by assumption) ?_
                rotate_left
                · intro w hSw
                  try dsimp only at hSw
                  go_simp
                  try with_reducible rfl
                try simp only [List.getElem_toArray, List.getElem_cons_zero, List.getElem_cons_succ, Act.put, List.setIfInBounds_toArray, List.set_cons_zero, List.set_cons_succ]
                refine wpAnyH_take (i := 14) (v := ?_) rfl (by kernel_rfl) (by kernel_rfl) (by kernel_rfl) (fun _ _ _ h => h) (Or.inl ⟨by rfl, ?_⟩) (by assumption) ?_
                rotate_left
                · intro w hSw
                  try dsimp only at hSw
                  go_simp
                  try with_reducible rfl
                try simp only [List.getElem_toArray, List.getElem_cons_zero, List.getElem_cons_succ, Act.put, List.setIfInBounds_toArray, List.set_cons_zero, List.set_cons_succ]
                refine wpAnyH_take (i := 15) (v := ?_) rfl (by kernel_rfl) (by kernel_rfl) (by kernel_rfl) (fun _ _ _ h => h) (Or.inl ⟨by rfl, ?_⟩) (by assumption) ?_
                rotate_left
                · intro w hSw
                  try dsimp only at hSw
                  go_simp
                  try with_reducible rfl
                try simp only [List.getElem_toArray, List.getElem_cons_zero, List.getElem_cons_succ, Act.put, List.setIfInBounds_toArray, List.set_cons_zero, List.set_cons_succ]
                refine wpAnyH_take (i := 16) (v := ?_) rfl (by kernel_rfl) (by kernel_rfl) (by kernel_rfl) (fun _ _ _ h => h) (Or.inl ⟨by rfl, ?_⟩) (by assumption) ?_
                rotate_left
                · intro w hSw
                  try dsimp only at hSw
                  go_simp
                  try with_reducible rfl
                try simp only [List.getElem_toArray, List.getElem_cons_zero, List.getElem_cons_succ, Act.put, List.setIfInBounds_toArray, List.set_cons_zero, List.set_cons_succ]
                refine wpAnyH_take (i := 17) (v := ?_) rfl (by kernel_rfl) (by kernel_rfl) (by kernel_rfl) (fun _ _ _ h => h) (Or.inl ⟨by rfl, ?_⟩) (by assumption) ?_
                rotate_left
                · intro w hSw
                  try dsimp only at hSw
                  go_simp
                  try with_reducible rfl
                try simp only [List.getElem_toArray, List.getElem_cons_zero, List.getElem_cons_succ, Act.put, List.setIfInBounds_toArray, List.set_cons_zero, List.set_cons_succ]
                refine wpAnyH_take (i := 18) (v := ?_) rfl (by kernel_rfl) (by kernel_rfl) (by kernel_rfl) (fun _ _ _ h => h) (Or.inl ⟨by rfl, ?_⟩) (by assumption) ?_
                rotate_left
                · intro w hSw
                  try dsimp only at hSw
                  go_simp
                  try with_reducible rfl
                try simp only [List.getElem_toArray, List.getElem_cons_zero, List.getElem_cons_succ, Act.put, List.setIfInBounds_toArray, List.set_cons_zero, List.set_cons_succ]
                refine wpAnyH_take (i := 19) (v := ?_) rfl (by kernel_rfl) (by kernel_rfl) (by kernel_rfl) (fun _ _ _ h => h) (Or.inl ⟨by rfl, ?_⟩) (by assumption) ?_
                rotate_left
                · intro w hSw
                  try dsimp only at hSw
                  go_simp
                  try with_reducible rfl
                try simp only [List.getElem_toArray, List.getElem_cons_zero, List.getElem_cons_succ, Act.put, List.setIfInBounds_toArray, List.set_cons_zero, List.set_cons_succ]
                refine wpAnyH_take (i := 20) (v := ?_) rfl (by kernel_rfl) (by kernel_rfl) (by kernel_rfl) (fun _ _ _ h => h) (Or.inl ⟨by rfl, ?_⟩) (by assumption) ?_
                rotate_left
                · intro w hSw
                  try dsimp only at hSw
                  go_simp
                  try with_reducible rfl
                try simp only [List.getElem_toArray, List.getElem_cons_zero, List.getElem_cons_succ, Act.put, List.setIfInBounds_toArray, List.set_cons_zero, List.set_cons_succ]
                refine wpAnyH_take (i := 21) (v := ?_) rfl (by kernel_rfl) (by kernel_rfl) (by kernel_rfl) (fun _ _ _ h => h) (Or.inl ⟨by rfl, ?_⟩) (by assumption) ?_
                rotate_left
                · intro w hSw
                  try dsimp only at hSw
                  go_simp
                  try with_reducible rfl
                try simp only [List.getElem_toArray, List.getElem_cons_zero, List.getElem_cons_succ, Act.put, List.setIfInBounds_toArray, List.set_cons_zero, List.set_cons_succ]
                refine wpAnyH_take (i := 22) (v := ?_) rfl (by kernel_rfl) (by kernel_rfl) (by kernel_rfl) (fun _ _ _ h => h) (Or.inl ⟨by rfl, ?_⟩) (by assumption) ?_
                rotate_left
                · intro w hSw
                  try dsimp only at hSw
                  go_simp
                  try with_reducible rfl
                try simp only [List.getElem_toArray, List.getElem_cons_zero, List.getElem_cons_succ, Act.put, List.setIfInBounds_toArray, List.set_cons_zero, List.set_cons_succ]
                refine wpAnyH_take (i := 24) (v := ?_) rfl (by kernel_rfl) (by kernel_rfl) (by kernel_rfl) (fun _ _ _ h => h) (Or.inl ⟨by rfl, ?_⟩) (by assumption) ?_
                rotate_left
                · intro w hSw
                  try dsimp only at hSw
                  go_simp
                  try with_reducible rfl
                try simp only [List.getElem_toArray, List.getElem_cons_zero, List.getElem_cons_succ, Act.put, List.setIfInBounds_toArray, List.set_cons_zero, List.set_cons_succ]
                refine wpAnyH_take (i := 25) (v := ?_) rfl (by kernel_rfl) (by kernel_rfl) (by kernel_rfl) (fun _ _ _ h => h) (Or.inl ⟨by rfl, ?_⟩) (by assumption) ?_
                rotate_left
                · intro w hSw
                  try dsimp only at hSw
                  go_simp
                  try with_reducible rfl
                try simp only [List.getElem_toArray, List.getElem_cons_zero, List.getElem_cons_succ, Act.put, List.setIfInBounds_toArray, List.set_cons_zero, List.set_cons_succ]
                refine wpAnyH_take (i := 26) (v := ?_) rfl (by kernel_rfl) (by kernel_rfl) (by kernel_rfl) (fun _ _ _ h => h) (Or.inl ⟨by rfl, ?_⟩) (by assumption) ?_
                rotate_left
                · intro w hSw
                  try dsimp only at hSw
                  go_simp
                  try with_reducible rfl
                try simp only [List.getElem_toArray, List.getElem_cons_zero, List.getElem_cons_succ, Act.put, List.setIfInBounds_toArray, List.set_cons_zero, List.set_cons_succ]
                refine wpAnyH_take (i := 27) (v := ?_) rfl (by kernel_rfl) (by kernel_rfl) (by kernel_rfl) (fun _ _ _ h => h) (Or.inl ⟨by rfl, ?_⟩) (by assumption) ?_
                rotate_left
                · intro w hSw
                  try dsimp only at hSw
                  go_simp
                  try with_reducible rfl
                try simp only [List.getElem_toArray, List.getElem_cons_zero, List.getElem_cons_succ, Act.put, List.setIfInBounds_toArray, List.set_cons_zero, List.set_cons_succ]
                refine wpAnyH_take (i := 28) (v := ?_) rfl (by kernel_rfl) (by kernel_rfl) (by kernel_rfl) (fun _ _ _ h => h) (Or.inl ⟨by rfl, ?_⟩) (by assumption) ?_
                rotate_left
                · intro w hSw
                  try dsimp only at hSw
                  go_simp
                  try with_reducible rfl
                try simp only [List.getElem_toArray, List.getElem_cons_zero, List.getElem_cons_succ, Act.put, List.setIfInBounds_toArray, List.set_cons_zero, List.set_cons_succ]
                refine wpAnyH_ready (rs := [23]) (by kernel_rfl) (by simp) ?_
                refine AllReadyH.cons rfl (fun K hK => ?_) AllReadyH.nil
                go_simp
                go_at_call 42
                refine HDC1.out.mono ?_
                rintro e w6 hto
                obtain ⟨v, G', rfl, hm6, hf6, hr6⟩ := hto
                obtain ⟨ao6, cap6, rfl, hro6, hrn6⟩ := hr6
                have hB : Upd G wc.drew w6 := hf6.2
                have HU6 : Hid (Upd [] w w6) := HLTC.out.drew.then hf6.2 (fun _ _ h => h) (fun i hi hm => by have := HNG.out i hm; have := HU2.out.size; omega)
                have HU6P : Hid (Upd [] w2 w6) := HPC.out.drew.then hf6.2 (fun _ _ h => h) (fun i hi hm => by have := HNG.out i hm; omega)
                have HM6 := Lib.hid hm6
                have HF6 := Lib.hid hf6
                have HSM : Hid (Calls Tryz.prog 55 #[.agg #[.int .i64 r.1.e, .slice ao6 r.1.L.length cap6, .int .i64 r.1.n, .int .u64 r.1.v], .agg #[.int .i64 x.r.e, .slice lo x.r.L.length lc, .int .i64 x.r.n, .int .u64 x.r.v]] w6 (RetUpd [] w6 (.bool (rtSame r.1 x.r)))) := hret_any ⟨_, rfl, hro6.sl⟩ ⟨_, rfl, HPTW.out.upd HU6.out⟩
                rw [hsm] at HSM
                clear hm6 hf6 hro6 hrn6
                refine hK.out _ _ (Held.step hHeld hB) (fun hHeld2 => ?_)
                clear hK K hHeld
                try simp only [List.getElem_toArray, List.getElem_cons_zero, List.getElem_cons_succ, Act.put, List.setIfInBounds_toArray, List.set_cons_zero, List.set_cons_succ]
                refine wpAnyH_ready (rs := [29]) (by kernel_rfl) (by simp) ?_
                refine AllReadyH.cons rfl (fun K hK => ?_) AllReadyH.nil
                go_simp
                go_at_call 55
                refine HSM.out.mono ?_
                rintro e w7 ⟨rfl, hB0⟩
                have HB7 := Lib.hid hB0
                have hB7 := hB0.nil (S := G)
                clear hB0
                refine hK.out _ _ (Held.step hHeld2 hB7) (fun hHeld3 => ?_)
                clear hK K hHeld2
                try simp only [List.getElem_toArray, List.getElem_cons_zero, List.getElem_cons_succ, Act.put, List.setIfInBounds_toArray, List.set_cons_zero, List.set_cons_succ]
                refine wpAnyH_take (i := 30) (v := ?_) rfl (by kernel_rfl) (by kernel_rfl) (by kernel_rfl) (fun _ _ _ h => h) (Or.inl ⟨by rfl, ?_⟩) (by assumption) ?_
                rotate_left
                · intro w hSw
                  try dsimp only at hSw
                  go_simp
                  try with_reducible rfl
                try simp only [List.getElem_toArray, List.getElem_cons_zero, List.getElem_cons_succ, Act.put, List.setIfInBounds_toArray, List.set_cons_zero, List.set_cons_succ]
                refine wpAnyH_take (i := 31) (v := ?_) rfl (by kernel_rfl) (by kernel_rfl) (by kernel_rfl) (fun _ _ _ h => h) (Or.inl ⟨by rfl, ?_⟩) (by assumption) ?_
                rotate_left
                · intro w hSw
                  try dsimp only at hSw
                  go_simp
                  try with_reducible rfl
                try simp only [List.getElem_toArray, List.getElem_cons_zero, List.getElem_cons_succ, Act.put, List.setIfInBounds_toArray, List.set_cons_zero, List.set_cons_succ]
                refine wpAnyH_done (by kernel_rfl) ?_ _
                cases sm with
                | false =>
                  have HNONE : Hid (playsM p l = none) := HST.out.2.1 HSMM.out
                  go_wp2_with fail
                  go_ret
                  exact .inr ⟨HNONE.out, rfl, HU6.out.trans HB7.out⟩
                | true =>
                  have HSOME : Hid (playsM p l = runM p (l.drop ((j + 1) + 1)) (lastS l ((j + 1) + 1)) r.2) := HST.out.2.2 HBH.out HSMM.out
                  go_wp2_with fail
                  exact ⟨⟨(j + 1) + 1, r.2, G', by congr 1, by have := HN.out; omega, HSOME.out, HM6.out.upd HB7.out, fun y hy => by rcases HF6.out.1 y hy with h | h; (exact HNG.out y h); (have := HPC.out.size; simp at h; omega), HU6P.out.trans HB7.out, by have := HDC2.out; have := HMN.out; omega⟩, by first | (simp [intOf]; done) | (simp [intOf]; omega)⟩
              · have i4 : decide (x.step ≤ y.step) = true := by simp; omega
                have HNONE : Hid (playsM p l = none) := HST.out.1 (by rw [hbs]; simp [hst])
                clear hbs hst
                go_upto_region 8 with (fail)
                go_quiet (fail)
                go_wp2_with fail
                go_ret
                exact .inr ⟨HNONE.out, rfl, HLTC.out.trans ((Upd.refl [] _).drewN _)⟩
      · have t1 : decide (i < n) = false := by simp; omega
        have hfin : playsM p l = some m := by rw [HPR.out, List.drop_eq_nil_of_le (by rw [HN.out]; omega)]; rfl
        have HFIN := Lib.hid hfin
        clear hfin
        go_wp2_with fail
        go_ret
        exact .inl ⟨m, mb, G, HFIN.out, rfl, HM.out, fun y hy => Nat.le_trans HU2.out.size (HNG.out y hy), HU.out, by have := HMN.out; have := HN.out; omega⟩
end Go.Proofs.YtfeobcmcellcpaaGreat
