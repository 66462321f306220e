/-
  The walk of the program's Model and Plays: the model behind points. No condition.
-/
import Derived.Test.YtfeobcmcellcpaaGreatPME
import Derived.Test.YtfeobcmcellcpaaGreatMh
import Derived.Test.YtfeobcmcellcpaaGreatHeld
set_option linter.unusedVariables false
set_option linter.unusedSimpArgs false
namespace Go.Proofs.YtfeobcmcellcpaaGreat
open Go.RowKit

def lastS (l : List Pt) (i : Nat) : Option Int := if i = 0 then none else (l[i - 1]?).map (·.step)
theorem run_at {p : Pl} {l : List Pt} {i : Nat} {x : Pt} {m : Ms} {R : Option Ms} (hx : l[i]? = some x) (h : R = runM p (l.drop i) (lastS l i) m) :
    (callP p.L x = none → R = none) ∧ ∀ k, callP p.L x = some k → (behind (lastS l i) x.step = false → R = none) ∧ (rtSame (doM p.c m k).1 x.r = false → R = none) ∧ (behind (lastS l i) x.step = true → rtSame (doM p.c m k).1 x.r = true → R = runM p (l.drop (i + 1)) (lastS l (i + 1)) (doM p.c m k).2) := by
  obtain ⟨hi, e⟩ := List.getElem?_eq_some_iff.1 hx
  have hd : l.drop i = x :: l.drop (i + 1) := by rw [List.drop_eq_getElem_cons hi, e]
  rw [hd] at h
  have hl : lastS l (i + 1) = some x.step := by unfold lastS; rw [if_neg (by omega), Nat.add_sub_cancel, hx]; rfl
  refine ⟨fun hc => ?_, fun k hc => ⟨fun hb => ?_, fun hr => ?_, fun hb hr => ?_⟩⟩
  · rw [h]; unfold runM; rw [hc]
  · rw [h]; unfold runM; rw [hc]; simp [hb]
  · rw [h]; unfold runM; rw [hc]; simp [hr]
  · rw [h, hl]; conv => lhs; unfold runM
    rw [hc]; simp [hb, hr]
theorem behind_zero (l : List Pt) (s : Int) : behind (lastS l 0) s = true := rfl
theorem behind_succ {l : List Pt} {i : Nat} {y : Pt} (hy : l[i]? = some y) (s : Int) : behind (lastS l (i + 1)) s = decide (y.step < s) := by
  unfold lastS; rw [if_neg (by omega), Nat.add_sub_cancel, hy]; rfl

/-- What Do has to tell: of the calls of a kind. -/
def DoOk (W : World) (c : Cf) (ok : Cl → Prop) : Prop := ∀ (w : World) (mb : Nat) (m : Ms) (G : List Nat) (k : Cl), MG W mb c m G w → ok k → m.n ≤ 4611686018427387904 → Calls Tryz.prog 61 #[.pointer (some ⟨mb, 0, none⟩), clV k] w (MTo W mb c (doM c m k) G w) ∧ (doM c m k).2.n ≤ m.n + 16
def WMAt (W w : World) (p : Pl) (l : List Pt) (mb : Nat) (iv : Value) (wr : World) : Prop := ∃ (i : Nat) (m : Ms) (G : List Nat), iv = .int .i64 i ∧ i ≤ l.length ∧ playsM p l = runM p (l.drop i) (lastS l i) m ∧ MG W mb p.c m G wr ∧ (∀ x ∈ G, w.heap.size ≤ x) ∧ Upd [] w wr ∧ m.n ≤ 16 * i
def WMTo (W : World) (p : Pl) (l : List Pt) (w : World) (e : Ending) (w' : World) : Prop :=
  (∃ m mb G, playsM p l = some m ∧ e = .returned (.tuple #[.pointer (some ⟨mb, 0, none⟩), .bool true]) ∧ MG W mb p.c m G w' ∧ (∀ x ∈ G, w.heap.size ≤ x) ∧ Upd [] w w' ∧ m.n ≤ 16 * l.length) ∨
  (playsM p l = none ∧ e = .returned (.tuple #[.pointer none, .bool false]) ∧ Upd [] w w')

/-- A row of points, one by one. -/
theorem pts_at {w : World} {v : Value} {l : List Pt} (h : PtsAt' w v l) : l.length ≤ maxLen ∧ ∃ ao cap, v = .slice ao l.length cap ∧ ∀ i x, l[i]? = some x → ∃ b off, ao = some ⟨b, off, none⟩ ∧ b < w.heap.size ∧ PtAt w x ∧ w.cell? ⟨b, off + i * 7, none⟩ = some (.int .i64 x.step) ∧ w.cell? ⟨b, off + i * 7 + 1, none⟩ = some (.int .i64 x.who) ∧ w.cell? ⟨b, off + i * 7 + 2, none⟩ = some (.int .i64 x.place) ∧ w.cell? ⟨b, off + i * 7 + 3, none⟩ = some (.int .i64 x.r.e) ∧ w.cell? ⟨b, off + i * 7 + 4, none⟩ = some x.lv ∧ w.cell? ⟨b, off + i * 7 + 5, none⟩ = some (.int .i64 x.r.n) ∧ w.cell? ⟨b, off + i * 7 + 6, none⟩ = some (.int .u64 x.r.v) := by
  obtain ⟨hs, hin⟩ := h
  obtain ⟨-, h2, ao, cap, rfl, h3⟩ := hs.get ptVs 7 ptVs_len (by omega)
  refine ⟨h2, ao, cap, rfl, fun i x hx => ?_⟩
  have hil := (List.getElem?_eq_some_iff.1 hx).1
  rcases h3 with h3 | ⟨b, off, rfl, hb, hc⟩
  · omega
  · exact ⟨b, off, rfl, hb, hin x (List.mem_of_getElem? hx), hc i x hx 0 _ rfl, hc i x hx 1 _ rfl, hc i x hx 2 _ rfl, hc i x hx 3 _ rfl, hc i x hx 4 _ rfl, hc i x hx 5 _ rfl, hc i x hx 6 _ rfl⟩

set_option maxHeartbeats 8000000 in
theorem wmodel_any {W w : World} {ok : Cl → Prop} {pv v : Value} {p : Pl} {l : List Pt} (hW : W.heap.size ≤ w.heap.size) (hp : PlanAt w pv p) (hl : PtsAt' w v l) (hdo : DoOk W p.c ok) (hok : ∀ x ∈ l, ∀ k, callP p.L x = some k → ok k) (hlen : l.length ≤ 288230376151711744) : Calls Tryz.prog 27 #[pv, v] w (WMTo W p l w) := by
  have HP := Lib.hid hp
  have HL := Lib.hid hl
  obtain ⟨lv, rfl, -⟩ := hp
  obtain ⟨-, ao, cap, rfl, -⟩ := pts_at hl
  obtain ⟨n, hn⟩ : ∃ n, l.length = n := ⟨_, rfl⟩
  have HN := Lib.hid hn
  have HW := Lib.hid hW
  have HDO := Lib.hid hdo
  have HOK := Lib.hid hok
  have HLEN := Lib.hid hlen
  rw [hn] at hlen ⊢
  clear hl hn hW hdo hok
  obtain ⟨wp, hwp⟩ : ∃ y, w.alloc (.cells #[.int .i64 p.c.sh, .int .i64 p.c.sl, .int .i64 p.c.wo, .int .i64 p.c.wd, .int .u64 p.c.unit, lv] 29) = y := ⟨_, rfl⟩
  have hup : Upd [] w wp := by rw [← hwp]; exact (Upd.refl [] w).alloc _
  have hbp : Blk wp w.heap.size 29 [.int .i64 p.c.sh, .int .i64 p.c.sl, .int .i64 p.c.wo, .int .i64 p.c.wd, .int .u64 p.c.unit, lv] := by rw [← hwp]; exact Blk.new w 29 [.int .i64 p.c.sh, .int .i64 p.c.sl, .int .i64 p.c.wo, .int .i64 p.c.wd, .int .u64 p.c.unit, lv]
  have HNEW : Hid (∀ w', Upd [] w w' → Calls Tryz.prog 58 #[.agg #[.int .i64 p.c.sh, .int .i64 p.c.sl, .int .i64 p.c.wo, .int .i64 p.c.wd, .int .u64 p.c.unit]] w' (MNewTo W p.c w')) := fun w' hu => mnew_any p.c (Nat.le_trans HW.out hu.size)
  have HUP := Lib.hid hup
  obtain ⟨bp, hb⟩ : ∃ y, w.heap.size = y := ⟨_, rfl⟩
  have HB := Lib.hid hb
  rw [hb] at hbp
  have HBP := Lib.hid hbp
  have z0 := hbp.cell (j := 0) rfl
  have z1 := hbp.cell (j := 1) rfl
  have z2 := hbp.cell (j := 2) rfl
  have z3 := hbp.cell (j := 3) rfl
  have z4 := hbp.cell (j := 4) rfl
  have lz := hbp.lt
  clear hup hbp
  go_enter Tryz.func27, Tryz.ntmps27
  go_wp2_with fail
  try rw [hb]
  try simp only [hb]
  clear hwp hb
  go_wp2_with fail
  refine (HNEW.out _ HUP.out).mono ?_
  rintro e w2 hnew
  have HPL : Hid (playsM p l = if rightC p.c = true then runM p l none ms0 else none) := rfl
  rcases hnew with ⟨hr, mb, G, rfl, hm, hu2, hng⟩ | ⟨hr, rfl, hu2⟩
  · have HG0 := Lib.hid hm
    have HNG : Hid (∀ x ∈ G, wp.heap.size ≤ x) := hng
    have HU2 : Hid (Upd [] wp w2) := hu2
    have HPR : Hid (playsM p l = runM p (l.drop 0) (lastS l 0) ms0) := by unfold Hid; rw [HPL.out, if_pos hr]; rfl
    clear hm hng hu2 z0 z1 z2 z3 z4 lz
    go_wp2_with fail
    go_loopw [22] (fun iv wr => WMAt W wp p l mb iv wr) (fun iv _ => n - (intOf iv).toNat)
    case atStart => exact ⟨0, ms0, G, rfl, Nat.zero_le _, HPR.out, HG0.out, HNG.out, HU2.out, Nat.zero_le _⟩
    case round =>
      clear HG0 HNG HU2 HPR
      obtain ⟨i, m, G, rfl, hi, hpr, hm, hng, hU, hmn⟩ := hrel
      rw [HN.out] at hi
      have HUX := Lib.hid hU
      have HU : Hid (Upd [] w wr) := HUP.out.trans hU
      have HM := Lib.hid hm
      have HNG := Lib.hid hng
      have HPR := Lib.hid hpr
      have HMN := Lib.hid hmn
      clear hU hm hng hpr hmn
      by_cases hlt : i < n
      · have t1 : decide (i < n) = true := by simp [hlt]
        have b1 : (i : Int) < (n : Int) := by omega
        obtain ⟨x, hx⟩ : ∃ x, l[i]? = some x := ⟨_, List.getElem?_eq_getElem (by rw [HN.out]; exact hlt)⟩
        obtain ⟨-, _, _, e1, hat⟩ := pts_at (HL.out.upd HU.out)
        cases e1
        obtain ⟨gx, ox, rfl, lx, hpt, x0, x1, x2, x3, x4, x5, x6⟩ := hat i x hx
        have HX := Lib.hid hx
        have hptw := HL.out.2 x (List.mem_of_getElem? hx)
        obtain ⟨lo, lc, hlv, -⟩ := hpt
        rw [hlv] at x4
        unfold PtAt at hptw
        rw [hlv] at hptw
        have HPTW := Lib.hid hptw
        clear hptw
        have HLV := Lib.hid hlv
        have HC : Hid (∀ w', Upd [] w w' → Calls Tryz.prog 59 #[.agg #[.int .i64 p.c.sh, .int .i64 p.c.sl, .int .i64 p.c.wo, .int .i64 p.c.wd, .int .u64 p.c.unit, lv], .agg #[.int .i64 x.step, .int .i64 x.who, .int .i64 x.place, .int .i64 x.r.e, .slice lo x.r.L.length lc, .int .i64 x.r.n, .int .u64 x.r.v]] w' (RetUpd [] w' (callV (callP p.L x)))) := fun w' hu => by
          have := wcall_any (x := x) (HP.out.upd hu)
          unfold ptV at this
          rw [hlv] at this
          exact this
        clear hat hlv
        obtain ⟨wx, hwx⟩ : ∃ y, wr.alloc (.cells #[.int .i64 x.step, .int .i64 x.who, .int .i64 x.place, .int .i64 x.r.e, .slice lo x.r.L.length lc, .int .i64 x.r.n, .int .u64 x.r.v] 59) = y := ⟨_, rfl⟩
        have hux : Upd [] wr wx := by rw [← hwx]; exact (Upd.refl [] wr).alloc _
        have hbx : Blk wx wr.heap.size 59 [.int .i64 x.step, .int .i64 x.who, .int .i64 x.place, .int .i64 x.r.e, .slice lo x.r.L.length lc, .int .i64 x.r.n, .int .u64 x.r.v] := by rw [← hwx]; exact Blk.new wr 59 [.int .i64 x.step, .int .i64 x.who, .int .i64 x.place, .int .i64 x.r.e, .slice lo x.r.L.length lc, .int .i64 x.r.n, .int .u64 x.r.v]
        have HUX1 := Lib.hid hux
        have hb1 := HBP.out.upd (HUX.out.trans hux) (by simp)
        have z0 := hb1.cell (j := 0) rfl
        have z1 := hb1.cell (j := 1) rfl
        have z2 := hb1.cell (j := 2) rfl
        have z3 := hb1.cell (j := 3) rfl
        have z4 := hb1.cell (j := 4) rfl
        have z5 := hb1.cell (j := 5) rfl
        have lz := hb1.lt
        have HBX := Lib.hid hbx
        have y0 := hbx.cell (j := 0) rfl
        have y1 := hbx.cell (j := 1) rfl
        have y2 := hbx.cell (j := 2) rfl
        have y3 := hbx.cell (j := 3) rfl
        have y4 := hbx.cell (j := 4) rfl
        have y5 := hbx.cell (j := 5) rfl
        have y6 := hbx.cell (j := 6) rfl
        have ly := hbx.lt
        clear hux hbx hb1
        go_wp2_with fail
        refine (HC.out _ (HU.out.trans HUX1.out)).mono ?_
        rintro e w4 ⟨rfl, hu4⟩
        have HU4 := Lib.hid hu4
        obtain ⟨bx, hbx⟩ : ∃ y, wr.heap.size = y := ⟨_, rfl⟩
        have HBX2 := Lib.hid hbx
        have HRUN := Lib.hid (run_at HX.out HPR.out)
        clear z0 z1 z2 z3 z4 z5 lz y0 y1 y2 y3 y4 y5 y6 ly hu4 hwx
        cases hcl : callP p.L x with
        | none =>
          have HNONE : Hid (playsM p l = none) := HRUN.out.1 hcl
          unfold callV clV zCl
          rw [hbx]
          clear hbx hcl
          go_wp2_with fail
          go_quiet (fail)
          go_wp2_with fail
          refine bodyPost_ret (v := .tuple #[.pointer none, .bool false]) (by simp [results, Tryz.results27, go_sem]) rfl ?_
          exact .inr ⟨HNONE.out, rfl, (HU.out.trans (HUX1.out.trans (HU4.out.trans ((Upd.refl [] w4).alloc _)))).trans ((Upd.refl [] _).drewN _)⟩
        | some k =>
          obtain ⟨-, h2⟩ := HRUN.out
          have HST := Lib.hid (h2 k hcl)
          have HKOK := Lib.hid (HOK.out x (List.mem_of_getElem? HX.out) k hcl)
          unfold callV clV
          rw [hbx]
          obtain ⟨w5, hw5⟩ : ∃ y, w4.alloc (.cells #[.int .i64 k.op, .int .i64 k.flow, .int .i64 k.a, .int .i64 k.b] 46) = y := ⟨_, rfl⟩
          have hu5 : Upd [] w4 w5 := by rw [← hw5]; exact (Upd.refl [] w4).alloc _
          have hbk : Blk w5 w4.heap.size 46 [.int .i64 k.op, .int .i64 k.flow, .int .i64 k.a, .int .i64 k.b] := by rw [← hw5]; exact Blk.new w4 46 [.int .i64 k.op, .int .i64 k.flow, .int .i64 k.a, .int .i64 k.b]
          have hux5 : Upd [] wr w5 := HUX1.out.trans (HU4.out.trans hu5)
          have HUR5 := Lib.hid hux5
          clear hcl h2 HRUN x0 x1 x2 x3 x4 x5 x6 lx
          go_wp2_with fail
          obtain ⟨bk, hbk2⟩ : ∃ y, w4.heap.size = y := ⟨_, rfl⟩
          rw [hbk2] at hbk
          rw [hbk2]
          have k0 := hbk.cell (j := 0) rfl
          have k1 := hbk.cell (j := 1) rfl
          have k2 := hbk.cell (j := 2) rfl
          have k3 := hbk.cell (j := 3) rfl
          have lk := hbk.lt
          have hbx5 := HBX.out.upd (HU4.out.trans hu5) (by simp)
          rw [hbx] at hbx5
          have y0 := hbx5.cell (j := 0) rfl
          have y3 := hbx5.cell (j := 3) rfl
          have y4 := hbx5.cell (j := 4) rfl
          have y5 := hbx5.cell (j := 5) rfl
          have y6 := hbx5.cell (j := 6) rfl
          have ly := hbx5.lt
          have hkG : bk ∉ G := fun hc => by have := HM.out.lt bk hc; have := HUX1.out.size; have := HU4.out.size; omega
          have hxG : bx ∉ G := fun hc => by have := HM.out.lt bx hc; omega
          obtain ⟨r, hr⟩ : ∃ y, doM p.c m k = y := ⟨_, rfl⟩
          have hdc := HDO.out w5.drew mb m G k (HM.out.upd (hux5.drew)) HKOK.out (by have := HMN.out; have := HLEN.out; have := HN.out; omega)
          rw [hr] at hdc HST
          have HDC1 : Hid (Calls Tryz.prog 61 #[.pointer (some ⟨mb, 0, none⟩), .agg #[.int .i64 k.op, .int .i64 k.flow, .int .i64 k.a, .int .i64 k.b]] w5.drew (MTo W mb p.c r G w5.drew)) := hdc.1
          have HDC2 := Lib.hid hdc.2
          have HLT5 : Hid (Upd [] w w5) := HU.out.trans hux5
          have HP5 : Hid (Upd [] wp w5) := HUX.out.trans hux5
          clear hw5 hu5 hbk hbk2 hbx5 hux5 hbx hdc hr
          rcases Nat.eq_zero_or_pos i with rfl | hpos
          · have i0 : decide ((0 : Int) < ((0 : Nat) : Int)) = false := rfl
            have HBH : Hid (behind (lastS l 0) x.step = true) := behind_zero _ _
            obtain ⟨sm, hsm⟩ : ∃ y, rtSame r.1 x.r = y := ⟨_, rfl⟩
            have HSMM := Lib.hid hsm
            go_wp2_with fail
            refine wp_region_held_drew (S := fun w' => Upd G w5 w' ∧ ∀ (b o : Nat), b < w5.heap.size → b ∉ G → w'.cell? ⟨b, o, none⟩ = w5.cell? ⟨b, o, none⟩) (by kernel_rfl) (Held.init _ _) (fun hHeld => ?_)
            refine wpAnyH_take (i := 0) (v := ?_) rfl (by kernel_rfl) (by kernel_rfl) (by kernel_rfl) (fun _ _ _ h => h) (Or.inl ⟨by rfl, ?_⟩) (by assumption) ?_
            rotate_left
            · intro w hSw
              try dsimp only at hSw
              go_simp
              try with_reducible rfl
            try simp only [List.getElem_toArray, List.getElem_cons_zero, List.getElem_cons_succ, Act.put, List.setIfInBounds_toArray, List.set_cons_zero, List.set_cons_succ]
            refine wpAnyH_take (i := 1) (v := ?_) rfl (by kernel_rfl) (by kernel_rfl) (by kernel_rfl) (fun _ _ _ h => h) (Or.inl ⟨by rfl, ?_⟩) (by assumption) ?_
            rotate_left
            · intro w hSw
              try dsimp only at hSw
              go_simp
              try with_reducible rfl
            try simp only [List.getElem_toArray, List.getElem_cons_zero, List.getElem_cons_succ, Act.put, List.setIfInBounds_toArray, List.set_cons_zero, List.set_cons_succ]
            refine wpAnyH_take (i := 2) (v := ?_) rfl (by kernel_rfl) (by kernel_rfl) (by kernel_rfl) (fun _ _ _ h => h) (Or.inl ⟨by rfl, ?_⟩) (by assumption) ?_
            rotate_left
            · intro w hSw
              try dsimp only at hSw
              go_simp
              try with_reducible rfl
            try simp only [List.getElem_toArray, List.getElem_cons_zero, List.getElem_cons_succ, Act.put, List.setIfInBounds_toArray, List.set_cons_zero, List.set_cons_succ]
            refine wpAnyH_take (i := 3) (v := ?_) rfl (by kernel_rfl) (by kernel_rfl) (by kernel_rfl) (fun _ _ _ h => h) (Or.inl ⟨by rfl, ?_⟩) (by assumption) ?_
            rotate_left
            · intro w hSw
              try dsimp only at hSw
              go_simp
              try with_reducible rfl
            try simp only [List.getElem_toArray, List.getElem_cons_zero, List.getElem_cons_succ, Act.put, List.setIfInBounds_toArray, List.set_cons_zero, List.set_cons_succ]
            refine wpAnyH_take (i := 4) (v := ?_) rfl (by kernel_rfl) (by kernel_rfl) (by kernel_rfl) (fun _ _ _ h => h) (Or.inl ⟨by rfl, ?_⟩) (by assumption) ?_
            rotate_left
            · intro w hSw
              try dsimp only at hSw
              go_simp
              try with_reducible rfl
            try simp only [List.getElem_toArray, List.getElem_cons_zero, List.getElem_cons_succ, Act.put, List.setIfInBounds_toArray, List.set_cons_zero, List.set_cons_succ]
            refine wpAnyH_take (i := 5) (v := ?_) rfl (by kernel_rfl) (by kernel_rfl) (by kernel_rfl) (fun _ _ _ h => h) (Or.inl ⟨by rfl, ?_⟩) (by assumption) ?_
            rotate_left
            · intro w hSw
              try dsimp only at hSw
              go_simp
              try with_reducible rfl
            try simp only [List.getElem_toArray, List.getElem_cons_zero, List.getElem_cons_succ, Act.put, List.setIfInBounds_toArray, List.set_cons_zero, List.set_cons_succ]
            refine wpAnyH_take (i := 6) (v := undef) rfl (by kernel_rfl) (by kernel_rfl) (by kernel_rfl) (fun _ _ _ h => h) (Or.inr ⟨by rfl, rfl⟩) (by assumption) ?_
            try simp only [List.getElem_toArray, List.getElem_cons_zero, List.getElem_cons_succ, Act.put, List.setIfInBounds_toArray, List.set_cons_zero, List.set_cons_succ]
            refine wpAnyH_take (i := 7) (v := undef) rfl (by kernel_rfl) (by kernel_rfl) (by kernel_rfl) (fun _ _ _ h => h) (Or.inr ⟨by rfl, rfl⟩) (by assumption) ?_
            try simp only [List.getElem_toArray, List.getElem_cons_zero, List.getElem_cons_succ, Act.put, List.setIfInBounds_toArray, List.set_cons_zero, List.set_cons_succ]
            refine wpAnyH_take (i := 8) (v := undef) rfl (by kernel_rfl) (by kernel_rfl) (by kernel_rfl) (fun _ _ _ h => h) (Or.inr ⟨by rfl, rfl⟩) (by assumption) ?_
            try simp only [List.getElem_toArray, List.getElem_cons_zero, List.getElem_cons_succ, Act.put, List.setIfInBounds_toArray, List.set_cons_zero, List.set_cons_succ]
            refine wpAnyH_take (i := 9) (v := undef) rfl (by kernel_rfl) (by kernel_rfl) (by kernel_rfl) (fun _ _ _ h => h) (Or.inr ⟨by rfl, rfl⟩) (by assumption) ?_
            try simp only [List.getElem_toArray, List.getElem_cons_zero, List.getElem_cons_succ, Act.put, List.setIfInBounds_toArray, List.set_cons_zero, List.set_cons_succ]
            refine wpAnyH_take (i := 10) (v := undef) rfl (by kernel_rfl) (by kernel_rfl) (by kernel_rfl) (fun _ _ _ h => h) (Or.inr ⟨by rfl, rfl⟩) (by assumption) ?_
            try simp only [List.getElem_toArray, List.getElem_cons_zero, List.getElem_cons_succ, Act.put, List.setIfInBounds_toArray, List.set_cons_zero, List.set_cons_succ]
            refine wpAnyH_take (i := 11) (v := undef) rfl (by kernel_rfl) (by kernel_rfl) (by kernel_rfl) (fun _ _ _ h => h) (Or.inr ⟨by rfl, rfl⟩) (by assumption) ?_
            try simp only [List.getElem_toArray, List.getElem_cons_zero, List.getElem_cons_succ, Act.put, List.setIfInBounds_toArray, List.set_cons_zero, List.set_cons_succ]
            refine wpAnyH_take (i := 12) (v := undef) rfl (by kernel_rfl) (by kernel_rfl) (by kernel_rfl) (fun _ _ _ h => h) (Or.inr ⟨by rfl, rfl⟩) (by assumption) ?_
            try simp only [List.getElem_toArray, List.getElem_cons_zero, List.getElem_cons_succ, Act.put, List.setIfInBounds_toArray, List.set_cons_zero, List.set_cons_succ]
            refine wpAnyH_take (i := 13) (v := undef) rfl (by kernel_rfl) (by kernel_rfl) (by kernel_rfl) (fun _ _ _ h => h) (Or.inr ⟨by rfl, rfl⟩) (by assumption) ?_
            try simp only [List.getElem_toArray, List.getElem_cons_zero, List.getElem_cons_succ, Act.put, List.setIfInBounds_toArray, List.set_cons_zero, List.set_cons_succ]
            refine wpAnyH_take (i := 14) (v := undef) rfl (by kernel_rfl) (by kernel_rfl) (by kernel_rfl) (fun _ _ _ h => h) (Or.inr ⟨by rfl, rfl⟩) (by assumption) ?_
            try simp only [List.getElem_toArray, List.getElem_cons_zero, List.getElem_cons_succ, Act.put, List.setIfInBounds_toArray, List.set_cons_zero, List.set_cons_succ]
            refine wpAnyH_take (i := 15) (v := ?_) rfl (by kernel_rfl) (by kernel_rfl) (by kernel_rfl) (fun _ _ _ h => h) (Or.inl ⟨by rfl, ?_⟩) (by assumption) ?_
            rotate_left
            · intro w hSw
              try dsimp only at hSw
              go_simp
              try with_reducible rfl
            try simp only [List.getElem_toArray, List.getElem_cons_zero, List.getElem_cons_succ, Act.put, List.setIfInBounds_toArray, List.set_cons_zero, List.set_cons_succ]
            refine wpAnyH_take (i := 16) (v := ?_) rfl (by kernel_rfl) (by kernel_rfl) (by kernel_rfl) (fun _ _ _ h => h) (Or.inl ⟨by rfl, ?_⟩) (by assumption) ?_
            rotate_left
            · intro w hSw
              try dsimp only at hSw
              go_simp
              try with_reducible rfl
            try simp only [List.getElem_toArray, List.getElem_cons_zero, List.getElem_cons_succ, Act.put, List.setIfInBounds_toArray, List.set_cons_zero, List.set_cons_succ]
            refine wpAnyH_take (i := 17) (v := ?_) rfl (by kernel_rfl) (by kernel_rfl) (by kernel_rfl) (fun _ _ _ h => h) (Or.inl ⟨by rfl, ?_⟩) (by assumption) ?_
            rotate_left
            · intro w hSw
              try dsimp only at hSw
              go_simp
              try with_reducible rfl
            try simp only [List.getElem_toArray, List.getElem_cons_zero, List.getElem_cons_succ, Act.put, List.setIfInBounds_toArray, List.set_cons_zero, List.set_cons_succ]
            refine wpAnyH_take (i := 18) (v := ?_) rfl (by kernel_rfl) (by kernel_rfl) (by kernel_rfl) (fun _ _ _ h => h) (Or.inl ⟨by rfl, ?_⟩) (by assumption) ?_
            rotate_left
            · intro w hSw
              try dsimp only at hSw
              go_simp
              try with_reducible rfl
            try simp only [List.getElem_toArray, List.getElem_cons_zero, List.getElem_cons_succ, Act.put, List.setIfInBounds_toArray, List.set_cons_zero, List.set_cons_succ]
            refine wpAnyH_take (i := 19) (v := ?_) rfl (by kernel_rfl) (by kernel_rfl) (by kernel_rfl) (fun _ _ _ h => h) (Or.inl ⟨by rfl, ?_⟩) (by assumption) ?_
            rotate_left
            · intro w hSw
              try dsimp only at hSw
              go_simp
              try with_reducible rfl
            try simp only [List.getElem_toArray, List.getElem_cons_zero, List.getElem_cons_succ, Act.put, List.setIfInBounds_toArray, List.set_cons_zero, List.set_cons_succ]
            refine wpAnyH_take (i := 21) (v := ?_) rfl (by kernel_rfl) (by kernel_rfl) (by kernel_rfl) (fun _ _ _ h => h) (Or.inl ⟨by rfl, ?_⟩) (by assumption) ?_
            rotate_left
            · intro w hSw
              try dsimp only at hSw
              go_simp
              try with_reducible rfl
            try simp only [List.getElem_toArray, List.getElem_cons_zero, List.getElem_cons_succ, Act.put, List.setIfInBounds_toArray, List.set_cons_zero, List.set_cons_succ]
            refine wpAnyH_take (i := 22) (v := ?_) rfl (by kernel_rfl) (by kernel_rfl) (by kernel_rfl) (fun _ _ _ h => h) (Or.inl ⟨by rfl, ?_⟩) (by assumption) ?_
            rotate_left
            · intro w hSw
              try dsimp only at hSw
              go_simp
              try with_reducible rfl
            try simp only [List.getElem_toArray, List.getElem_cons_zero, List.getElem_cons_succ, Act.put, List.setIfInBounds_toArray, List.set_cons_zero, List.set_cons_succ]
            refine wpAnyH_ready (rs := [20]) (by kernel_rfl) (by simp) ?_
            refine AllReadyH.cons rfl (fun K hK => ?_) AllReadyH.nil
            go_simp
            go_at_call 61
            refine HDC1.out.mono ?_
            rintro e w6 hto
            obtain ⟨v, G', rfl, hm6, hf6, hr6⟩ := hto
            obtain ⟨ao6, cap6, rfl, hro6, hrn6⟩ := hr6
            have hB : Upd G w5.drew w6 := hf6.2
            have HU6 : Hid (Upd [] w w6) := HLT5.out.drew.then hf6.2 (fun _ _ h => h) (fun i hi hm => by have := HNG.out i hm; have := HUP.out.size; omega)
            have HU6P : Hid (Upd [] wp w6) := HP5.out.drew.then hf6.2 (fun _ _ h => h) (fun i hi hm => by have := HNG.out i hm; omega)
            have HM6 := Lib.hid hm6
            have HF6 := Lib.hid hf6
            have HSM : Hid (Calls Tryz.prog 60 #[.agg #[.int .i64 r.1.e, .slice ao6 r.1.L.length cap6, .int .i64 r.1.n, .int .u64 r.1.v], .agg #[.int .i64 x.r.e, .slice lo x.r.L.length lc, .int .i64 x.r.n, .int .u64 x.r.v]] w6 (RetUpd [] w6 (.bool (rtSame r.1 x.r)))) := wsame_any ⟨_, rfl, hro6.sl⟩ ⟨_, rfl, HPTW.out.upd HU6.out⟩
            rw [hsm] at HSM
            clear hm6 hf6 hro6 hrn6
            refine hK.out _ _ (Held.step hHeld hB) (fun hHeld2 => ?_)
            clear hK K hHeld
            try simp only [List.getElem_toArray, List.getElem_cons_zero, List.getElem_cons_succ, Act.put, List.setIfInBounds_toArray, List.set_cons_zero, List.set_cons_succ]
            refine wpAnyH_ready (rs := [23]) (by kernel_rfl) (by simp) ?_
            refine AllReadyH.cons rfl (fun K hK => ?_) AllReadyH.nil
            go_simp
            go_at_call 60
            refine HSM.out.mono ?_
            rintro e w7 ⟨rfl, hB0⟩
            have HB7 := Lib.hid hB0
            have hB7 := hB0.nil (S := G)
            clear hB0
            refine hK.out _ _ (Held.step hHeld2 hB7) (fun hHeld3 => ?_)
            clear hK K hHeld2
            try simp only [List.getElem_toArray, List.getElem_cons_zero, List.getElem_cons_succ, Act.put, List.setIfInBounds_toArray, List.set_cons_zero, List.set_cons_succ]
            refine wpAnyH_take (i := 24) (v := ?_) rfl (by kernel_rfl) (by kernel_rfl) (by kernel_rfl) (fun _ _ _ h => h) (Or.inl ⟨by rfl, ?_⟩) (by assumption) ?_
            rotate_left
            · intro w hSw
              try dsimp only at hSw
              go_simp
              try with_reducible rfl
            try simp only [List.getElem_toArray, List.getElem_cons_zero, List.getElem_cons_succ, Act.put, List.setIfInBounds_toArray, List.set_cons_zero, List.set_cons_succ]
            refine wpAnyH_take (i := 25) (v := ?_) rfl (by kernel_rfl) (by kernel_rfl) (by kernel_rfl) (fun _ _ _ h => h) (Or.inl ⟨by rfl, ?_⟩) (by assumption) ?_
            rotate_left
            · intro w hSw
              try dsimp only at hSw
              go_simp
              try with_reducible rfl
            try simp only [List.getElem_toArray, List.getElem_cons_zero, List.getElem_cons_succ, Act.put, List.setIfInBounds_toArray, List.set_cons_zero, List.set_cons_succ]
            refine wpAnyH_done (by kernel_rfl) ?_ _
            cases sm with
            | false =>
              have HNONE : Hid (playsM p l = none) := HST.out.2.1 HSMM.out
              go_wp2_with fail
              refine bodyPost_ret (v := .tuple #[.pointer none, .bool false]) (by simp [results, Tryz.results27, go_sem]) rfl ?_
              exact .inr ⟨HNONE.out, rfl, HU6.out.trans HB7.out⟩
            | true =>
              have HSOME : Hid (playsM p l = runM p (l.drop (0 + 1)) (lastS l (0 + 1)) r.2) := HST.out.2.2 HBH.out HSMM.out
              go_wp2_with fail
              exact ⟨⟨0 + 1, r.2, G', by congr 1, by have := HN.out; omega, HSOME.out, HM6.out.upd HB7.out, fun y hy => by rcases HF6.out.1 y hy with h | h; (exact HNG.out y h); (have := HP5.out.size; simp at h; omega), HU6P.out.trans HB7.out, by have := HDC2.out; have := HMN.out; omega⟩, by first | (simp [intOf]; done) | (simp [intOf]; omega)⟩
          · obtain ⟨j, rfl⟩ : ∃ j, i = j + 1 := ⟨i - 1, by omega⟩
            obtain ⟨y, hy⟩ : ∃ y, l[j]? = some y := ⟨_, List.getElem?_eq_getElem (by have := HN.out; omega)⟩
            have hbs := behind_succ hy x.step
            obtain ⟨-, _, _, e1, hat⟩ := pts_at (HL.out.upd HLT5.out)
            cases e1
            obtain ⟨_, _, e2, lg, -, v0, -, -, -, -, -, -⟩ := hat j y hy
            cases e2
            have i1 : decide ((0 : Int) < ((j + 1 : Nat) : Int)) = true := decide_eq_true (by omega)
            have i1' : decide ((0 : Int) < (j : Int) + 1) = true := decide_eq_true (by omega)
            have i3 : (j : Int) < (n : Int) := by omega
            have jn : j < n := by omega
            have w1 : wrap64 (j : Int) = (j : Int) := by unfold wrap64; have := HLEN.out; have := HN.out; omega
            have w2 : IntKind.i64.wrap (j : Int) = (j : Int) := by rw [IntKind.wrap_i64]; have := HLEN.out; have := HN.out; omega
            have w3 : wrap64 ((j : Int) + 1 - 1) = (j : Int) := by rw [Int.add_sub_cancel]; exact w1
            have w4 : IntKind.i64.wrap ((j : Int) + 1 - 1) = (j : Int) := by rw [Int.add_sub_cancel]; exact w2
            have hgG : gx ∉ G := fun hc => by have := HNG.out gx hc; have := HUP.out.size; have h0 := pts_at HL.out; obtain ⟨-, _, _, e3, hat3⟩ := h0; cases e3; obtain ⟨_, _, e4, lg4, -⟩ := hat3 j y hy; cases e4; omega
            clear hat hy
            by_cases hst : y.step < x.step
            · have i4 : decide (x.step ≤ y.step) = false := by simp; omega
              have HBH : Hid (behind (lastS l (j + 1)) x.step = true) := by unfold Hid; rw [hbs]; simp [hst]
              clear hbs hst
              obtain ⟨sm, hsm⟩ : ∃ y, rtSame r.1 x.r = y := ⟨_, rfl⟩
              have HSMM := Lib.hid hsm
              go_wp2_with fail
              refine wp_region_held_drew (S := fun w' => Upd G w5 w' ∧ ∀ (b o : Nat), b < w5.heap.size → b ∉ G → w'.cell? ⟨b, o, none⟩ = w5.cell? ⟨b, o, none⟩) (by kernel_rfl) (Held.init _ _) (fun hHeld => ?_)
              refine wpAnyH_take (i := 0) (v := ?_) rfl (by kernel_rfl) (by kernel_rfl) (by kernel_rfl) (fun _ _ _ h => h) (Or.inl ⟨by rfl, ?_⟩) (by assumption) ?_
              rotate_left
              · intro w hSw
                try dsimp only at hSw
                go_simp
                try with_reducible rfl
              try simp only [List.getElem_toArray, List.getElem_cons_zero, List.getElem_cons_succ, Act.put, List.setIfInBounds_toArray, List.set_cons_zero, List.set_cons_succ]
              refine wpAnyH_take (i := 1) (v := ?_) rfl (by kernel_rfl) (by kernel_rfl) (by kernel_rfl) (fun _ _ _ h => h) (Or.inl ⟨by rfl, ?_⟩) (by assumption) ?_
              rotate_left
              · intro w hSw
                try dsimp only at hSw
                go_simp
                try with_reducible rfl
              try simp only [List.getElem_toArray, List.getElem_cons_zero, List.getElem_cons_succ, Act.put, List.setIfInBounds_toArray, List.set_cons_zero, List.set_cons_succ]
              refine wpAnyH_take (i := 2) (v := ?_) rfl (by kernel_rfl) (by kernel_rfl) (by kernel_rfl) (fun _ _ _ h => h) (Or.inl ⟨by rfl, ?_⟩) (by assumption) ?_
              rotate_left
              · intro w hSw
                try dsimp only at hSw
                go_simp
                try with_reducible rfl
              try simp only [List.getElem_toArray, List.getElem_cons_zero, List.getElem_cons_succ, Act.put, List.setIfInBounds_toArray, List.set_cons_zero, List.set_cons_succ]
              refine wpAnyH_take (i := 3) (v := ?_) rfl (by kernel_rfl) (by kernel_rfl) (by kernel_rfl) (fun _ _ _ h => h) (Or.inl ⟨by rfl, ?_⟩) (by assumption) ?_
              rotate_left
              · intro w hSw
                try dsimp only at hSw
                go_simp
                try with_reducible rfl
              try simp only [List.getElem_toArray, List.getElem_cons_zero, List.getElem_cons_succ, Act.put, List.setIfInBounds_toArray, List.set_cons_zero, List.set_cons_succ]
              refine wpAnyH_take (i := 4) (v := ?_) rfl (by kernel_rfl) (by kernel_rfl) (by kernel_rfl) (fun _ _ _ h => h) (Or.inl ⟨by rfl, ?_⟩) (by assumption) ?_
              rotate_left
              · intro w hSw
                try dsimp only at hSw
                go_simp
                try with_reducible rfl
              try simp only [List.getElem_toArray, List.getElem_cons_zero, List.getElem_cons_succ, Act.put, List.setIfInBounds_toArray, List.set_cons_zero, List.set_cons_succ]
              refine wpAnyH_take (i := 5) (v := ?_) rfl (by kernel_rfl) (by kernel_rfl) (by kernel_rfl) (fun _ _ _ h => h) (Or.inl ⟨by rfl, ?_⟩) (by assumption) ?_
              rotate_left
              · intro w hSw
                try dsimp only at hSw
                go_simp
                try with_reducible rfl
              try simp only [List.getElem_toArray, List.getElem_cons_zero, List.getElem_cons_succ, Act.put, List.setIfInBounds_toArray, List.set_cons_zero, List.set_cons_succ]
              refine wpAnyH_take (i := 6) (v := ?_) rfl (by kernel_rfl) (by kernel_rfl) (by kernel_rfl) (fun _ _ _ h => h) (Or.inl ⟨by rfl, ?_⟩) (by assumption) ?_
              rotate_left
              · intro w hSw
                try dsimp only at hSw
                go_simp
                try with_reducible rfl
              try simp only [List.getElem_toArray, List.getElem_cons_zero, List.getElem_cons_succ, Act.put, List.setIfInBounds_toArray, List.set_cons_zero, List.set_cons_succ]
              refine wpAnyH_take (i := 7) (v := ?_) rfl (by kernel_rfl) (by kernel_rfl) (by kernel_rfl) (fun _ _ _ h => h) (Or.inl ⟨by rfl, ?_⟩) (by assumption) ?_
              rotate_left
              · intro w hSw
                try dsimp only at hSw
                go_simp
                try with_reducible rfl
              try simp only [List.getElem_toArray, List.getElem_cons_zero, List.getElem_cons_succ, Act.put, List.setIfInBounds_toArray, List.set_cons_zero, List.set_cons_succ]
              refine wpAnyH_take (i := 8) (v := ?_) rfl (by kernel_rfl) (by kernel_rfl) (by kernel_rfl) (fun _ _ _ h => h) (Or.inl ⟨by rfl, ?_⟩) (by assumption) ?_
              rotate_left
              · intro w hSw
                try dsimp only at hSw
                go_simp
                try with_reducible rfl
              try simp only [List.getElem_toArray, List.getElem_cons_zero, List.getElem_cons_succ, Act.put, List.setIfInBounds_toArray, List.set_cons_zero, List.set_cons_succ]
              refine wpAnyH_take (i := 9) (v := ?_) rfl (by kernel_rfl) (by kernel_rfl) (by kernel_rfl) (fun _ _ _ h => h) (Or.inl ⟨by rfl, ?_⟩) (by assumption) ?_
              rotate_left
              · intro w hSw
                try dsimp only at hSw
                go_simp
                try with_reducible rfl
              try simp only [List.getElem_toArray, List.getElem_cons_zero, List.getElem_cons_succ, Act.put, List.setIfInBounds_toArray, List.set_cons_zero, List.set_cons_succ]
              refine wpAnyH_take (i := 10) (v := ?_) rfl (by kernel_rfl) (by kernel_rfl) (by kernel_rfl) (fun _ _ _ h => h) (Or.inl ⟨by rfl, ?_⟩) (by assumption) ?_
              rotate_left
              · intro w hSw
                try dsimp only at hSw
                go_simp
                try with_reducible rfl
              try simp only [List.getElem_toArray, List.getElem_cons_zero, List.getElem_cons_succ, Act.put, List.setIfInBounds_toArray, List.set_cons_zero, List.set_cons_succ]
              refine wpAnyH_take (i := 11) (v := ?_) rfl (by kernel_rfl) (by kernel_rfl) (by kernel_rfl) (fun _ _ _ h => h) (Or.inl ⟨by rfl, ?_⟩) (by assumption) ?_
              rotate_left
              · intro w hSw
                try dsimp only at hSw
                go_simp
                try with_reducible rfl
              try simp only [List.getElem_toArray, List.getElem_cons_zero, List.getElem_cons_succ, Act.put, List.setIfInBounds_toArray, List.set_cons_zero, List.set_cons_succ]
              refine wpAnyH_take (i := 12) (v := ?_) rfl (by kernel_rfl) (by kernel_rfl) (by kernel_rfl) (fun _ _ _ h => h) (Or.inl ⟨by rfl, ?_⟩) (by assumption) ?_
              rotate_left
              · intro w hSw
                try dsimp only at hSw
                go_simp
                try with_reducible rfl
              try simp only [List.getElem_toArray, List.getElem_cons_zero, List.getElem_cons_succ, Act.put, List.setIfInBounds_toArray, List.set_cons_zero, List.set_cons_succ]
              refine wpAnyH_take (i := 13) (v := ?_) rfl (by kernel_rfl) (by kernel_rfl) (by kernel_rfl) (fun _ _ _ h => h) (Or.inl ⟨by rfl, ?_⟩) (by assumption) ?_
              rotate_left
              · intro w hSw
                try dsimp only at hSw
                go_simp
                try with_reducible rfl
              try simp only [List.getElem_toArray, List.getElem_cons_zero, List.getElem_cons_succ, Act.put, List.setIfInBounds_toArray, List.set_cons_zero, List.set_cons_succ]
              refine wpAnyH_take (i := 14) (v := ?_) rfl (by kernel_rfl) (by kernel_rfl) (by kernel_rfl) (fun _ _ _ h => h) (Or.inl ⟨by rfl, ?_⟩) (by assumption) ?_
              rotate_left
              · intro w hSw
                try dsimp only at hSw
                go_simp
                try with_reducible rfl
              try simp only [List.getElem_toArray, List.getElem_cons_zero, List.getElem_cons_succ, Act.put, List.setIfInBounds_toArray, List.set_cons_zero, List.set_cons_succ]
              refine wpAnyH_take (i := 15) (v := ?_) rfl (by kernel_rfl) (by kernel_rfl) (by kernel_rfl) (fun _ _ _ h => h) (Or.inl ⟨by rfl, ?_⟩) (by assumption) ?_
              rotate_left
              · intro w hSw
                try dsimp only at hSw
                go_simp
                try with_reducible rfl
              try simp only [List.getElem_toArray, List.getElem_cons_zero, List.getElem_cons_succ, Act.put, List.setIfInBounds_toArray, List.set_cons_zero, List.set_cons_succ]
              refine wpAnyH_take (i := 16) (v := ?_) rfl (by kernel_rfl) (by kernel_rfl) (by kernel_rfl) (fun _ _ _ h => h) (Or.inl ⟨by rfl, ?_⟩) (by assumption) ?_
              rotate_left
              · intro w hSw
                try dsimp only at hSw
                go_simp
                try with_reducible rfl
              try simp only [List.getElem_toArray, List.getElem_cons_zero, List.getElem_cons_succ, Act.put, List.setIfInBounds_toArray, List.set_cons_zero, List.set_cons_succ]
              refine wpAnyH_take (i := 17) (v := ?_) rfl (by kernel_rfl) (by kernel_rfl) (by kernel_rfl) (fun _ _ _ h => h) (Or.inl ⟨by rfl, ?_⟩) (by assumption) ?_
              rotate_left
              · intro w hSw
                try dsimp only at hSw
                go_simp
                try with_reducible rfl
              try simp only [List.getElem_toArray, List.getElem_cons_zero, List.getElem_cons_succ, Act.put, List.setIfInBounds_toArray, List.set_cons_zero, List.set_cons_succ]
              refine wpAnyH_take (i := 18) (v := ?_) rfl (by kernel_rfl) (by kernel_rfl) (by kernel_rfl) (fun _ _ _ h => h) (Or.inl ⟨by rfl, ?_⟩) (by assumption) ?_
              rotate_left
              · intro w hSw
                try dsimp only at hSw
                go_simp
                try with_reducible rfl
              try simp only [List.getElem_toArray, List.getElem_cons_zero, List.getElem_cons_succ, Act.put, List.setIfInBounds_toArray, List.set_cons_zero, List.set_cons_succ]
              refine wpAnyH_take (i := 19) (v := ?_) rfl (by kernel_rfl) (by kernel_rfl) (by kernel_rfl) (fun _ _ _ h => h) (Or.inl ⟨by rfl, ?_⟩) (by assumption) ?_
              rotate_left
              · intro w hSw
                try dsimp only at hSw
                go_simp
                try with_reducible rfl
              try simp only [List.getElem_toArray, List.getElem_cons_zero, List.getElem_cons_succ, Act.put, List.setIfInBounds_toArray, List.set_cons_zero, List.set_cons_succ]
              refine wpAnyH_take (i := 21) (v := ?_) rfl (by kernel_rfl) (by kernel_rfl) (by kernel_rfl) (fun _ _ _ h => h) (Or.inl ⟨by rfl, ?_⟩) (by assumption) ?_
              rotate_left
              · intro w hSw
                try dsimp only at hSw
                go_simp
                try with_reducible rfl
              try simp only [List.getElem_toArray, List.getElem_cons_zero, List.getElem_cons_succ, Act.put, List.setIfInBounds_toArray, List.set_cons_zero, List.set_cons_succ]
              refine wpAnyH_take (i := 22) (v := ?_) rfl (by kernel_rfl) (by kernel_rfl) (by kernel_rfl) (fun _ _ _ h => h) (Or.inl ⟨by rfl, ?_⟩) (by assumption) ?_
              rotate_left
              · intro w hSw
                try dsimp only at hSw
                go_simp
                try with_reducible rfl
              try simp only [List.getElem_toArray, List.getElem_cons_zero, List.getElem_cons_succ, Act.put, List.setIfInBounds_toArray, List.set_cons_zero, List.set_cons_succ]
              refine wpAnyH_ready (rs := [20]) (by kernel_rfl) (by simp) ?_
              refine AllReadyH.cons rfl (fun K hK => ?_) AllReadyH.nil
              go_simp
              go_at_call 61
              refine HDC1.out.mono ?_
              rintro e w6 hto
              obtain ⟨v, G', rfl, hm6, hf6, hr6⟩ := hto
              obtain ⟨ao6, cap6, rfl, hro6, hrn6⟩ := hr6
              have hB : Upd G w5.drew w6 := hf6.2
              have HU6 : Hid (Upd [] w w6) := HLT5.out.drew.then hf6.2 (fun _ _ h => h) (fun i hi hm => by have := HNG.out i hm; have := HUP.out.size; omega)
              have HU6P : Hid (Upd [] wp w6) := HP5.out.drew.then hf6.2 (fun _ _ h => h) (fun i hi hm => by have := HNG.out i hm; omega)
              have HM6 := Lib.hid hm6
              have HF6 := Lib.hid hf6
              have HSM : Hid (Calls Tryz.prog 60 #[.agg #[.int .i64 r.1.e, .slice ao6 r.1.L.length cap6, .int .i64 r.1.n, .int .u64 r.1.v], .agg #[.int .i64 x.r.e, .slice lo x.r.L.length lc, .int .i64 x.r.n, .int .u64 x.r.v]] w6 (RetUpd [] w6 (.bool (rtSame r.1 x.r)))) := wsame_any ⟨_, rfl, hro6.sl⟩ ⟨_, rfl, HPTW.out.upd HU6.out⟩
              rw [hsm] at HSM
              clear hm6 hf6 hro6 hrn6
              refine hK.out _ _ (Held.step hHeld hB) (fun hHeld2 => ?_)
              clear hK K hHeld
              try simp only [List.getElem_toArray, List.getElem_cons_zero, List.getElem_cons_succ, Act.put, List.setIfInBounds_toArray, List.set_cons_zero, List.set_cons_succ]
              refine wpAnyH_ready (rs := [23]) (by kernel_rfl) (by simp) ?_
              refine AllReadyH.cons rfl (fun K hK => ?_) AllReadyH.nil
              go_simp
              go_at_call 60
              refine HSM.out.mono ?_
              rintro e w7 ⟨rfl, hB0⟩
              have HB7 := Lib.hid hB0
              have hB7 := hB0.nil (S := G)
              clear hB0
              refine hK.out _ _ (Held.step hHeld2 hB7) (fun hHeld3 => ?_)
              clear hK K hHeld2
              try simp only [List.getElem_toArray, List.getElem_cons_zero, List.getElem_cons_succ, Act.put, List.setIfInBounds_toArray, List.set_cons_zero, List.set_cons_succ]
              refine wpAnyH_take (i := 24) (v := ?_) rfl (by kernel_rfl) (by kernel_rfl) (by kernel_rfl) (fun _ _ _ h => h) (Or.inl ⟨by rfl, ?_⟩) (by assumption) ?_
              rotate_left
              · intro w hSw
                try dsimp only at hSw
                go_simp
                try with_reducible rfl
              try simp only [List.getElem_toArray, List.getElem_cons_zero, List.getElem_cons_succ, Act.put, List.setIfInBounds_toArray, List.set_cons_zero, List.set_cons_succ]
              refine wpAnyH_take (i := 25) (v := ?_) rfl (by kernel_rfl) (by kernel_rfl) (by kernel_rfl) (fun _ _ _ h => h) (Or.inl ⟨by rfl, ?_⟩) (by assumption) ?_
              rotate_left
              · intro w hSw
                try dsimp only at hSw
                go_simp
                try with_reducible rfl
              try simp only [List.getElem_toArray, List.getElem_cons_zero, List.getElem_cons_succ, Act.put, List.setIfInBounds_toArray, List.set_cons_zero, List.set_cons_succ]
              refine wpAnyH_done (by kernel_rfl) ?_ _
              cases sm with
              | false =>
                have HNONE : Hid (playsM p l = none) := HST.out.2.1 HSMM.out
                go_wp2_with fail
                refine bodyPost_ret (v := .tuple #[.pointer none, .bool false]) (by simp [results, Tryz.results27, go_sem]) rfl ?_
                exact .inr ⟨HNONE.out, rfl, HU6.out.trans HB7.out⟩
              | true =>
                have HSOME : Hid (playsM p l = runM p (l.drop ((j + 1) + 1)) (lastS l ((j + 1) + 1)) r.2) := HST.out.2.2 HBH.out HSMM.out
                go_wp2_with fail
                exact ⟨⟨(j + 1) + 1, r.2, G', by congr 1, by have := HN.out; omega, HSOME.out, HM6.out.upd HB7.out, fun y hy => by rcases HF6.out.1 y hy with h | h; (exact HNG.out y h); (have := HP5.out.size; simp at h; omega), HU6P.out.trans HB7.out, by have := HDC2.out; have := HMN.out; omega⟩, by first | (simp [intOf]; done) | (simp [intOf]; omega)⟩
            · have i4 : decide (x.step ≤ y.step) = true := by simp; omega
              have HNONE : Hid (playsM p l = none) := HST.out.1 (by rw [hbs]; simp [hst])
              clear hbs hst
              go_wp2_with fail
              go_quiet (fail)
              go_wp2_with fail
              refine bodyPost_ret (v := .tuple #[.pointer none, .bool false]) (by simp [results, Tryz.results27, go_sem]) rfl ?_
              exact .inr ⟨HNONE.out, rfl, HLT5.out.trans ((Upd.refl [] _).drewN _)⟩
      · have t1 : decide (i < n) = false := by simp; omega
        go_wp2_with fail
        refine bodyPost_ret (v := .tuple #[.pointer (some ⟨mb, 0, none⟩), .bool true]) (by simp [results, Tryz.results27, go_sem]) rfl ?_
        refine .inl ⟨m, mb, G, ?_, rfl, HM.out, fun y hy => Nat.le_trans HUP.out.size (HNG.out y hy), HU.out, by have := HMN.out; have := HN.out; omega⟩
        rw [HPR.out, List.drop_eq_nil_of_le (by have := HN.out; omega)]; rfl
  · clear z0 z1 z2 z3 z4 lz
    go_wp2_with fail
    refine bodyPost_ret (v := .tuple #[.pointer none, .bool false]) (by simp [results, Tryz.results27, go_sem]) rfl ?_
    exact .inr ⟨by rw [HPL.out, hr]; rfl, rfl, HUP.out.trans hu2⟩
end Go.Proofs.YtfeobcmcellcpaaGreat
