/-
  The walk of the law WitnessNear. No condition.
-/
import Derived.Test.YtmfndemnogpmcaaNd
import Derived.Test.YtmfndemnogpmcaaMv
set_option linter.unusedVariables false
set_option linter.unusedSimpArgs false
namespace Go.Proofs.Ytmfndemnogpmcaa
open Go.RowKit

def bigR : Nat := 1048576
structure NearX (w wr : World) (ao : Option Addr) (i cap : Nat) (X : List Pt) : Prop where
  row : RowO wr 33 7 ao i cap (X.flatMap ptVs)
  len : X.length = i
  new : ∀ c ∈ blkO ao, w.heap.size ≤ c
  pts : ∀ x ∈ X, PtAt w x ∧ x.r.L.length ≤ bigR
  upd : Upd [] w wr
theorem NearX.push {w wr v3 w' : World} {ao ao' : Option Addr} {i cap cap' : Nat} {X : List Pt} {y : Pt} (h : NearX w wr ao i cap X) (hU : Upd [] wr v3) (hA : Apped v3 33 7 ao (i + 1) (X.flatMap ptVs ++ ptVs y) ao' cap' w') (hy : PtAt w y) (hb : y.r.L.length ≤ bigR) : NearX w w' ao' (i + 1) cap' (X ++ [y]) := by
  have hs := h.upd.size
  have hs2 := hU.size
  refine ⟨by rw [List.flatMap_append]; simpa using hA.row, by rw [List.length_append, h.len]; rfl, fun c hc => ?_, fun x hx => ?_, (h.upd.trans hU).then hA.upd (fun _ _ h => h) (fun a ha hm => by have := h.new a hm; omega)⟩
  · rcases hA.at_ c hc with h3 | h3
    · exact h.new c h3
    · omega
  · rcases List.mem_append.1 hx with hx | hx
    · exact h.pts x hx
    · simp only [List.mem_cons, List.not_mem_nil, or_false] at hx
      subst hx
      exact ⟨hy, hb⟩
theorem underlyingDns_ : Try.prog.underlying 57 = some (.slice 60) := by kernel_rfl
theorem infoDn_ : (Try.prog.info? 60).map (fun i => (i.zero, i.size, i.bytes)) = some (some (.agg #[.int .i64 0, .int .i64 0, .int .i64 0, .int .i64 0, .int .i64 0, .int .i64 0, .int .i64 0, .slice none 0 0, .int .i64 0, .int .u64 0, .int .i64 0, .int .i64 0]), 12, 112) := by kernel_rfl
theorem SlAt.src {w : World} {size n : Nat} {lo : Option Addr} {c : Nat} {xs : List Value} (h : SlAt w size (.slice lo n c) n xs) (h1 : ∀ u ∈ xs, u.oneCell' = true) : Src w size lo n xs := by
  obtain ⟨ao, cap, e, h2, h3, h4⟩ := h
  cases e
  refine ⟨h3, h1, ?_⟩
  rcases h4 with rfl | ⟨b, off, rfl, hb, hc⟩
  · cases lo with
    | none => exact .inl ⟨rfl, rfl⟩
    | some ad => exact .inr ⟨ad, rfl, fun j u hj => by have e : xs = [] := List.eq_nil_of_length_eq_zero (by simpa using h3); rw [e] at hj; cases hj⟩
  · exact .inr ⟨_, rfl, fun j u hj => by rw [add_none]; exact hc j u hj⟩

/-- The calls that have been made, in memory. -/
structure NearY (w wr : World) (ao : Option Addr) (j cap : Nat) (Y : List Dn) : Prop where
  row : RowO wr 60 12 ao j cap (Y.flatMap dnVs)
  len : Y.length = j
  new : ∀ c ∈ blkO ao, w.heap.size ≤ c
  sl : ∀ y ∈ Y, DneAt wr y ∧ (∀ c ∈ lvB y.lv, c ∉ blkO ao ∧ c < wr.heap.size) ∧ y.r.L.length ≤ 12 * bigR
  upd : Upd [] w wr
theorem NearY.at_ {w wr : World} {ao : Option Addr} {j cap : Nat} {Y : List Dn} (h : NearY w wr ao j cap Y) : DnsAt wr (.slice ao j cap) Y := ⟨by rw [h.len]; exact h.row.sl, fun y hy => (h.sl y hy).1⟩
theorem NearX.at_ {w wr : World} {ao : Option Addr} {j cap : Nat} {X : List Pt} (h : NearX w wr ao j cap X) : PtsAt' wr (.slice ao j cap) X := ⟨by rw [h.len]; exact h.row.sl, fun y hy => (h.pts y hy).1.upd h.upd⟩
def NearYAt (w : World) (h : List Dn) (yv jv : Value) (wr : World) : Prop := ∃ j ao cap Y, jv = .int .i64 (j : Nat) ∧ yv = .slice ao j cap ∧ j ≤ h.length ∧ j ≤ 4 ∧ NearY w wr ao j cap Y
theorem NearY.push {w wr v3 w' : World} {ao ao' : Option Addr} {j cap cap' : Nat} {Y : List Dn} {y : Dn} (h : NearY w wr ao j cap Y) (hU : Upd [] wr v3) (hA : Apped v3 60 12 ao (j + 1) (Y.flatMap dnVs ++ dnVs y) ao' cap' w') (hy : DneAt v3 y) (hb : ∀ c ∈ lvB y.lv, wr.heap.size ≤ c ∧ c < v3.heap.size) (hl : y.r.L.length ≤ 12 * bigR) : NearY w w' ao' (j + 1) cap' (Y ++ [y]) := by
  have hs := h.upd.size
  have hs2 := hU.size
  have hs3 := hA.upd.size
  have hkeep : ∀ v : Value, (∀ c ∈ lvB v, c ∉ blkO ao ∧ c < v3.heap.size) → ∀ c ∈ lvB v, c ∉ blkO ao' ∧ c < w'.heap.size := fun v hv c hc => by
    have := hv c hc
    refine ⟨fun h2 => ?_, by omega⟩
    rcases hA.at_ c h2 with h3 | h3
    · exact this.1 h3
    · omega
  have hb' : ∀ c ∈ lvB y.lv, c ∉ blkO ao ∧ c < v3.heap.size := fun c hc => ⟨fun h2 => by have := h.row.lt c h2; have := (hb c hc).1; omega, (hb c hc).2⟩
  refine ⟨by rw [List.flatMap_append]; simpa using hA.row, by rw [List.length_append, h.len]; rfl, fun c hc => ?_, fun x hx => ?_, (h.upd.trans hU).then hA.upd (fun _ _ h => h) (fun a ha hm => by have := h.new a hm; omega)⟩
  · rcases hA.at_ c hc with h3 | h3
    · exact h.new c h3
    · omega
  · rcases List.mem_append.1 hx with hx | hx
    · obtain ⟨k1, k2, k3⟩ := h.sl x hx
      have k2' : ∀ c ∈ lvB x.lv, c ∉ blkO ao ∧ c < v3.heap.size := fun c hc => ⟨(k2 c hc).1, Nat.lt_of_lt_of_le (k2 c hc).2 hs2⟩
      exact ⟨SlAt.updS (k1.upd hU) hA.upd (fun c hc => (k2' c hc).1), hkeep _ k2', k3⟩
    · simp only [List.mem_cons, List.not_mem_nil, or_false] at hx
      subst hx
      exact ⟨SlAt.updS hy hA.upd (fun c hc => (hb' c hc).1), hkeep _ hb', hl⟩

/-- The call that is being made: what its points tell, so far. -/
structure NearK (wr wq : World) (bd k : Nat) (pw pp op fl ca cb e mf tl : Int) (L : List Pk) (lo : Option Addr) (lc : Nat) : Prop where
  blk : Blk wq bd 60 [.int .i64 pw, .int .i64 pp, .int .i64 op, .int .i64 fl, .int .i64 ca, .int .i64 cb, .int .i64 e, .slice lo L.length lc, .int .i64 0, .int .u64 0, .int .i64 mf, .int .i64 tl]
  row : RowO wq 94 3 lo L.length lc (L.flatMap pkVs)
  len : L.length ≤ k * bigR
  new : ∀ c ∈ blkO lo, bd < c
  upd : Upd [] wr wq
theorem NearK.next {wr wq w' : World} {bd k : Nat} {pw pp op fl ca cb e mf tl : Int} {L : List Pk} {lo : Option Addr} {lc : Nat} (h : NearK wr wq bd k pw pp op fl ca cb e mf tl L lo lc) (hu : Upd [] wq w') : NearK wr w' bd (k + 1) pw pp op fl ca cb e mf tl L lo lc :=
  ⟨h.blk.upd hu (by simp), h.row.upd hu (by simp), Nat.le_trans h.len (Nat.mul_le_mul_right _ (Nat.le_succ k)), h.new, h.upd.trans hu⟩
theorem NearK.app {wo wb w7 : World} {bd k : Nat} {pw pp op fl ca cb e mf tl : Int} {L M : List Pk} {lk ao3 : Option Addr} {ck cap3 : Nat} (hb : Blk wb bd 60 [.int .i64 pw, .int .i64 pp, .int .i64 op, .int .i64 fl, .int .i64 ca, .int .i64 cb, .int .i64 e, .slice lk L.length ck, .int .i64 0, .int .u64 0, .int .i64 mf, .int .i64 tl]) (hU : Upd [] wo wb) (hbd : wo.heap.size = bd) (hnew : ∀ c ∈ blkO lk, bd < c) (hA : Apped wb.drew 94 3 lk (L.length + M.length) (L.flatMap pkVs ++ M.flatMap pkVs) ao3 cap3 w7) (hlen : L.length ≤ k * bigR) (hM : M.length ≤ bigR) :
    NearK wo (w7.setCell ⟨bd, 7, none⟩ (.slice ao3 (L.length + M.length) cap3)) bd (k + 1) pw pp op fl ca cb e mf tl (L ++ M) ao3 cap3 := by
  have hbx : bd ∉ blkO lk := fun hm => by have := hnew bd hm; omega
  have hb7 : Blk w7 bd 60 [.int .i64 pw, .int .i64 pp, .int .i64 op, .int .i64 fl, .int .i64 ca, .int .i64 cb, .int .i64 e, .slice lk L.length ck, .int .i64 0, .int .u64 0, .int .i64 mf, .int .i64 tl] := Blk.upd (w := wb.drew) hb hA.upd hbx
  have hlt : bd < wb.heap.size := hb.lt
  have hn3 : ∀ c ∈ blkO ao3, bd < c := fun c hc => by
    rcases hA.at_ c hc with h | h
    · exact hnew c h
    · rw [h]; exact hlt
  have hu7 : Upd [bd] w7 (w7.setCell ⟨bd, 7, none⟩ (.slice ao3 (L.length + M.length) cap3)) := (Upd.refl [bd] w7).setCell (.inl (by simp)) _
  refine ⟨?_, ?_, ?_, hn3, ?_⟩
  · have := hb7.set 7 (.slice ao3 (L.length + M.length) cap3)
    rw [List.length_append]; exact this
  · rw [List.length_append, List.flatMap_append]
    exact hA.row.upd hu7 (fun c hc e => by simp only [List.mem_cons, List.not_mem_nil, or_false] at e; have := hn3 c hc; omega)
  · rw [List.length_append, Nat.succ_mul]; omega
  · have h1 : Upd [] wo w7 := hU.drew.then hA.upd (fun _ _ h => h) (fun a ha hm => by have := hnew a hm; omega)
    exact h1.setCell (.inr (Nat.le_of_eq hbd)) _
def NearKAt (wr : World) (bd nx : Nat) (pw pp op fl ca cb mf tl : Int) (kv : Value) (wq : World) : Prop := ∃ (k : Nat) (e : Int) (L : List Pk) (lo : Option Addr) (lc : Nat), kv = .int .i64 k ∧ k ≤ nx ∧ NearK wr wq bd k pw pp op fl ca cb e mf tl L lo lc
def NearXAt (w : World) (l : List Pt) (xv iv : Value) (wr : World) : Prop := ∃ i ao cap X, iv = .int .i64 (i : Nat) ∧ xv = .slice ao i cap ∧ i ≤ l.length ∧ i ≤ 12 ∧ NearX w wr ao i cap X

set_option maxRecDepth 100000 in
set_option maxHeartbeats 16000000 in
theorem near_walk {w : World} {v hv : Value} {l : List Pt} {h : List Dn} (hl : PtsAt' w v l) (hh : DnsAt w hv h) (hls : ∀ x ∈ l, x.r.L.length ≤ bigR) (b : Bool) : Calls Try.prog 6 #[v, hv, .bool b] w (RetUpd [] w (.bool true)) := by
  have HL := Lib.hid hl
  have HH := Lib.hid hh
  obtain ⟨hlm, al, cl, rfl, -⟩ := pts_at hl
  obtain ⟨hhm, aoh, caph, rfl, -⟩ := dns_at hh
  obtain ⟨n, hn⟩ : ∃ n, l.length = n := ⟨_, rfl⟩
  obtain ⟨m, hm⟩ : ∃ m, h.length = m := ⟨_, rfl⟩
  have HN := Lib.hid hn
  have HM := Lib.hid hm
  have HLS := Lib.hid hls
  rw [hn] at hlm ⊢
  rw [hm] at hhm ⊢
  have bn : n ≤ 9223372036854775807 := hlm
  have bm : m ≤ 9223372036854775807 := hhm
  clear hl hh hn hm hlm hhm hls
  go_enter Try.func6, Try.ntmps6
  go_wp2_with fail
  go_loopw [7, 9] (fun xv iv wr => NearXAt w l xv iv wr) (fun _ iv _ => 12 - (intOf iv).toNat)
  case atStart => exact ⟨0, none, 0, [], rfl, rfl, Nat.zero_le _, by omega, RowO.nil _ _ _, rfl, fun c hc => (by cases hc), fun x hx => (by cases hx), Upd.refl _ _⟩
  case round =>
    obtain ⟨i, ao, cap, X, rfl, rfl, hi, hi12, hX⟩ := hrel
    rw [HN.out] at hi
    have HX := Lib.hid hX
    have HU := Lib.hid hX.upd
    clear hX
    by_cases hlt : i < n ∧ i < 12
    · have t1 : decide (i < n) = true := by simp [hlt.1]
      have t2 : decide (i < 12) = true := by simp [hlt.2]
      have t3 : decide ((i : Int) < 12) = true := by simp; omega
      have b1 : (i : Int) < (n : Int) := by omega
      have hin := hlt.1
      have hi12 := hlt.2
      obtain ⟨x, hx⟩ : ∃ x, l[i]? = some x := ⟨_, List.getElem?_eq_getElem (by rw [HN.out]; exact hin)⟩
      obtain ⟨-, _, _, e1, hat⟩ := pts_at (HL.out.upd HU.out)
      rw [HN.out] at e1
      cases e1
      obtain ⟨gx, ox, rfl, lx, hpt, x0, x1, x2, x3, x4, x5, x6⟩ := hat i x hx
      have hxl := HLS.out x (List.mem_of_getElem? hx)
      have hpw := HL.out.2 x (List.mem_of_getElem? hx)
      obtain ⟨lo, lc, hlv, -⟩ := hpt
      rw [hlv] at x4
      unfold PtAt at hpw
      rw [hlv] at hpw
      have HXL := Lib.hid hxl
      have HPW := Lib.hid hpw
      clear hxl hpw
      have fin : i + 1 ≤ 9223372036854775807 := by omega
      clear hat hlv hx hlt
      obtain ⟨mw, hmw⟩ : ∃ y, modI x.who 2 = y := ⟨_, rfl⟩
      obtain ⟨mp, hmp⟩ : ∃ y, modI x.place 2 = y := ⟨_, rfl⟩
      obtain ⟨ms, hms⟩ : ∃ y, modI x.step 9 = y := ⟨_, rfl⟩
      have HMW : Hid (∀ w, Calls Try.prog 7 #[.int .i64 x.who, .int .i64 2] w (fun e w' => e = .returned (.int .i64 mw) ∧ w = w')) := fun w => by rw [← hmw]; exact mod_any _ 2 (by omega) (by omega) w
      have HMP : Hid (∀ w, Calls Try.prog 7 #[.int .i64 x.place, .int .i64 2] w (fun e w' => e = .returned (.int .i64 mp) ∧ w = w')) := fun w => by rw [← hmp]; exact mod_any _ 2 (by omega) (by omega) w
      have HMS : Hid (∀ w, Calls Try.prog 7 #[.int .i64 x.step, .int .i64 9] w (fun e w' => e = .returned (.int .i64 ms) ∧ w = w')) := fun w => by rw [← hms]; exact mod_any _ 9 (by omega) (by omega) w
      clear hmw hmp hms
      go_wp2_with fail
      obtain ⟨wa, hwa⟩ : ∃ y, wr.alloc (.cells #[.int .i64 x.step, .int .i64 x.who, .int .i64 x.place, .int .i64 x.r.e, .slice lo x.r.L.length lc, .int .i64 x.r.n, .int .u64 x.r.v] 33) = y := ⟨_, rfl⟩
      obtain ⟨bx, hbx⟩ : ∃ y, wr.heap.size = y := ⟨_, rfl⟩
      have hba : Blk wa bx 33 [.int .i64 x.step, .int .i64 x.who, .int .i64 x.place, .int .i64 x.r.e, .slice lo x.r.L.length lc, .int .i64 x.r.n, .int .u64 x.r.v] := by rw [← hwa, ← hbx]; exact Blk.new wr 33 [.int .i64 x.step, .int .i64 x.who, .int .i64 x.place, .int .i64 x.r.e, .slice lo x.r.L.length lc, .int .i64 x.r.n, .int .u64 x.r.v]
      have HB0 := Lib.hid hba
      have e0 := hba.free 0
      have e1 := hba.free 1
      have e2 := hba.free 2
      have hua : Upd [] wr wa := by rw [← hwa]; exact (Upd.refl [] wr).alloc _
      rw [hwa, hbx]
      have HUA := Lib.hid hua
      have HBA := Lib.hid (hba.upd ((Upd.refl [] wa).drew) (by simp))
      have y0 := hba.cell (j := 0) rfl
      have y1 := hba.cell (j := 1) rfl
      have y2 := hba.cell (j := 2) rfl
      have z0 := HBA.out.cell (j := 0) rfl
      have z1 := HBA.out.cell (j := 1) rfl
      have z2 := HBA.out.cell (j := 2) rfl
      have f0 := HBA.out.free 0
      have f1 := HBA.out.free 1
      have f2 := HBA.out.free 2
      have ly := hba.lt
      have lz := HBA.out.lt
      clear hba hua x0 x1 x2 x3 x4 x5 x6 lx
      refine wp_region_tail 10 (by kernel_rfl) (by kernel_rfl) ?_
      simp only [List.take_succ_cons, List.take_zero, List.drop_succ_cons, List.drop_zero]
      iterate 3 go_big_quiet_step (exact ((HMW.out _).mono (fun _ _ h => ⟨h.1, h.2.symm⟩)) _)
      iterate 3 go_big_quiet_step (exact ((HMP.out _).mono (fun _ _ h => ⟨h.1, h.2.symm⟩)) _)
      iterate 4 go_big_quiet_step (exact ((HMS.out _).mono (fun _ _ h => ⟨h.1, h.2.symm⟩)) _)
      refine wpQuiet_nil ?_
      go_upto_region 8 with (fail)
      obtain ⟨wz, hwz⟩ : ∃ y, (((wa.setCell ⟨bx, 1, none⟩ (.int .i64 mw)).setCell ⟨bx, 2, none⟩ (.int .i64 mp)).setCell ⟨bx, 0, none⟩ (.int .i64 ms)).drew = y := ⟨_, rfl⟩
      have hbz : Blk wz bx 33 [.int .i64 ms, .int .i64 mw, .int .i64 mp, .int .i64 x.r.e, .slice lo x.r.L.length lc, .int .i64 x.r.n, .int .u64 x.r.v] := by rw [← hwz]; exact ((HB0.out.set 1 _).set 2 _).set 0 _
      have huz : Upd [] wr wz := by rw [← hwz]; exact (((HUA.out.setCell (.inr (Nat.le_of_eq hbx)) _).setCell (.inr (Nat.le_of_eq hbx)) _).setCell (.inr (Nat.le_of_eq hbx)) _).drew
      rw [hwz]
      clear y0 y1 y2 z0 z1 z2 f0 f1 f2 e0 e1 e2 ly lz hwz
      have HBZ := Lib.hid hbz
      have HUZ := Lib.hid huz
      have y0 := hbz.cell (j := 0) rfl
      have y1 := hbz.cell (j := 1) rfl
      have y2 := hbz.cell (j := 2) rfl
      have y3 := hbz.cell (j := 3) rfl
      have y4 := hbz.cell (j := 4) rfl
      have y5 := hbz.cell (j := 5) rfl
      have y6 := hbz.cell (j := 6) rfl
      have e3 := hbz.free 3
      have e4 := hbz.free 4
      have e5 := hbz.free 5
      have e6 := hbz.free 6
      have ly := hbz.lt
      clear hbz huz
      obtain ⟨m3, hm3⟩ : ∃ y, modI x.r.e 3 = y := ⟨_, rfl⟩
      have HM3 : Hid (∀ w, Calls Try.prog 7 #[.int .i64 x.r.e, .int .i64 3] w (fun e w' => e = .returned (.int .i64 m3) ∧ w = w')) := fun w => by rw [← hm3]; exact mod_any _ 3 (by omega) (by omega) w
      clear hm3
      by_cases hp : 0 < m3
      · have t5 : decide (0 < m3) = true := by simp [hp]
        have hb2 := modI_bd x.r.e 2 (by omega) (by omega)
        obtain ⟨m2, hm2⟩ : ∃ y, modI x.r.e 2 = y := ⟨_, rfl⟩
        have HM2 : Hid (∀ w, Calls Try.prog 7 #[.int .i64 x.r.e, .int .i64 2] w (fun e w' => e = .returned (.int .i64 m2) ∧ w = w')) := fun w => by rw [← hm2]; exact mod_any _ 2 (by omega) (by omega) w
        rw [hm2] at hb2
        clear hm2
        have hc2 : m2 = 0 ∨ m2 = 1 := by omega
        clear hb2
        rcases hc2 with rfl | rfl
        ·
          go_upto_region 9 with ((refine (HM3.out _).mono ?_); (rintro e w' ⟨rfl, rfl⟩))
          go_upto_region 10 with ((refine (HM2.out _).mono ?_); (rintro e w' ⟨rfl, rfl⟩))
          obtain ⟨wy, hwy⟩ : ∃ y, (((((wz.setCell ⟨bx, 3, none⟩ (.int .i64 0)).setCell ⟨bx, 4, none⟩ (.slice none 0 0)).setCell ⟨bx, 5, none⟩ (.int .i64 0)).setCell ⟨bx, 6, none⟩ (.int .u64 0)).alloc (.cells #[.int .i64 0, .int .i64 10] 28)) = y := ⟨_, rfl⟩
          have hby : Blk wy bx 33 [.int .i64 ms, .int .i64 mw, .int .i64 mp, .int .i64 0, .slice none 0 0, .int .i64 0, .int .u64 0] := by rw [← hwy]; exact (((((HBZ.out.set 3 _).set 4 _).set 5 _).set 6 _)).alloc _
          have huy : Upd [] wr wy := by rw [← hwy]; exact ((((HUZ.out.setCell (.inr (Nat.le_of_eq hbx)) _).setCell (.inr (Nat.le_of_eq hbx)) _).setCell (.inr (Nat.le_of_eq hbx)) _).setCell (.inr (Nat.le_of_eq hbx)) _).alloc _
          rw [hwy]
          clear y0 y1 y2 y3 y4 y5 y6 e3 e4 e5 e6 ly hwy
          have HUY := Lib.hid huy
          have y0 := hby.cell (j := 0) rfl
          have y1 := hby.cell (j := 1) rfl
          have y2 := hby.cell (j := 2) rfl
          have y3 := hby.cell (j := 3) rfl
          have y4 := hby.cell (j := 4) rfl
          have y5 := hby.cell (j := 5) rfl
          have y6 := hby.cell (j := 6) rfl
          have ly := hby.lt
          clear hby huy
          have HPY : Hid (PtAt w ⟨ms, mw, mp, rtE 0, .slice none 0 0⟩ ∧ (rtE 0).L.length ≤ bigR) := ⟨SlAt.nil _ _, by simp [rtE]⟩
          obtain ⟨i0, hi0, hz0, hz1, hz2⟩ := info_parts infoPt_
          have hsrc : Src (wy.alloc (.cells #[.int .i64 ms, .int .i64 mw, .int .i64 mp, .int .i64 0, (.slice none 0 0), .int .i64 0, .int .u64 0] 33)) 7 (some ⟨wy.heap.size, 0, none⟩) 1 [.int .i64 ms, .int .i64 mw, .int .i64 mp, .int .i64 0, (.slice none 0 0), .int .i64 0, .int .u64 0] := one_src wy 33 [.int .i64 ms, .int .i64 mw, .int .i64 mp, .int .i64 0, (.slice none 0 0), .int .i64 0, .int .u64 0] (by intro u hu; simp only [List.mem_cons, List.not_mem_nil, or_false] at hu; rcases hu with rfl | rfl | rfl | rfl | rfl | rfl | rfl <;> rfl) 7 rfl
          have hq3 : Upd [] wr (wy.alloc (.cells #[.int .i64 ms, .int .i64 mw, .int .i64 mp, .int .i64 0, (.slice none 0 0), .int .i64 0, .int .u64 0] 33)) := HUY.out.alloc _
          obtain ⟨v3, hv3⟩ : ∃ y, wy.alloc (.cells #[.int .i64 ms, .int .i64 mw, .int .i64 mp, .int .i64 0, (.slice none 0 0), .int .i64 0, .int .u64 0] 33) = y := ⟨_, rfl⟩
          rw [hv3] at hsrc hq3
          have HSRC := Lib.hid hsrc
          have HQ := Lib.hid hq3
          have HRW := Lib.hid (HX.out.row.upd HQ.out (by simp))
          have HBD : Hid (i + 1 ≤ maxLen ∧ (i + 1) * 72 ≤ 140737488355328) := ⟨by unfold maxLen; omega, by omega⟩
          clear hsrc hq3
          go_wp2_with (at_builtin; (refine wpList_app2 _ (by rfl) _ _ _ (by rfl) 33 i0 _ 7 72 underlyingPts_ hi0 hz0 hz1 hz2 rfl (by omega) ao i cap (X.flatMap ptVs) (by rfl) HRW.out (some ⟨wy.heap.size, 0, none⟩) 1 1 [.int .i64 ms, .int .i64 mw, .int .i64 mp, .int .i64 0, (.slice none 0 0), .int .i64 0, .int .u64 0] (by rfl) HSRC.out HBD.out.1 HBD.out.2 ?_); (intro ao3 cap3 w7 hA3; have HA3 := Lib.hid hA3; clear hA3))
          exact ⟨⟨i + 1, ao3, cap3, _, by congr 1, rfl, by rw [HN.out]; omega, by omega, NearX.push (y := ⟨ms, mw, mp, (rtE 0), (.slice none 0 0)⟩) HX.out HQ.out HA3.out HPY.out.1 HPY.out.2⟩, by first | (simp [intOf]; done) | (simp [intOf]; omega)⟩
        ·
          go_upto_region 9 with ((refine (HM3.out _).mono ?_); (rintro e w' ⟨rfl, rfl⟩))
          go_upto_region 10 with ((refine (HM2.out _).mono ?_); (rintro e w' ⟨rfl, rfl⟩))
          obtain ⟨wy, hwy⟩ : ∃ y, (((((wz.setCell ⟨bx, 3, none⟩ (.int .i64 10)).setCell ⟨bx, 4, none⟩ (.slice none 0 0)).setCell ⟨bx, 5, none⟩ (.int .i64 0)).setCell ⟨bx, 6, none⟩ (.int .u64 0)).alloc (.cells #[.int .i64 0, .int .i64 10] 28)) = y := ⟨_, rfl⟩
          have hby : Blk wy bx 33 [.int .i64 ms, .int .i64 mw, .int .i64 mp, .int .i64 10, .slice none 0 0, .int .i64 0, .int .u64 0] := by rw [← hwy]; exact (((((HBZ.out.set 3 _).set 4 _).set 5 _).set 6 _)).alloc _
          have huy : Upd [] wr wy := by rw [← hwy]; exact ((((HUZ.out.setCell (.inr (Nat.le_of_eq hbx)) _).setCell (.inr (Nat.le_of_eq hbx)) _).setCell (.inr (Nat.le_of_eq hbx)) _).setCell (.inr (Nat.le_of_eq hbx)) _).alloc _
          rw [hwy]
          clear y0 y1 y2 y3 y4 y5 y6 e3 e4 e5 e6 ly hwy
          have HUY := Lib.hid huy
          have y0 := hby.cell (j := 0) rfl
          have y1 := hby.cell (j := 1) rfl
          have y2 := hby.cell (j := 2) rfl
          have y3 := hby.cell (j := 3) rfl
          have y4 := hby.cell (j := 4) rfl
          have y5 := hby.cell (j := 5) rfl
          have y6 := hby.cell (j := 6) rfl
          have ly := hby.lt
          clear hby huy
          have HPY : Hid (PtAt w ⟨ms, mw, mp, rtE 10, .slice none 0 0⟩ ∧ (rtE 10).L.length ≤ bigR) := ⟨SlAt.nil _ _, by simp [rtE]⟩
          obtain ⟨i0, hi0, hz0, hz1, hz2⟩ := info_parts infoPt_
          have hsrc : Src (wy.alloc (.cells #[.int .i64 ms, .int .i64 mw, .int .i64 mp, .int .i64 10, (.slice none 0 0), .int .i64 0, .int .u64 0] 33)) 7 (some ⟨wy.heap.size, 0, none⟩) 1 [.int .i64 ms, .int .i64 mw, .int .i64 mp, .int .i64 10, (.slice none 0 0), .int .i64 0, .int .u64 0] := one_src wy 33 [.int .i64 ms, .int .i64 mw, .int .i64 mp, .int .i64 10, (.slice none 0 0), .int .i64 0, .int .u64 0] (by intro u hu; simp only [List.mem_cons, List.not_mem_nil, or_false] at hu; rcases hu with rfl | rfl | rfl | rfl | rfl | rfl | rfl <;> rfl) 7 rfl
          have hq3 : Upd [] wr (wy.alloc (.cells #[.int .i64 ms, .int .i64 mw, .int .i64 mp, .int .i64 10, (.slice none 0 0), .int .i64 0, .int .u64 0] 33)) := HUY.out.alloc _
          obtain ⟨v3, hv3⟩ : ∃ y, wy.alloc (.cells #[.int .i64 ms, .int .i64 mw, .int .i64 mp, .int .i64 10, (.slice none 0 0), .int .i64 0, .int .u64 0] 33) = y := ⟨_, rfl⟩
          rw [hv3] at hsrc hq3
          have HSRC := Lib.hid hsrc
          have HQ := Lib.hid hq3
          have HRW := Lib.hid (HX.out.row.upd HQ.out (by simp))
          have HBD : Hid (i + 1 ≤ maxLen ∧ (i + 1) * 72 ≤ 140737488355328) := ⟨by unfold maxLen; omega, by omega⟩
          clear hsrc hq3
          go_wp2_with (at_builtin; (refine wpList_app2 _ (by rfl) _ _ _ (by rfl) 33 i0 _ 7 72 underlyingPts_ hi0 hz0 hz1 hz2 rfl (by omega) ao i cap (X.flatMap ptVs) (by rfl) HRW.out (some ⟨wy.heap.size, 0, none⟩) 1 1 [.int .i64 ms, .int .i64 mw, .int .i64 mp, .int .i64 10, (.slice none 0 0), .int .i64 0, .int .u64 0] (by rfl) HSRC.out HBD.out.1 HBD.out.2 ?_); (intro ao3 cap3 w7 hA3; have HA3 := Lib.hid hA3; clear hA3))
          exact ⟨⟨i + 1, ao3, cap3, _, by congr 1, rfl, by rw [HN.out]; omega, by omega, NearX.push (y := ⟨ms, mw, mp, (rtE 10), (.slice none 0 0)⟩) HX.out HQ.out HA3.out HPY.out.1 HPY.out.2⟩, by first | (simp [intOf]; done) | (simp [intOf]; omega)⟩
      · have t5 : decide (0 < m3) = false := by simp; omega
        have HPY : Hid (PtAt w ⟨ms, mw, mp, x.r, .slice lo x.r.L.length lc⟩ ∧ x.r.L.length ≤ bigR) := ⟨HPW.out, HXL.out⟩
        go_upto_region 8 with (fail)
        go_upto_region 10 with ((refine (HM3.out _).mono ?_); (rintro e w' ⟨rfl, rfl⟩))
        obtain ⟨i0, hi0, hz0, hz1, hz2⟩ := info_parts infoPt_
        have hsrc : Src (wz.alloc (.cells #[.int .i64 ms, .int .i64 mw, .int .i64 mp, .int .i64 x.r.e, (.slice lo x.r.L.length lc), .int .i64 x.r.n, .int .u64 x.r.v] 33)) 7 (some ⟨wz.heap.size, 0, none⟩) 1 [.int .i64 ms, .int .i64 mw, .int .i64 mp, .int .i64 x.r.e, (.slice lo x.r.L.length lc), .int .i64 x.r.n, .int .u64 x.r.v] := one_src wz 33 [.int .i64 ms, .int .i64 mw, .int .i64 mp, .int .i64 x.r.e, (.slice lo x.r.L.length lc), .int .i64 x.r.n, .int .u64 x.r.v] (by intro u hu; simp only [List.mem_cons, List.not_mem_nil, or_false] at hu; rcases hu with rfl | rfl | rfl | rfl | rfl | rfl | rfl <;> rfl) 7 rfl
        have hq3 : Upd [] wr (wz.alloc (.cells #[.int .i64 ms, .int .i64 mw, .int .i64 mp, .int .i64 x.r.e, (.slice lo x.r.L.length lc), .int .i64 x.r.n, .int .u64 x.r.v] 33)) := HUZ.out.alloc _
        obtain ⟨v3, hv3⟩ : ∃ y, wz.alloc (.cells #[.int .i64 ms, .int .i64 mw, .int .i64 mp, .int .i64 x.r.e, (.slice lo x.r.L.length lc), .int .i64 x.r.n, .int .u64 x.r.v] 33) = y := ⟨_, rfl⟩
        rw [hv3] at hsrc hq3
        have HSRC := Lib.hid hsrc
        have HQ := Lib.hid hq3
        have HRW := Lib.hid (HX.out.row.upd HQ.out (by simp))
        have HBD : Hid (i + 1 ≤ maxLen ∧ (i + 1) * 72 ≤ 140737488355328) := ⟨by unfold maxLen; omega, by omega⟩
        clear hsrc hq3
        go_wp2_with (at_builtin; (refine wpList_app2 _ (by rfl) _ _ _ (by rfl) 33 i0 _ 7 72 underlyingPts_ hi0 hz0 hz1 hz2 rfl (by omega) ao i cap (X.flatMap ptVs) (by rfl) HRW.out (some ⟨wz.heap.size, 0, none⟩) 1 1 [.int .i64 ms, .int .i64 mw, .int .i64 mp, .int .i64 x.r.e, (.slice lo x.r.L.length lc), .int .i64 x.r.n, .int .u64 x.r.v] (by rfl) HSRC.out HBD.out.1 HBD.out.2 ?_); (intro ao3 cap3 w7 hA3; have HA3 := Lib.hid hA3; clear hA3))
        exact ⟨⟨i + 1, ao3, cap3, _, by congr 1, rfl, by rw [HN.out]; omega, by omega, NearX.push (y := ⟨ms, mw, mp, x.r, (.slice lo x.r.L.length lc)⟩) HX.out HQ.out HA3.out HPY.out.1 HPY.out.2⟩, by first | (simp [intOf]; done) | (simp [intOf]; omega)⟩
    · have HEND : Hid (X.length ≤ 12) := by rw [Hid, HX.out.len]; exact hi12
      by_cases h1 : i < n
      · have t1 : decide (i < n) = true := by simp [h1]
        have t2 : decide (i < 12) = false := by simp; omega
        have t3 : decide ((i : Int) < 12) = false := by simp; omega
        clear hlt h1
        go_wp2_with fail
        obtain ⟨wx, hwx⟩ : ∃ y, wr = y := ⟨_, rfl⟩
        have hU1 := HX.out.upd
        have hpx := HX.out.at_
        rw [hwx] at hU1 hpx ⊢
        have HUX := Lib.hid hU1
        have HPX := Lib.hid hpx
        have HXL := Lib.hid (fun x hx => (HX.out.pts x hx).2)
        have HHX := Lib.hid (HH.out.upd hU1)
        have HXN := Lib.hid HX.out.len
        obtain ⟨nx, hnx⟩ : ∃ y, i = y := ⟨_, rfl⟩
        rw [hnx] at HPX HXN hi12 ⊢
        clear hU1 hpx HX HU hi HL HH hwx hnx
        go_loopw [8, 11] (fun yv jv wr => NearYAt wx h yv jv wr) (fun _ jv _ => 4 - (intOf jv).toNat)
        case atStart => exact ⟨0, none, 0, [], rfl, rfl, Nat.zero_le _, by omega, RowO.nil _ _ _, rfl, fun c hc => (by cases hc), fun x hx => (by cases hx), Upd.refl _ _⟩
        case round =>
          obtain ⟨j, aoy, capy, Y, rfl, rfl, hj, hj4, hY⟩ := hrel
          rw [HM.out] at hj
          have HY := Lib.hid hY
          have HUY := Lib.hid hY.upd
          clear hY
          by_cases hlt2 : j < m ∧ j < 4
          · have s1 : decide (j < m) = true := by simp [hlt2.1]
            have s2 : decide (j < 4) = true := by simp [hlt2.2]
            have s3 : decide ((j : Int) < 4) = true := by simp; omega
            have s4 : (j : Int) < (m : Int) := by omega
            have hjm := hlt2.1
            have hj4 := hlt2.2
            obtain ⟨d, hd⟩ : ∃ d, h[j]? = some d := ⟨_, List.getElem?_eq_getElem (by rw [HM.out]; exact hjm)⟩
            obtain ⟨-, _, _, e1, hat⟩ := dns_at (HHX.out.upd HUY.out)
            rw [HM.out] at e1
            cases e1
            obtain ⟨gd, od, rfl, lx, hdt, x0, x1, x2, x3, x4, x5, x6, x7, x8, x9, xa, xb⟩ := hat j d hd
            obtain ⟨lo, lc, hlv, -⟩ := hdt
            rw [hlv] at x7
            have fin : j + 1 ≤ 9223372036854775807 := by omega
            clear hat hlv hd hlt2
            go_upto_region 15 with (fail)
            obtain ⟨wa, hwa⟩ : ∃ y, wr.alloc (.cells #[.int .i64 d.who, .int .i64 d.place, .int .i64 d.c.op, .int .i64 d.c.flow, .int .i64 d.c.a, .int .i64 d.c.b, .int .i64 d.r.e, .slice lo d.r.L.length lc, .int .i64 d.r.n, .int .u64 d.r.v, .int .i64 d.frm, .int .i64 d.til] 60) = y := ⟨_, rfl⟩
            obtain ⟨bd, hbd⟩ : ∃ y, wr.heap.size = y := ⟨_, rfl⟩
            have hba : Blk wa bd 60 [.int .i64 d.who, .int .i64 d.place, .int .i64 d.c.op, .int .i64 d.c.flow, .int .i64 d.c.a, .int .i64 d.c.b, .int .i64 d.r.e, .slice lo d.r.L.length lc, .int .i64 d.r.n, .int .u64 d.r.v, .int .i64 d.frm, .int .i64 d.til] := by rw [← hwa, ← hbd]; exact Blk.new wr 60 [.int .i64 d.who, .int .i64 d.place, .int .i64 d.c.op, .int .i64 d.c.flow, .int .i64 d.c.a, .int .i64 d.c.b, .int .i64 d.r.e, .slice lo d.r.L.length lc, .int .i64 d.r.n, .int .u64 d.r.v, .int .i64 d.frm, .int .i64 d.til]
            have hua : Upd [] wr wa := by rw [← hwa]; exact (Upd.refl [] wr).alloc _
            rw [hwa, hbd]
            have HBA := Lib.hid hba
            have HUA := Lib.hid hua
            have HBD := Lib.hid hbd
            have y0 := hba.cell (j := 0) rfl
            have y1 := hba.cell (j := 1) rfl
            have ya := hba.cell (j := 10) rfl
            have e0 := hba.free 0
            have e1 := hba.free 1
            have ea := hba.free 10
            have ly := hba.lt
            have hf4 := modI_bd d.frm 4 (by omega) (by omega)
            obtain ⟨mf, hmf⟩ : ∃ y, modI d.frm 4 = y := ⟨_, rfl⟩
            have HMF : Hid (∀ w, Calls Try.prog 7 #[.int .i64 d.frm, .int .i64 4] w (fun e w' => e = .returned (.int .i64 mf) ∧ w = w')) := fun w => by rw [← hmf]; exact mod_any _ 4 (by omega) (by omega) w
            rw [hmf] at hf4
            have hf7 := modI_bd d.til 7 (by omega) (by omega)
            obtain ⟨mt, hmt⟩ : ∃ y, modI d.til 7 = y := ⟨_, rfl⟩
            have HMT : Hid (∀ w, Calls Try.prog 7 #[.int .i64 d.til, .int .i64 7] w (fun e w' => e = .returned (.int .i64 mt) ∧ w = w')) := fun w => by rw [← hmt]; exact mod_any _ 7 (by omega) (by omega) w
            rw [hmt] at hf7
            clear hba hua hbd hwa hmf hmt x0 x1 x2 x3 x4 x5 x6 x7 x8 x9 xa xb lx
            go_upto_region 16 with ((refine (HMF.out _).mono ?_); (rintro e w' ⟨rfl, rfl⟩))
            obtain ⟨pw, hpw⟩ : ∃ y, (j : Int) % 2 = y := ⟨_, rfl⟩
            obtain ⟨pp, hpp⟩ : ∃ y, (j : Int) / 2 = y := ⟨_, rfl⟩
            rw [hpw, hpp]
            clear hpw hpp
            obtain ⟨wz, hwz⟩ : ∃ y, ((wa.setCell ⟨bd, 0, none⟩ (.int .i64 pw)).setCell ⟨bd, 1, none⟩ (.int .i64 pp)).setCell ⟨bd, 10, none⟩ (.int .i64 mf) = y := ⟨_, rfl⟩
            have hbz : Blk wz bd 60 [.int .i64 pw, .int .i64 pp, .int .i64 d.c.op, .int .i64 d.c.flow, .int .i64 d.c.a, .int .i64 d.c.b, .int .i64 d.r.e, .slice lo d.r.L.length lc, .int .i64 d.r.n, .int .u64 d.r.v, .int .i64 mf, .int .i64 d.til] := by rw [← hwz]; exact (((HBA.out.set 0 _).set 1 _).set 10 _)
            have huz : Upd [] wr wz := by rw [← hwz]; exact (((HUA.out.setCell (.inr (Nat.le_of_eq HBD.out)) _).setCell (.inr (Nat.le_of_eq HBD.out)) _).setCell (.inr (Nat.le_of_eq HBD.out)) _)
            rw [hwz]
            clear y0 y1 ya e0 e1 ea ly hwz
            have HBZ := Lib.hid hbz
            have HUZ := Lib.hid huz
            have ya := hbz.cell (j := 10) rfl
            have yb := hbz.cell (j := 11) rfl
            have za : wz.drew.cell? ⟨bd, 10, none⟩ = some (.int .i64 mf) := ya
            have zb : wz.drew.cell? ⟨bd, 11, none⟩ = some (.int .i64 d.til) := yb
            have eb := hbz.free 11
            have ly := hbz.lt
            have lz : bd < wz.drew.heap.size := ly
            obtain ⟨hf1, hf2⟩ := hf4
            obtain ⟨hf3, hf5⟩ := hf7
            clear hbz huz
            refine wp_region_tail 8 (by kernel_rfl) (by kernel_rfl) ?_
            simp only [List.take_succ_cons, List.take_zero, List.drop_succ_cons, List.drop_zero]
            iterate 8 go_big_quiet_step (exact ((HMT.out _).mono (fun _ _ h => ⟨h.1, h.2.symm⟩)) _)
            refine wpQuiet_nil ?_
            go_upto_region 17 with (fail)
            obtain ⟨tl, htl⟩ : ∃ y, mf + mt - 1 = y := ⟨_, rfl⟩
            rw [htl]
            clear htl
            obtain ⟨we, hwe⟩ : ∃ y, (wz.setCell ⟨bd, 11, none⟩ (.int .i64 tl)).drew = y := ⟨_, rfl⟩
            have hbe : Blk we bd 60 [.int .i64 pw, .int .i64 pp, .int .i64 d.c.op, .int .i64 d.c.flow, .int .i64 d.c.a, .int .i64 d.c.b, .int .i64 d.r.e, .slice lo d.r.L.length lc, .int .i64 d.r.n, .int .u64 d.r.v, .int .i64 mf, .int .i64 tl] := by rw [← hwe]; exact HBZ.out.set 11 _
            have hue : Upd [] wr we := by rw [← hwe]; exact (HUZ.out.setCell (.inr (Nat.le_of_eq HBD.out)) _).drew
            rw [hwe]
            clear ya yb za zb eb ly lz hwe hf1 hf2 hf3 hf5
            have HBE := Lib.hid hbe
            have HUE := Lib.hid hue
            have y2 := hbe.cell (j := 2) rfl
            have y6 := hbe.cell (j := 6) rfl
            have y7 := hbe.cell (j := 7) rfl
            have y8 := hbe.cell (j := 8) rfl
            have y9 := hbe.cell (j := 9) rfl
            have e2 := hbe.free 2
            have e6 := hbe.free 6
            have e7 := hbe.free 7
            have e8 := hbe.free 8
            have e9 := hbe.free 9
            have ly := hbe.lt
            clear hbe hue
            cases b
            · go_upto_region 22 with (fail)
              obtain ⟨wk, hwk⟩ : ∃ y, (((((we.setCell ⟨bd, 2, none⟩ (.int .i64 6)).setCell ⟨bd, 6, none⟩ (.int .i64 0)).setCell ⟨bd, 7, none⟩ (.slice none 0 0)).setCell ⟨bd, 8, none⟩ (.int .i64 0)).setCell ⟨bd, 9, none⟩ (.int .u64 0)) = y := ⟨_, rfl⟩
              have hbk : Blk wk bd 60 [.int .i64 pw, .int .i64 pp, .int .i64 6, .int .i64 d.c.flow, .int .i64 d.c.a, .int .i64 d.c.b, .int .i64 0, .slice none 0 0, .int .i64 0, .int .u64 0, .int .i64 mf, .int .i64 tl] := by rw [← hwk]; exact (((((HBE.out.set 2 _).set 6 _).set 7 _).set 8 _).set 9 _)
              have huk : Upd [] wr wk := by rw [← hwk]; exact (((((HUE.out.setCell (.inr (Nat.le_of_eq HBD.out)) _).setCell (.inr (Nat.le_of_eq HBD.out)) _).setCell (.inr (Nat.le_of_eq HBD.out)) _).setCell (.inr (Nat.le_of_eq HBD.out)) _).setCell (.inr (Nat.le_of_eq HBD.out)) _)
              rw [hwk]
              clear y2 y6 y7 y8 y9 e2 e6 e7 e8 e9 ly hwk
              obtain ⟨wo, rfl⟩ : ∃ y : World, y = wr := ⟨_, rfl⟩
              have HKK : Hid (NearK wo wk bd 0 pw pp 6 d.c.flow d.c.a d.c.b 0 mf tl [] none 0) := ⟨hbk, RowO.nil _ _ _, by simp, (fun c hc => by cases hc), huk⟩
              clear hbk huk
              go_loopw [13] (fun kv wr => NearKAt wo bd nx pw pp 6 d.c.flow d.c.a d.c.b mf tl kv wr) (fun kv _ => nx - (intOf kv).toNat)
              case atStart => exact ⟨0, 0, [], none, 0, rfl, Nat.zero_le _, HKK.out⟩
              case round =>
                obtain ⟨k, ek, L, lk, ck, rfl, hk, hK⟩ := hrel
                have HK := Lib.hid hK
                have hbq := hK.blk
                have q0 := hbq.cell (j := 0) rfl
                have q1 := hbq.cell (j := 1) rfl
                have q2 := hbq.cell (j := 2) rfl
                have q3 := hbq.cell (j := 3) rfl
                have q4 := hbq.cell (j := 4) rfl
                have q5 := hbq.cell (j := 5) rfl
                have q6 := hbq.cell (j := 6) rfl
                have q7 := hbq.cell (j := 7) rfl
                have q8 := hbq.cell (j := 8) rfl
                have q9 := hbq.cell (j := 9) rfl
                have qa := hbq.cell (j := 10) rfl
                have qb := hbq.cell (j := 11) rfl
                have lq := hbq.lt
                have e6 := hbq.free 6
                clear hK hbq
                by_cases hkx : k < nx
                · have r1 : decide (k < nx) = true := by simp [hkx]
                  have r2 : (k : Int) < (nx : Int) := by omega
                  have r3 : k + 1 ≤ 9223372036854775807 := by omega
                  obtain ⟨x, hx⟩ : ∃ x, X[k]? = some x := ⟨_, List.getElem?_eq_getElem (by rw [HXN.out]; exact hkx)⟩
                  have hxl := HXL.out x (List.mem_of_getElem? hx)
                  obtain ⟨-, _, _, e1, hat⟩ := pts_at (HPX.out.upd HUY.out)
                  rw [HXN.out] at e1
                  cases e1
                  obtain ⟨gx, ox, rfl, lo1, hpt, x0, x1, x2, x3, x4, x5, x6⟩ := hat k x hx
                  have nbd : gx ≠ bd := by have := HBD.out; omega
                  have huk := HK.out.upd
                  replace x1 := (huk.cell lo1 (by simp) _).trans x1
                  replace x2 := (huk.cell lo1 (by simp) _).trans x2
                  replace x3 := (huk.cell lo1 (by simp) _).trans x3
                  replace x4 := (huk.cell lo1 (by simp) _).trans x4
                  have lx := Nat.lt_of_lt_of_le lo1 huk.size
                  have HPT := Lib.hid hpt
                  obtain ⟨lo, lc, hlv, -⟩ := hpt
                  have hps := HPT.out
                  unfold PtAt at hps
                  rw [hlv] at x4 hps
                  have HPS := Lib.hid hps
                  have HXK := Lib.hid hxl
                  clear hat hlv hx hps hxl HPT huk lo1 q2 q3 q4 q5 q8 q9 qa qb x0 x5 x6
                  by_cases c1 : x.who = pw
                  · have t4 : (x.who == pw) = true := by simp [c1]
                    by_cases c2 : x.place = pp
                    · have t5 : (x.place == pp) = true := by simp [c2]
                      clear c1 c2
                      go_wp2_with fail
                      go_quiet (fail)
                      obtain ⟨wv, hwv⟩ : ∃ y, wr.drewN nq = y := ⟨_, rfl⟩
                      have uv : Upd [] wr wv := by rw [← hwv]; exact (Upd.refl [] wr).drewN _
                      have HKV := Lib.hid (HK.out.next uv)
                      have HUV := Lib.hid uv
                      rw [hwv]
                      have g3 := (uv.cell lx (by simp) (ox + k * 7 + 3)).trans x3
                      have g4 := (uv.cell lx (by simp) (ox + k * 7 + 4)).trans x4
                      have lg := Nat.lt_of_lt_of_le lx uv.size
                      have p6 := (uv.cell lq (by simp) 6).trans q6
                      have p7 := (uv.cell lq (by simp) 7).trans q7
                      have lp := Nat.lt_of_lt_of_le lq uv.size
                      have f6 := (uv.frozen lq (by simp) 6).trans e6
                      clear uv hwv x1 x2 x3 x4 lx q0 q1 q6 q7 lq e6
                      go_upto_region 26 with (fail)
                      obtain ⟨wb, hwb⟩ : ∃ y, wv.setCell ⟨bd, 6, none⟩ (.int .i64 x.r.e) = y := ⟨_, rfl⟩
                      have hbb : Blk wb bd 60 [.int .i64 pw, .int .i64 pp, .int .i64 6, .int .i64 d.c.flow, .int .i64 d.c.a, .int .i64 d.c.b, .int .i64 x.r.e, .slice lk L.length ck, .int .i64 0, .int .u64 0, .int .i64 mf, .int .i64 tl] := by rw [← hwb]; exact HKV.out.blk.set 6 _
                      have hub : Upd [bd] wv wb := by rw [← hwb]; exact (Upd.refl [bd] wv).setCell (.inl (by simp)) _
                      have hbx : bd ∉ blkO lk := fun hm => by have := HKV.out.new bd hm; omega
                      have HRB : Hid (RowO wb 94 3 lk L.length ck (L.flatMap pkVs)) := HKV.out.row.upd hub (fun c hc e => by simp only [List.mem_cons, List.not_mem_nil, or_false] at e; exact hbx (e ▸ hc))
                      rw [hwb]
                      have HBB := Lib.hid hbb
                      have HUB := Lib.hid hub
                      have HSB : Hid (SlAt wb 3 (.slice lo x.r.L.length lc) x.r.L.length (x.r.L.flatMap pkVs)) := ((HPS.out.upd (HK.out.upd.trans HUV.out)).updS hub (fun c hc e => by simp only [List.mem_cons, List.not_mem_nil, or_false] at e; have := HPS.out.lvB_lt c hc; have := HBD.out; omega))
                      have HSR : Hid (Src wb 3 lo x.r.L.length (x.r.L.flatMap pkVs)) := HSB.out.src (fun u hu => by obtain ⟨p, _, hp⟩ := List.mem_flatMap.1 hu; exact pkVs_one p u hp)
                      have hlen := HK.out.len
                      have hkb : k * bigR ≤ 11 * bigR := Nat.mul_le_mul_right _ (by omega)
                      have HBN : Hid (L.length + x.r.L.length ≤ maxLen ∧ (L.length + x.r.L.length) * 24 ≤ 140737488355328) := by have := HXK.out; unfold bigR at *; unfold maxLen; exact ⟨by omega, by omega⟩
                      have v7 := hbb.cell (j := 7) rfl
                      have lv := hbb.lt
                      have fv := hbb.free 7
                      have g4 := (hub.cell lg (by simpa using nbd) (ox + k * 7 + 4)).trans g4
                      have lg := Nat.lt_of_lt_of_le lg hub.size
                      obtain ⟨i0, hi0, hz0, hz1, hz2⟩ := info_parts infoPk
                      have HBX := Lib.hid hbx
                      have HUW : Hid (Upd [] wo wb) := HKV.out.upd.then hub (fun _ _ h => h) (fun a ha hm => by simp only [List.mem_cons, List.not_mem_nil, or_false] at hm; have := HBD.out; omega)
                      clear hbb hub hbx hwb hlen hkb g3 p6 p7 lp f6
                      go_region_law (refine step_app2 _ (by rfl) _ _ _ (by rfl) 94 i0 _ 3 24 underlyingPks hi0 hz0 hz1 hz2 rfl (by omega) lk L.length ck (L.flatMap pkVs) (by rfl) (HRB.out.upd ((Upd.refl [] wb).drew) (by simp)) lo x.r.L.length lc (x.r.L.flatMap pkVs) (by rfl) HSR.out.drew HBN.out.1 HBN.out.2 ?_; intro ao3 cap3 w7 hA3; have HA3 := Lib.hid hA3; clear hA3; have hB7 := Blk.upd (w := wb.drew) HBB.out HA3.out.upd HBX.out; have u7 := hB7.cell (j := 7) rfl; have lu := hB7.lt; have fu := hB7.free 7; clear hB7)
                      all_goals go_wp2_with fail
                      all_goals exact ⟨⟨k + 1, x.r.e, L ++ x.r.L, ao3, cap3, by congr 1, by omega, NearK.app HBB.out HUW.out HBD.out HKV.out.new HA3.out HK.out.len HXK.out⟩, by first | (simp [intOf]; done) | (simp [intOf]; omega)⟩
                    · have t5 : (x.place == pp) = false := by simp [c2]
                      clear c1 c2
                      go_wp2_with fail
                      go_quiet (fail)
                      go_wp2_with fail
                      exact ⟨⟨k + 1, ek, L, lk, ck, by congr 1, by omega, HK.out.next ((Upd.refl [] wr).drewN _)⟩, by first | (simp [intOf]; done) | (simp [intOf]; omega)⟩
                  · have t4 : (x.who == pw) = false := by simp [c1]
                    clear c1
                    go_wp2_with fail
                    go_quiet (fail)
                    go_wp2_with fail
                    exact ⟨⟨k + 1, ek, L, lk, ck, by congr 1, by omega, HK.out.next ((Upd.refl [] wr).drewN _)⟩, by first | (simp [intOf]; done) | (simp [intOf]; omega)⟩
                · have r1 : decide (k < nx) = false := by simp; omega
                  have hkn : k = nx := by omega
                  subst hkn
                  clear hkx
                  obtain ⟨i0, hi0, hz0, hz1, hz2⟩ := info_parts infoDn_
                  have hsrc : Src (wr.alloc (.cells #[.int .i64 pw, .int .i64 pp, .int .i64 6, .int .i64 d.c.flow, .int .i64 d.c.a, .int .i64 d.c.b, .int .i64 ek, .slice lk L.length ck, .int .i64 0, .int .u64 0, .int .i64 mf, .int .i64 tl] 60)) 12 (some ⟨wr.heap.size, 0, none⟩) 1 [.int .i64 pw, .int .i64 pp, .int .i64 6, .int .i64 d.c.flow, .int .i64 d.c.a, .int .i64 d.c.b, .int .i64 ek, .slice lk L.length ck, .int .i64 0, .int .u64 0, .int .i64 mf, .int .i64 tl] := one_src wr 60 [.int .i64 pw, .int .i64 pp, .int .i64 6, .int .i64 d.c.flow, .int .i64 d.c.a, .int .i64 d.c.b, .int .i64 ek, .slice lk L.length ck, .int .i64 0, .int .u64 0, .int .i64 mf, .int .i64 tl] (by intro u hu; simp only [List.mem_cons, List.not_mem_nil, or_false] at hu; rcases hu with rfl | rfl | rfl | rfl | rfl | rfl | rfl | rfl | rfl | rfl | rfl | rfl <;> rfl) 12 rfl
                  have hq3 : Upd [] wr (wr.alloc (.cells #[.int .i64 pw, .int .i64 pp, .int .i64 6, .int .i64 d.c.flow, .int .i64 d.c.a, .int .i64 d.c.b, .int .i64 ek, .slice lk L.length ck, .int .i64 0, .int .u64 0, .int .i64 mf, .int .i64 tl] 60)) := (Upd.refl [] wr).alloc _
                  obtain ⟨v3, hv3⟩ : ∃ y, wr.alloc (.cells #[.int .i64 pw, .int .i64 pp, .int .i64 6, .int .i64 d.c.flow, .int .i64 d.c.a, .int .i64 d.c.b, .int .i64 ek, .slice lk L.length ck, .int .i64 0, .int .u64 0, .int .i64 mf, .int .i64 tl] 60) = y := ⟨_, rfl⟩
                  rw [hv3] at hsrc hq3
                  have HSRC := Lib.hid hsrc
                  have HQ := Lib.hid hq3
                  have HQO : Hid (Upd [] wo v3) := HK.out.upd.trans hq3
                  have HRW := Lib.hid (HY.out.row.upd HQO.out (by simp))
                  have HBN : Hid (j + 1 ≤ maxLen ∧ (j + 1) * 112 ≤ 140737488355328) := ⟨by unfold maxLen; omega, by omega⟩
                  have HDN : Hid (DneAt v3 ⟨pw, pp, ⟨6, d.c.flow, d.c.a, d.c.b⟩, ⟨ek, L, 0, 0⟩, .slice lk L.length ck, mf, tl⟩ ∧ (∀ c ∈ lvB (.slice lk L.length ck), wo.heap.size ≤ c ∧ c < v3.heap.size) ∧ L.length ≤ 12 * bigR) := by
                    have hrow := HK.out.row.upd hq3 (by simp)
                    refine ⟨hrow.sl, fun c hc => ⟨?_, hrow.sl.lvB_lt c hc⟩, Nat.le_trans HK.out.len (Nat.mul_le_mul_right _ hi12)⟩
                    have hcb : c ∈ blkO lk := by
                      cases lk with
                      | none => simp [lvB] at hc
                      | some a => cases hLl : L.length with
                        | zero => rw [hLl] at hc; simp [lvB] at hc
                        | succ t => rw [hLl] at hc; simpa [lvB, blkO] using hc
                    have := HK.out.new c hcb
                    have := HBD.out
                    omega
                  clear hsrc hq3
                  go_wp2_with (at_builtin; (refine wpList_app2 _ (by rfl) _ _ _ (by rfl) 60 i0 _ 12 112 underlyingDns_ hi0 hz0 hz1 hz2 rfl (by omega) aoy j capy (Y.flatMap dnVs) (by rfl) HRW.out (some ⟨wr.heap.size, 0, none⟩) 1 1 [.int .i64 pw, .int .i64 pp, .int .i64 6, .int .i64 d.c.flow, .int .i64 d.c.a, .int .i64 d.c.b, .int .i64 ek, .slice lk L.length ck, .int .i64 0, .int .u64 0, .int .i64 mf, .int .i64 tl] (by rfl) HSRC.out HBN.out.1 HBN.out.2 ?_); (intro ao3 cap3 w7 hA3; have HA3 := Lib.hid hA3; clear hA3))
                  exact ⟨⟨j + 1, ao3, cap3, _, by congr 1, rfl, by rw [HM.out]; omega, by omega, NearY.push (y := ⟨pw, pp, ⟨6, d.c.flow, d.c.a, d.c.b⟩, ⟨ek, L, 0, 0⟩, .slice lk L.length ck, mf, tl⟩) HY.out HQO.out HA3.out HDN.out.1 HDN.out.2.1 HDN.out.2.2⟩, by first | (simp [intOf]; done) | (simp [intOf]; omega)⟩
            · go_upto_region 22 with (fail)
              obtain ⟨wk, hwk⟩ : ∃ y, ((((((we.setCell ⟨bd, 2, none⟩ (.int .i64 6)).setCell ⟨bd, 2, none⟩ (.int .i64 5)).setCell ⟨bd, 6, none⟩ (.int .i64 0)).setCell ⟨bd, 7, none⟩ (.slice none 0 0)).setCell ⟨bd, 8, none⟩ (.int .i64 0)).setCell ⟨bd, 9, none⟩ (.int .u64 0)) = y := ⟨_, rfl⟩
              have hbk : Blk wk bd 60 [.int .i64 pw, .int .i64 pp, .int .i64 5, .int .i64 d.c.flow, .int .i64 d.c.a, .int .i64 d.c.b, .int .i64 0, .slice none 0 0, .int .i64 0, .int .u64 0, .int .i64 mf, .int .i64 tl] := by rw [← hwk]; exact ((((((HBE.out.set 2 _).set 2 _).set 6 _).set 7 _).set 8 _).set 9 _)
              have huk : Upd [] wr wk := by rw [← hwk]; exact ((((((HUE.out.setCell (.inr (Nat.le_of_eq HBD.out)) _).setCell (.inr (Nat.le_of_eq HBD.out)) _).setCell (.inr (Nat.le_of_eq HBD.out)) _).setCell (.inr (Nat.le_of_eq HBD.out)) _).setCell (.inr (Nat.le_of_eq HBD.out)) _).setCell (.inr (Nat.le_of_eq HBD.out)) _)
              rw [hwk]
              clear y2 y6 y7 y8 y9 e2 e6 e7 e8 e9 ly hwk
              obtain ⟨wo, rfl⟩ : ∃ y : World, y = wr := ⟨_, rfl⟩
              have HKK : Hid (NearK wo wk bd 0 pw pp 5 d.c.flow d.c.a d.c.b 0 mf tl [] none 0) := ⟨hbk, RowO.nil _ _ _, by simp, (fun c hc => by cases hc), huk⟩
              clear hbk huk
              go_loopw [13] (fun kv wr => NearKAt wo bd nx pw pp 5 d.c.flow d.c.a d.c.b mf tl kv wr) (fun kv _ => nx - (intOf kv).toNat)
              case atStart => exact ⟨0, 0, [], none, 0, rfl, Nat.zero_le _, HKK.out⟩
              case round =>
                obtain ⟨k, ek, L, lk, ck, rfl, hk, hK⟩ := hrel
                have HK := Lib.hid hK
                have hbq := hK.blk
                have q0 := hbq.cell (j := 0) rfl
                have q1 := hbq.cell (j := 1) rfl
                have q2 := hbq.cell (j := 2) rfl
                have q3 := hbq.cell (j := 3) rfl
                have q4 := hbq.cell (j := 4) rfl
                have q5 := hbq.cell (j := 5) rfl
                have q6 := hbq.cell (j := 6) rfl
                have q7 := hbq.cell (j := 7) rfl
                have q8 := hbq.cell (j := 8) rfl
                have q9 := hbq.cell (j := 9) rfl
                have qa := hbq.cell (j := 10) rfl
                have qb := hbq.cell (j := 11) rfl
                have lq := hbq.lt
                have e6 := hbq.free 6
                clear hK hbq
                by_cases hkx : k < nx
                · have r1 : decide (k < nx) = true := by simp [hkx]
                  have r2 : (k : Int) < (nx : Int) := by omega
                  have r3 : k + 1 ≤ 9223372036854775807 := by omega
                  obtain ⟨x, hx⟩ : ∃ x, X[k]? = some x := ⟨_, List.getElem?_eq_getElem (by rw [HXN.out]; exact hkx)⟩
                  have hxl := HXL.out x (List.mem_of_getElem? hx)
                  obtain ⟨-, _, _, e1, hat⟩ := pts_at (HPX.out.upd HUY.out)
                  rw [HXN.out] at e1
                  cases e1
                  obtain ⟨gx, ox, rfl, lo1, hpt, x0, x1, x2, x3, x4, x5, x6⟩ := hat k x hx
                  have nbd : gx ≠ bd := by have := HBD.out; omega
                  have huk := HK.out.upd
                  replace x1 := (huk.cell lo1 (by simp) _).trans x1
                  replace x2 := (huk.cell lo1 (by simp) _).trans x2
                  replace x3 := (huk.cell lo1 (by simp) _).trans x3
                  replace x4 := (huk.cell lo1 (by simp) _).trans x4
                  have lx := Nat.lt_of_lt_of_le lo1 huk.size
                  have HPT := Lib.hid hpt
                  obtain ⟨lo, lc, hlv, -⟩ := hpt
                  have hps := HPT.out
                  unfold PtAt at hps
                  rw [hlv] at x4 hps
                  have HPS := Lib.hid hps
                  have HXK := Lib.hid hxl
                  clear hat hlv hx hps hxl HPT huk lo1 q2 q3 q4 q5 q8 q9 qa qb x0 x5 x6
                  by_cases c1 : x.who = pw
                  · have t4 : (x.who == pw) = true := by simp [c1]
                    by_cases c2 : x.place = pp
                    · have t5 : (x.place == pp) = true := by simp [c2]
                      clear c1 c2
                      go_wp2_with fail
                      go_quiet (fail)
                      obtain ⟨wv, hwv⟩ : ∃ y, wr.drewN nq = y := ⟨_, rfl⟩
                      have uv : Upd [] wr wv := by rw [← hwv]; exact (Upd.refl [] wr).drewN _
                      have HKV := Lib.hid (HK.out.next uv)
                      have HUV := Lib.hid uv
                      rw [hwv]
                      have g3 := (uv.cell lx (by simp) (ox + k * 7 + 3)).trans x3
                      have g4 := (uv.cell lx (by simp) (ox + k * 7 + 4)).trans x4
                      have lg := Nat.lt_of_lt_of_le lx uv.size
                      have p6 := (uv.cell lq (by simp) 6).trans q6
                      have p7 := (uv.cell lq (by simp) 7).trans q7
                      have lp := Nat.lt_of_lt_of_le lq uv.size
                      have f6 := (uv.frozen lq (by simp) 6).trans e6
                      clear uv hwv x1 x2 x3 x4 lx q0 q1 q6 q7 lq e6
                      go_upto_region 26 with (fail)
                      obtain ⟨wb, hwb⟩ : ∃ y, wv.setCell ⟨bd, 6, none⟩ (.int .i64 x.r.e) = y := ⟨_, rfl⟩
                      have hbb : Blk wb bd 60 [.int .i64 pw, .int .i64 pp, .int .i64 5, .int .i64 d.c.flow, .int .i64 d.c.a, .int .i64 d.c.b, .int .i64 x.r.e, .slice lk L.length ck, .int .i64 0, .int .u64 0, .int .i64 mf, .int .i64 tl] := by rw [← hwb]; exact HKV.out.blk.set 6 _
                      have hub : Upd [bd] wv wb := by rw [← hwb]; exact (Upd.refl [bd] wv).setCell (.inl (by simp)) _
                      have hbx : bd ∉ blkO lk := fun hm => by have := HKV.out.new bd hm; omega
                      have HRB : Hid (RowO wb 94 3 lk L.length ck (L.flatMap pkVs)) := HKV.out.row.upd hub (fun c hc e => by simp only [List.mem_cons, List.not_mem_nil, or_false] at e; exact hbx (e ▸ hc))
                      rw [hwb]
                      have HBB := Lib.hid hbb
                      have HUB := Lib.hid hub
                      have HSB : Hid (SlAt wb 3 (.slice lo x.r.L.length lc) x.r.L.length (x.r.L.flatMap pkVs)) := ((HPS.out.upd (HK.out.upd.trans HUV.out)).updS hub (fun c hc e => by simp only [List.mem_cons, List.not_mem_nil, or_false] at e; have := HPS.out.lvB_lt c hc; have := HBD.out; omega))
                      have HSR : Hid (Src wb 3 lo x.r.L.length (x.r.L.flatMap pkVs)) := HSB.out.src (fun u hu => by obtain ⟨p, _, hp⟩ := List.mem_flatMap.1 hu; exact pkVs_one p u hp)
                      have hlen := HK.out.len
                      have hkb : k * bigR ≤ 11 * bigR := Nat.mul_le_mul_right _ (by omega)
                      have HBN : Hid (L.length + x.r.L.length ≤ maxLen ∧ (L.length + x.r.L.length) * 24 ≤ 140737488355328) := by have := HXK.out; unfold bigR at *; unfold maxLen; exact ⟨by omega, by omega⟩
                      have v7 := hbb.cell (j := 7) rfl
                      have lv := hbb.lt
                      have fv := hbb.free 7
                      have g4 := (hub.cell lg (by simpa using nbd) (ox + k * 7 + 4)).trans g4
                      have lg := Nat.lt_of_lt_of_le lg hub.size
                      obtain ⟨i0, hi0, hz0, hz1, hz2⟩ := info_parts infoPk
                      have HBX := Lib.hid hbx
                      have HUW : Hid (Upd [] wo wb) := HKV.out.upd.then hub (fun _ _ h => h) (fun a ha hm => by simp only [List.mem_cons, List.not_mem_nil, or_false] at hm; have := HBD.out; omega)
                      clear hbb hub hbx hwb hlen hkb g3 p6 p7 lp f6
                      go_region_law (refine step_app2 _ (by rfl) _ _ _ (by rfl) 94 i0 _ 3 24 underlyingPks hi0 hz0 hz1 hz2 rfl (by omega) lk L.length ck (L.flatMap pkVs) (by rfl) (HRB.out.upd ((Upd.refl [] wb).drew) (by simp)) lo x.r.L.length lc (x.r.L.flatMap pkVs) (by rfl) HSR.out.drew HBN.out.1 HBN.out.2 ?_; intro ao3 cap3 w7 hA3; have HA3 := Lib.hid hA3; clear hA3; have hB7 := Blk.upd (w := wb.drew) HBB.out HA3.out.upd HBX.out; have u7 := hB7.cell (j := 7) rfl; have lu := hB7.lt; have fu := hB7.free 7; clear hB7)
                      all_goals go_wp2_with fail
                      all_goals exact ⟨⟨k + 1, x.r.e, L ++ x.r.L, ao3, cap3, by congr 1, by omega, NearK.app HBB.out HUW.out HBD.out HKV.out.new HA3.out HK.out.len HXK.out⟩, by first | (simp [intOf]; done) | (simp [intOf]; omega)⟩
                    · have t5 : (x.place == pp) = false := by simp [c2]
                      clear c1 c2
                      go_wp2_with fail
                      go_quiet (fail)
                      go_wp2_with fail
                      exact ⟨⟨k + 1, ek, L, lk, ck, by congr 1, by omega, HK.out.next ((Upd.refl [] wr).drewN _)⟩, by first | (simp [intOf]; done) | (simp [intOf]; omega)⟩
                  · have t4 : (x.who == pw) = false := by simp [c1]
                    clear c1
                    go_wp2_with fail
                    go_quiet (fail)
                    go_wp2_with fail
                    exact ⟨⟨k + 1, ek, L, lk, ck, by congr 1, by omega, HK.out.next ((Upd.refl [] wr).drewN _)⟩, by first | (simp [intOf]; done) | (simp [intOf]; omega)⟩
                · have r1 : decide (k < nx) = false := by simp; omega
                  have hkn : k = nx := by omega
                  subst hkn
                  clear hkx
                  obtain ⟨i0, hi0, hz0, hz1, hz2⟩ := info_parts infoDn_
                  have hsrc : Src (wr.alloc (.cells #[.int .i64 pw, .int .i64 pp, .int .i64 5, .int .i64 d.c.flow, .int .i64 d.c.a, .int .i64 d.c.b, .int .i64 ek, .slice lk L.length ck, .int .i64 0, .int .u64 0, .int .i64 mf, .int .i64 tl] 60)) 12 (some ⟨wr.heap.size, 0, none⟩) 1 [.int .i64 pw, .int .i64 pp, .int .i64 5, .int .i64 d.c.flow, .int .i64 d.c.a, .int .i64 d.c.b, .int .i64 ek, .slice lk L.length ck, .int .i64 0, .int .u64 0, .int .i64 mf, .int .i64 tl] := one_src wr 60 [.int .i64 pw, .int .i64 pp, .int .i64 5, .int .i64 d.c.flow, .int .i64 d.c.a, .int .i64 d.c.b, .int .i64 ek, .slice lk L.length ck, .int .i64 0, .int .u64 0, .int .i64 mf, .int .i64 tl] (by intro u hu; simp only [List.mem_cons, List.not_mem_nil, or_false] at hu; rcases hu with rfl | rfl | rfl | rfl | rfl | rfl | rfl | rfl | rfl | rfl | rfl | rfl <;> rfl) 12 rfl
                  have hq3 : Upd [] wr (wr.alloc (.cells #[.int .i64 pw, .int .i64 pp, .int .i64 5, .int .i64 d.c.flow, .int .i64 d.c.a, .int .i64 d.c.b, .int .i64 ek, .slice lk L.length ck, .int .i64 0, .int .u64 0, .int .i64 mf, .int .i64 tl] 60)) := (Upd.refl [] wr).alloc _
                  obtain ⟨v3, hv3⟩ : ∃ y, wr.alloc (.cells #[.int .i64 pw, .int .i64 pp, .int .i64 5, .int .i64 d.c.flow, .int .i64 d.c.a, .int .i64 d.c.b, .int .i64 ek, .slice lk L.length ck, .int .i64 0, .int .u64 0, .int .i64 mf, .int .i64 tl] 60) = y := ⟨_, rfl⟩
                  rw [hv3] at hsrc hq3
                  have HSRC := Lib.hid hsrc
                  have HQ := Lib.hid hq3
                  have HQO : Hid (Upd [] wo v3) := HK.out.upd.trans hq3
                  have HRW := Lib.hid (HY.out.row.upd HQO.out (by simp))
                  have HBN : Hid (j + 1 ≤ maxLen ∧ (j + 1) * 112 ≤ 140737488355328) := ⟨by unfold maxLen; omega, by omega⟩
                  have HDN : Hid (DneAt v3 ⟨pw, pp, ⟨5, d.c.flow, d.c.a, d.c.b⟩, ⟨ek, L, 0, 0⟩, .slice lk L.length ck, mf, tl⟩ ∧ (∀ c ∈ lvB (.slice lk L.length ck), wo.heap.size ≤ c ∧ c < v3.heap.size) ∧ L.length ≤ 12 * bigR) := by
                    have hrow := HK.out.row.upd hq3 (by simp)
                    refine ⟨hrow.sl, fun c hc => ⟨?_, hrow.sl.lvB_lt c hc⟩, Nat.le_trans HK.out.len (Nat.mul_le_mul_right _ hi12)⟩
                    have hcb : c ∈ blkO lk := by
                      cases lk with
                      | none => simp [lvB] at hc
                      | some a => cases hLl : L.length with
                        | zero => rw [hLl] at hc; simp [lvB] at hc
                        | succ t => rw [hLl] at hc; simpa [lvB, blkO] using hc
                    have := HK.out.new c hcb
                    have := HBD.out
                    omega
                  clear hsrc hq3
                  go_wp2_with (at_builtin; (refine wpList_app2 _ (by rfl) _ _ _ (by rfl) 60 i0 _ 12 112 underlyingDns_ hi0 hz0 hz1 hz2 rfl (by omega) aoy j capy (Y.flatMap dnVs) (by rfl) HRW.out (some ⟨wr.heap.size, 0, none⟩) 1 1 [.int .i64 pw, .int .i64 pp, .int .i64 5, .int .i64 d.c.flow, .int .i64 d.c.a, .int .i64 d.c.b, .int .i64 ek, .slice lk L.length ck, .int .i64 0, .int .u64 0, .int .i64 mf, .int .i64 tl] (by rfl) HSRC.out HBN.out.1 HBN.out.2 ?_); (intro ao3 cap3 w7 hA3; have HA3 := Lib.hid hA3; clear hA3))
                  exact ⟨⟨j + 1, ao3, cap3, _, by congr 1, rfl, by rw [HM.out]; omega, by omega, NearY.push (y := ⟨pw, pp, ⟨5, d.c.flow, d.c.a, d.c.b⟩, ⟨ek, L, 0, 0⟩, .slice lk L.length ck, mf, tl⟩) HY.out HQO.out HA3.out HDN.out.1 HDN.out.2.1 HDN.out.2.2⟩, by first | (simp [intOf]; done) | (simp [intOf]; omega)⟩
          · have HPY := Lib.hid HY.out.at_
            have HYL : Hid (∀ d ∈ Y, d.r.L.length ≤ 1099511627776) := fun d hd => by have := (HY.out.sl d hd).2.2; unfold bigR at this; omega
            have HXX := Lib.hid (HPX.out.upd HUY.out)
            have HUW : Hid (Upd [] w wr) := HUX.out.trans HUY.out
            by_cases h5 : j < m
            · have s1 : decide (j < m) = true := by simp [h5]
              have s2 : decide (j < 4) = false := by simp; omega
              have s3 : decide ((j : Int) < 4) = false := by simp; omega
              clear hlt2 h5
              go_wp2_with fail
              refine (awake27_any _).mono ?_
              rintro e w2 ⟨rfl, hu2⟩
              have HU2 := Lib.hid hu2
              clear hu2
              go_wp2_with fail
              obtain ⟨wp, hwp⟩ : ∃ y, withinP X Y = y := ⟨_, rfl⟩
              have HW1 := Lib.hid (fun (w2 : World) (hu : Upd [] wr w2) => wwithin_any (HXX.out.upd hu) (HPY.out.upd hu) (by have := HXN.out; omega) HYL.out)
              have HW2 := Lib.hid (fun (w2 : World) (hu : Upd [] wr w2) => dwithin_any (HXX.out.upd hu) (HPY.out.upd hu) (by have := HXN.out; omega) HYL.out)
              rw [hwp] at HW1 HW2
              clear hwp
              refine (HW1.out _ HU2.out).mono ?_
              rintro e w3 ⟨rfl, hu3⟩
              have HU3 := Lib.hid (HU2.out.trans hu3)
              clear hu3
              go_wp2_with fail
              refine (HW2.out _ HU3.out).mono ?_
              rintro e w4 ⟨rfl, hu4⟩
              have HU4 := Lib.hid (HU3.out.trans hu4)
              clear hu4
              have hw0 : (wp == wp) = true := by simp
              go_wp2_with fail
              go_ret
              exact ⟨rfl, HUW.out.trans HU4.out⟩
            · have s1 : decide (j < m) = false := by simp; omega
              clear hlt2 h5
              go_wp2_with fail
              refine (awake27_any _).mono ?_
              rintro e w2 ⟨rfl, hu2⟩
              have HU2 := Lib.hid hu2
              clear hu2
              go_wp2_with fail
              obtain ⟨wp, hwp⟩ : ∃ y, withinP X Y = y := ⟨_, rfl⟩
              have HW1 := Lib.hid (fun (w2 : World) (hu : Upd [] wr w2) => wwithin_any (HXX.out.upd hu) (HPY.out.upd hu) (by have := HXN.out; omega) HYL.out)
              have HW2 := Lib.hid (fun (w2 : World) (hu : Upd [] wr w2) => dwithin_any (HXX.out.upd hu) (HPY.out.upd hu) (by have := HXN.out; omega) HYL.out)
              rw [hwp] at HW1 HW2
              clear hwp
              refine (HW1.out _ HU2.out).mono ?_
              rintro e w3 ⟨rfl, hu3⟩
              have HU3 := Lib.hid (HU2.out.trans hu3)
              clear hu3
              go_wp2_with fail
              refine (HW2.out _ HU3.out).mono ?_
              rintro e w4 ⟨rfl, hu4⟩
              have HU4 := Lib.hid (HU3.out.trans hu4)
              clear hu4
              have hw0 : (wp == wp) = true := by simp
              go_wp2_with fail
              go_ret
              exact ⟨rfl, HUW.out.trans HU4.out⟩
      · have t1 : decide (i < n) = false := by simp; omega
        clear hlt h1
        go_wp2_with fail
        obtain ⟨wx, hwx⟩ : ∃ y, wr = y := ⟨_, rfl⟩
        have hU1 := HX.out.upd
        have hpx := HX.out.at_
        rw [hwx] at hU1 hpx ⊢
        have HUX := Lib.hid hU1
        have HPX := Lib.hid hpx
        have HXL := Lib.hid (fun x hx => (HX.out.pts x hx).2)
        have HHX := Lib.hid (HH.out.upd hU1)
        have HXN := Lib.hid HX.out.len
        obtain ⟨nx, hnx⟩ : ∃ y, i = y := ⟨_, rfl⟩
        rw [hnx] at HPX HXN hi12 ⊢
        clear hU1 hpx HX HU hi HL HH hwx hnx
        go_loopw [8, 11] (fun yv jv wr => NearYAt wx h yv jv wr) (fun _ jv _ => 4 - (intOf jv).toNat)
        case atStart => exact ⟨0, none, 0, [], rfl, rfl, Nat.zero_le _, by omega, RowO.nil _ _ _, rfl, fun c hc => (by cases hc), fun x hx => (by cases hx), Upd.refl _ _⟩
        case round =>
          obtain ⟨j, aoy, capy, Y, rfl, rfl, hj, hj4, hY⟩ := hrel
          rw [HM.out] at hj
          have HY := Lib.hid hY
          have HUY := Lib.hid hY.upd
          clear hY
          by_cases hlt2 : j < m ∧ j < 4
          · have s1 : decide (j < m) = true := by simp [hlt2.1]
            have s2 : decide (j < 4) = true := by simp [hlt2.2]
            have s3 : decide ((j : Int) < 4) = true := by simp; omega
            have s4 : (j : Int) < (m : Int) := by omega
            have hjm := hlt2.1
            have hj4 := hlt2.2
            obtain ⟨d, hd⟩ : ∃ d, h[j]? = some d := ⟨_, List.getElem?_eq_getElem (by rw [HM.out]; exact hjm)⟩
            obtain ⟨-, _, _, e1, hat⟩ := dns_at (HHX.out.upd HUY.out)
            rw [HM.out] at e1
            cases e1
            obtain ⟨gd, od, rfl, lx, hdt, x0, x1, x2, x3, x4, x5, x6, x7, x8, x9, xa, xb⟩ := hat j d hd
            obtain ⟨lo, lc, hlv, -⟩ := hdt
            rw [hlv] at x7
            have fin : j + 1 ≤ 9223372036854775807 := by omega
            clear hat hlv hd hlt2
            go_upto_region 15 with (fail)
            obtain ⟨wa, hwa⟩ : ∃ y, wr.alloc (.cells #[.int .i64 d.who, .int .i64 d.place, .int .i64 d.c.op, .int .i64 d.c.flow, .int .i64 d.c.a, .int .i64 d.c.b, .int .i64 d.r.e, .slice lo d.r.L.length lc, .int .i64 d.r.n, .int .u64 d.r.v, .int .i64 d.frm, .int .i64 d.til] 60) = y := ⟨_, rfl⟩
            obtain ⟨bd, hbd⟩ : ∃ y, wr.heap.size = y := ⟨_, rfl⟩
            have hba : Blk wa bd 60 [.int .i64 d.who, .int .i64 d.place, .int .i64 d.c.op, .int .i64 d.c.flow, .int .i64 d.c.a, .int .i64 d.c.b, .int .i64 d.r.e, .slice lo d.r.L.length lc, .int .i64 d.r.n, .int .u64 d.r.v, .int .i64 d.frm, .int .i64 d.til] := by rw [← hwa, ← hbd]; exact Blk.new wr 60 [.int .i64 d.who, .int .i64 d.place, .int .i64 d.c.op, .int .i64 d.c.flow, .int .i64 d.c.a, .int .i64 d.c.b, .int .i64 d.r.e, .slice lo d.r.L.length lc, .int .i64 d.r.n, .int .u64 d.r.v, .int .i64 d.frm, .int .i64 d.til]
            have hua : Upd [] wr wa := by rw [← hwa]; exact (Upd.refl [] wr).alloc _
            rw [hwa, hbd]
            have HBA := Lib.hid hba
            have HUA := Lib.hid hua
            have HBD := Lib.hid hbd
            have y0 := hba.cell (j := 0) rfl
            have y1 := hba.cell (j := 1) rfl
            have ya := hba.cell (j := 10) rfl
            have e0 := hba.free 0
            have e1 := hba.free 1
            have ea := hba.free 10
            have ly := hba.lt
            have hf4 := modI_bd d.frm 4 (by omega) (by omega)
            obtain ⟨mf, hmf⟩ : ∃ y, modI d.frm 4 = y := ⟨_, rfl⟩
            have HMF : Hid (∀ w, Calls Try.prog 7 #[.int .i64 d.frm, .int .i64 4] w (fun e w' => e = .returned (.int .i64 mf) ∧ w = w')) := fun w => by rw [← hmf]; exact mod_any _ 4 (by omega) (by omega) w
            rw [hmf] at hf4
            have hf7 := modI_bd d.til 7 (by omega) (by omega)
            obtain ⟨mt, hmt⟩ : ∃ y, modI d.til 7 = y := ⟨_, rfl⟩
            have HMT : Hid (∀ w, Calls Try.prog 7 #[.int .i64 d.til, .int .i64 7] w (fun e w' => e = .returned (.int .i64 mt) ∧ w = w')) := fun w => by rw [← hmt]; exact mod_any _ 7 (by omega) (by omega) w
            rw [hmt] at hf7
            clear hba hua hbd hwa hmf hmt x0 x1 x2 x3 x4 x5 x6 x7 x8 x9 xa xb lx
            go_upto_region 16 with ((refine (HMF.out _).mono ?_); (rintro e w' ⟨rfl, rfl⟩))
            obtain ⟨pw, hpw⟩ : ∃ y, (j : Int) % 2 = y := ⟨_, rfl⟩
            obtain ⟨pp, hpp⟩ : ∃ y, (j : Int) / 2 = y := ⟨_, rfl⟩
            rw [hpw, hpp]
            clear hpw hpp
            obtain ⟨wz, hwz⟩ : ∃ y, ((wa.setCell ⟨bd, 0, none⟩ (.int .i64 pw)).setCell ⟨bd, 1, none⟩ (.int .i64 pp)).setCell ⟨bd, 10, none⟩ (.int .i64 mf) = y := ⟨_, rfl⟩
            have hbz : Blk wz bd 60 [.int .i64 pw, .int .i64 pp, .int .i64 d.c.op, .int .i64 d.c.flow, .int .i64 d.c.a, .int .i64 d.c.b, .int .i64 d.r.e, .slice lo d.r.L.length lc, .int .i64 d.r.n, .int .u64 d.r.v, .int .i64 mf, .int .i64 d.til] := by rw [← hwz]; exact (((HBA.out.set 0 _).set 1 _).set 10 _)
            have huz : Upd [] wr wz := by rw [← hwz]; exact (((HUA.out.setCell (.inr (Nat.le_of_eq HBD.out)) _).setCell (.inr (Nat.le_of_eq HBD.out)) _).setCell (.inr (Nat.le_of_eq HBD.out)) _)
            rw [hwz]
            clear y0 y1 ya e0 e1 ea ly hwz
            have HBZ := Lib.hid hbz
            have HUZ := Lib.hid huz
            have ya := hbz.cell (j := 10) rfl
            have yb := hbz.cell (j := 11) rfl
            have za : wz.drew.cell? ⟨bd, 10, none⟩ = some (.int .i64 mf) := ya
            have zb : wz.drew.cell? ⟨bd, 11, none⟩ = some (.int .i64 d.til) := yb
            have eb := hbz.free 11
            have ly := hbz.lt
            have lz : bd < wz.drew.heap.size := ly
            obtain ⟨hf1, hf2⟩ := hf4
            obtain ⟨hf3, hf5⟩ := hf7
            clear hbz huz
            refine wp_region_tail 8 (by kernel_rfl) (by kernel_rfl) ?_
            simp only [List.take_succ_cons, List.take_zero, List.drop_succ_cons, List.drop_zero]
            iterate 8 go_big_quiet_step (exact ((HMT.out _).mono (fun _ _ h => ⟨h.1, h.2.symm⟩)) _)
            refine wpQuiet_nil ?_
            go_upto_region 17 with (fail)
            obtain ⟨tl, htl⟩ : ∃ y, mf + mt - 1 = y := ⟨_, rfl⟩
            rw [htl]
            clear htl
            obtain ⟨we, hwe⟩ : ∃ y, (wz.setCell ⟨bd, 11, none⟩ (.int .i64 tl)).drew = y := ⟨_, rfl⟩
            have hbe : Blk we bd 60 [.int .i64 pw, .int .i64 pp, .int .i64 d.c.op, .int .i64 d.c.flow, .int .i64 d.c.a, .int .i64 d.c.b, .int .i64 d.r.e, .slice lo d.r.L.length lc, .int .i64 d.r.n, .int .u64 d.r.v, .int .i64 mf, .int .i64 tl] := by rw [← hwe]; exact HBZ.out.set 11 _
            have hue : Upd [] wr we := by rw [← hwe]; exact (HUZ.out.setCell (.inr (Nat.le_of_eq HBD.out)) _).drew
            rw [hwe]
            clear ya yb za zb eb ly lz hwe hf1 hf2 hf3 hf5
            have HBE := Lib.hid hbe
            have HUE := Lib.hid hue
            have y2 := hbe.cell (j := 2) rfl
            have y6 := hbe.cell (j := 6) rfl
            have y7 := hbe.cell (j := 7) rfl
            have y8 := hbe.cell (j := 8) rfl
            have y9 := hbe.cell (j := 9) rfl
            have e2 := hbe.free 2
            have e6 := hbe.free 6
            have e7 := hbe.free 7
            have e8 := hbe.free 8
            have e9 := hbe.free 9
            have ly := hbe.lt
            clear hbe hue
            cases b
            · go_upto_region 22 with (fail)
              obtain ⟨wk, hwk⟩ : ∃ y, (((((we.setCell ⟨bd, 2, none⟩ (.int .i64 6)).setCell ⟨bd, 6, none⟩ (.int .i64 0)).setCell ⟨bd, 7, none⟩ (.slice none 0 0)).setCell ⟨bd, 8, none⟩ (.int .i64 0)).setCell ⟨bd, 9, none⟩ (.int .u64 0)) = y := ⟨_, rfl⟩
              have hbk : Blk wk bd 60 [.int .i64 pw, .int .i64 pp, .int .i64 6, .int .i64 d.c.flow, .int .i64 d.c.a, .int .i64 d.c.b, .int .i64 0, .slice none 0 0, .int .i64 0, .int .u64 0, .int .i64 mf, .int .i64 tl] := by rw [← hwk]; exact (((((HBE.out.set 2 _).set 6 _).set 7 _).set 8 _).set 9 _)
              have huk : Upd [] wr wk := by rw [← hwk]; exact (((((HUE.out.setCell (.inr (Nat.le_of_eq HBD.out)) _).setCell (.inr (Nat.le_of_eq HBD.out)) _).setCell (.inr (Nat.le_of_eq HBD.out)) _).setCell (.inr (Nat.le_of_eq HBD.out)) _).setCell (.inr (Nat.le_of_eq HBD.out)) _)
              rw [hwk]
              clear y2 y6 y7 y8 y9 e2 e6 e7 e8 e9 ly hwk
              obtain ⟨wo, rfl⟩ : ∃ y : World, y = wr := ⟨_, rfl⟩
              have HKK : Hid (NearK wo wk bd 0 pw pp 6 d.c.flow d.c.a d.c.b 0 mf tl [] none 0) := ⟨hbk, RowO.nil _ _ _, by simp, (fun c hc => by cases hc), huk⟩
              clear hbk huk
              go_loopw [13] (fun kv wr => NearKAt wo bd nx pw pp 6 d.c.flow d.c.a d.c.b mf tl kv wr) (fun kv _ => nx - (intOf kv).toNat)
              case atStart => exact ⟨0, 0, [], none, 0, rfl, Nat.zero_le _, HKK.out⟩
              case round =>
                obtain ⟨k, ek, L, lk, ck, rfl, hk, hK⟩ := hrel
                have HK := Lib.hid hK
                have hbq := hK.blk
                have q0 := hbq.cell (j := 0) rfl
                have q1 := hbq.cell (j := 1) rfl
                have q2 := hbq.cell (j := 2) rfl
                have q3 := hbq.cell (j := 3) rfl
                have q4 := hbq.cell (j := 4) rfl
                have q5 := hbq.cell (j := 5) rfl
                have q6 := hbq.cell (j := 6) rfl
                have q7 := hbq.cell (j := 7) rfl
                have q8 := hbq.cell (j := 8) rfl
                have q9 := hbq.cell (j := 9) rfl
                have qa := hbq.cell (j := 10) rfl
                have qb := hbq.cell (j := 11) rfl
                have lq := hbq.lt
                have e6 := hbq.free 6
                clear hK hbq
                by_cases hkx : k < nx
                · have r1 : decide (k < nx) = true := by simp [hkx]
                  have r2 : (k : Int) < (nx : Int) := by omega
                  have r3 : k + 1 ≤ 9223372036854775807 := by omega
                  obtain ⟨x, hx⟩ : ∃ x, X[k]? = some x := ⟨_, List.getElem?_eq_getElem (by rw [HXN.out]; exact hkx)⟩
                  have hxl := HXL.out x (List.mem_of_getElem? hx)
                  obtain ⟨-, _, _, e1, hat⟩ := pts_at (HPX.out.upd HUY.out)
                  rw [HXN.out] at e1
                  cases e1
                  obtain ⟨gx, ox, rfl, lo1, hpt, x0, x1, x2, x3, x4, x5, x6⟩ := hat k x hx
                  have nbd : gx ≠ bd := by have := HBD.out; omega
                  have huk := HK.out.upd
                  replace x1 := (huk.cell lo1 (by simp) _).trans x1
                  replace x2 := (huk.cell lo1 (by simp) _).trans x2
                  replace x3 := (huk.cell lo1 (by simp) _).trans x3
                  replace x4 := (huk.cell lo1 (by simp) _).trans x4
                  have lx := Nat.lt_of_lt_of_le lo1 huk.size
                  have HPT := Lib.hid hpt
                  obtain ⟨lo, lc, hlv, -⟩ := hpt
                  have hps := HPT.out
                  unfold PtAt at hps
                  rw [hlv] at x4 hps
                  have HPS := Lib.hid hps
                  have HXK := Lib.hid hxl
                  clear hat hlv hx hps hxl HPT huk lo1 q2 q3 q4 q5 q8 q9 qa qb x0 x5 x6
                  by_cases c1 : x.who = pw
                  · have t4 : (x.who == pw) = true := by simp [c1]
                    by_cases c2 : x.place = pp
                    · have t5 : (x.place == pp) = true := by simp [c2]
                      clear c1 c2
                      go_wp2_with fail
                      go_quiet (fail)
                      obtain ⟨wv, hwv⟩ : ∃ y, wr.drewN nq = y := ⟨_, rfl⟩
                      have uv : Upd [] wr wv := by rw [← hwv]; exact (Upd.refl [] wr).drewN _
                      have HKV := Lib.hid (HK.out.next uv)
                      have HUV := Lib.hid uv
                      rw [hwv]
                      have g3 := (uv.cell lx (by simp) (ox + k * 7 + 3)).trans x3
                      have g4 := (uv.cell lx (by simp) (ox + k * 7 + 4)).trans x4
                      have lg := Nat.lt_of_lt_of_le lx uv.size
                      have p6 := (uv.cell lq (by simp) 6).trans q6
                      have p7 := (uv.cell lq (by simp) 7).trans q7
                      have lp := Nat.lt_of_lt_of_le lq uv.size
                      have f6 := (uv.frozen lq (by simp) 6).trans e6
                      clear uv hwv x1 x2 x3 x4 lx q0 q1 q6 q7 lq e6
                      go_upto_region 26 with (fail)
                      obtain ⟨wb, hwb⟩ : ∃ y, wv.setCell ⟨bd, 6, none⟩ (.int .i64 x.r.e) = y := ⟨_, rfl⟩
                      have hbb : Blk wb bd 60 [.int .i64 pw, .int .i64 pp, .int .i64 6, .int .i64 d.c.flow, .int .i64 d.c.a, .int .i64 d.c.b, .int .i64 x.r.e, .slice lk L.length ck, .int .i64 0, .int .u64 0, .int .i64 mf, .int .i64 tl] := by rw [← hwb]; exact HKV.out.blk.set 6 _
                      have hub : Upd [bd] wv wb := by rw [← hwb]; exact (Upd.refl [bd] wv).setCell (.inl (by simp)) _
                      have hbx : bd ∉ blkO lk := fun hm => by have := HKV.out.new bd hm; omega
                      have HRB : Hid (RowO wb 94 3 lk L.length ck (L.flatMap pkVs)) := HKV.out.row.upd hub (fun c hc e => by simp only [List.mem_cons, List.not_mem_nil, or_false] at e; exact hbx (e ▸ hc))
                      rw [hwb]
                      have HBB := Lib.hid hbb
                      have HUB := Lib.hid hub
                      have HSB : Hid (SlAt wb 3 (.slice lo x.r.L.length lc) x.r.L.length (x.r.L.flatMap pkVs)) := ((HPS.out.upd (HK.out.upd.trans HUV.out)).updS hub (fun c hc e => by simp only [List.mem_cons, List.not_mem_nil, or_false] at e; have := HPS.out.lvB_lt c hc; have := HBD.out; omega))
                      have HSR : Hid (Src wb 3 lo x.r.L.length (x.r.L.flatMap pkVs)) := HSB.out.src (fun u hu => by obtain ⟨p, _, hp⟩ := List.mem_flatMap.1 hu; exact pkVs_one p u hp)
                      have hlen := HK.out.len
                      have hkb : k * bigR ≤ 11 * bigR := Nat.mul_le_mul_right _ (by omega)
                      have HBN : Hid (L.length + x.r.L.length ≤ maxLen ∧ (L.length + x.r.L.length) * 24 ≤ 140737488355328) := by have := HXK.out; unfold bigR at *; unfold maxLen; exact ⟨by omega, by omega⟩
                      have v7 := hbb.cell (j := 7) rfl
                      have lv := hbb.lt
                      have fv := hbb.free 7
                      have g4 := (hub.cell lg (by simpa using nbd) (ox + k * 7 + 4)).trans g4
                      have lg := Nat.lt_of_lt_of_le lg hub.size
                      obtain ⟨i0, hi0, hz0, hz1, hz2⟩ := info_parts infoPk
                      have HBX := Lib.hid hbx
                      have HUW : Hid (Upd [] wo wb) := HKV.out.upd.then hub (fun _ _ h => h) (fun a ha hm => by simp only [List.mem_cons, List.not_mem_nil, or_false] at hm; have := HBD.out; omega)
                      clear hbb hub hbx hwb hlen hkb g3 p6 p7 lp f6
                      go_region_law (refine step_app2 _ (by rfl) _ _ _ (by rfl) 94 i0 _ 3 24 underlyingPks hi0 hz0 hz1 hz2 rfl (by omega) lk L.length ck (L.flatMap pkVs) (by rfl) (HRB.out.upd ((Upd.refl [] wb).drew) (by simp)) lo x.r.L.length lc (x.r.L.flatMap pkVs) (by rfl) HSR.out.drew HBN.out.1 HBN.out.2 ?_; intro ao3 cap3 w7 hA3; have HA3 := Lib.hid hA3; clear hA3; have hB7 := Blk.upd (w := wb.drew) HBB.out HA3.out.upd HBX.out; have u7 := hB7.cell (j := 7) rfl; have lu := hB7.lt; have fu := hB7.free 7; clear hB7)
                      all_goals go_wp2_with fail
                      all_goals exact ⟨⟨k + 1, x.r.e, L ++ x.r.L, ao3, cap3, by congr 1, by omega, NearK.app HBB.out HUW.out HBD.out HKV.out.new HA3.out HK.out.len HXK.out⟩, by first | (simp [intOf]; done) | (simp [intOf]; omega)⟩
                    · have t5 : (x.place == pp) = false := by simp [c2]
                      clear c1 c2
                      go_wp2_with fail
                      go_quiet (fail)
                      go_wp2_with fail
                      exact ⟨⟨k + 1, ek, L, lk, ck, by congr 1, by omega, HK.out.next ((Upd.refl [] wr).drewN _)⟩, by first | (simp [intOf]; done) | (simp [intOf]; omega)⟩
                  · have t4 : (x.who == pw) = false := by simp [c1]
                    clear c1
                    go_wp2_with fail
                    go_quiet (fail)
                    go_wp2_with fail
                    exact ⟨⟨k + 1, ek, L, lk, ck, by congr 1, by omega, HK.out.next ((Upd.refl [] wr).drewN _)⟩, by first | (simp [intOf]; done) | (simp [intOf]; omega)⟩
                · have r1 : decide (k < nx) = false := by simp; omega
                  have hkn : k = nx := by omega
                  subst hkn
                  clear hkx
                  obtain ⟨i0, hi0, hz0, hz1, hz2⟩ := info_parts infoDn_
                  have hsrc : Src (wr.alloc (.cells #[.int .i64 pw, .int .i64 pp, .int .i64 6, .int .i64 d.c.flow, .int .i64 d.c.a, .int .i64 d.c.b, .int .i64 ek, .slice lk L.length ck, .int .i64 0, .int .u64 0, .int .i64 mf, .int .i64 tl] 60)) 12 (some ⟨wr.heap.size, 0, none⟩) 1 [.int .i64 pw, .int .i64 pp, .int .i64 6, .int .i64 d.c.flow, .int .i64 d.c.a, .int .i64 d.c.b, .int .i64 ek, .slice lk L.length ck, .int .i64 0, .int .u64 0, .int .i64 mf, .int .i64 tl] := one_src wr 60 [.int .i64 pw, .int .i64 pp, .int .i64 6, .int .i64 d.c.flow, .int .i64 d.c.a, .int .i64 d.c.b, .int .i64 ek, .slice lk L.length ck, .int .i64 0, .int .u64 0, .int .i64 mf, .int .i64 tl] (by intro u hu; simp only [List.mem_cons, List.not_mem_nil, or_false] at hu; rcases hu with rfl | rfl | rfl | rfl | rfl | rfl | rfl | rfl | rfl | rfl | rfl | rfl <;> rfl) 12 rfl
                  have hq3 : Upd [] wr (wr.alloc (.cells #[.int .i64 pw, .int .i64 pp, .int .i64 6, .int .i64 d.c.flow, .int .i64 d.c.a, .int .i64 d.c.b, .int .i64 ek, .slice lk L.length ck, .int .i64 0, .int .u64 0, .int .i64 mf, .int .i64 tl] 60)) := (Upd.refl [] wr).alloc _
                  obtain ⟨v3, hv3⟩ : ∃ y, wr.alloc (.cells #[.int .i64 pw, .int .i64 pp, .int .i64 6, .int .i64 d.c.flow, .int .i64 d.c.a, .int .i64 d.c.b, .int .i64 ek, .slice lk L.length ck, .int .i64 0, .int .u64 0, .int .i64 mf, .int .i64 tl] 60) = y := ⟨_, rfl⟩
                  rw [hv3] at hsrc hq3
                  have HSRC := Lib.hid hsrc
                  have HQ := Lib.hid hq3
                  have HQO : Hid (Upd [] wo v3) := HK.out.upd.trans hq3
                  have HRW := Lib.hid (HY.out.row.upd HQO.out (by simp))
                  have HBN : Hid (j + 1 ≤ maxLen ∧ (j + 1) * 112 ≤ 140737488355328) := ⟨by unfold maxLen; omega, by omega⟩
                  have HDN : Hid (DneAt v3 ⟨pw, pp, ⟨6, d.c.flow, d.c.a, d.c.b⟩, ⟨ek, L, 0, 0⟩, .slice lk L.length ck, mf, tl⟩ ∧ (∀ c ∈ lvB (.slice lk L.length ck), wo.heap.size ≤ c ∧ c < v3.heap.size) ∧ L.length ≤ 12 * bigR) := by
                    have hrow := HK.out.row.upd hq3 (by simp)
                    refine ⟨hrow.sl, fun c hc => ⟨?_, hrow.sl.lvB_lt c hc⟩, Nat.le_trans HK.out.len (Nat.mul_le_mul_right _ hi12)⟩
                    have hcb : c ∈ blkO lk := by
                      cases lk with
                      | none => simp [lvB] at hc
                      | some a => cases hLl : L.length with
                        | zero => rw [hLl] at hc; simp [lvB] at hc
                        | succ t => rw [hLl] at hc; simpa [lvB, blkO] using hc
                    have := HK.out.new c hcb
                    have := HBD.out
                    omega
                  clear hsrc hq3
                  go_wp2_with (at_builtin; (refine wpList_app2 _ (by rfl) _ _ _ (by rfl) 60 i0 _ 12 112 underlyingDns_ hi0 hz0 hz1 hz2 rfl (by omega) aoy j capy (Y.flatMap dnVs) (by rfl) HRW.out (some ⟨wr.heap.size, 0, none⟩) 1 1 [.int .i64 pw, .int .i64 pp, .int .i64 6, .int .i64 d.c.flow, .int .i64 d.c.a, .int .i64 d.c.b, .int .i64 ek, .slice lk L.length ck, .int .i64 0, .int .u64 0, .int .i64 mf, .int .i64 tl] (by rfl) HSRC.out HBN.out.1 HBN.out.2 ?_); (intro ao3 cap3 w7 hA3; have HA3 := Lib.hid hA3; clear hA3))
                  exact ⟨⟨j + 1, ao3, cap3, _, by congr 1, rfl, by rw [HM.out]; omega, by omega, NearY.push (y := ⟨pw, pp, ⟨6, d.c.flow, d.c.a, d.c.b⟩, ⟨ek, L, 0, 0⟩, .slice lk L.length ck, mf, tl⟩) HY.out HQO.out HA3.out HDN.out.1 HDN.out.2.1 HDN.out.2.2⟩, by first | (simp [intOf]; done) | (simp [intOf]; omega)⟩
            · go_upto_region 22 with (fail)
              obtain ⟨wk, hwk⟩ : ∃ y, ((((((we.setCell ⟨bd, 2, none⟩ (.int .i64 6)).setCell ⟨bd, 2, none⟩ (.int .i64 5)).setCell ⟨bd, 6, none⟩ (.int .i64 0)).setCell ⟨bd, 7, none⟩ (.slice none 0 0)).setCell ⟨bd, 8, none⟩ (.int .i64 0)).setCell ⟨bd, 9, none⟩ (.int .u64 0)) = y := ⟨_, rfl⟩
              have hbk : Blk wk bd 60 [.int .i64 pw, .int .i64 pp, .int .i64 5, .int .i64 d.c.flow, .int .i64 d.c.a, .int .i64 d.c.b, .int .i64 0, .slice none 0 0, .int .i64 0, .int .u64 0, .int .i64 mf, .int .i64 tl] := by rw [← hwk]; exact ((((((HBE.out.set 2 _).set 2 _).set 6 _).set 7 _).set 8 _).set 9 _)
              have huk : Upd [] wr wk := by rw [← hwk]; exact ((((((HUE.out.setCell (.inr (Nat.le_of_eq HBD.out)) _).setCell (.inr (Nat.le_of_eq HBD.out)) _).setCell (.inr (Nat.le_of_eq HBD.out)) _).setCell (.inr (Nat.le_of_eq HBD.out)) _).setCell (.inr (Nat.le_of_eq HBD.out)) _).setCell (.inr (Nat.le_of_eq HBD.out)) _)
              rw [hwk]
              clear y2 y6 y7 y8 y9 e2 e6 e7 e8 e9 ly hwk
              obtain ⟨wo, rfl⟩ : ∃ y : World, y = wr := ⟨_, rfl⟩
              have HKK : Hid (NearK wo wk bd 0 pw pp 5 d.c.flow d.c.a d.c.b 0 mf tl [] none 0) := ⟨hbk, RowO.nil _ _ _, by simp, (fun c hc => by cases hc), huk⟩
              clear hbk huk
              go_loopw [13] (fun kv wr => NearKAt wo bd nx pw pp 5 d.c.flow d.c.a d.c.b mf tl kv wr) (fun kv _ => nx - (intOf kv).toNat)
              case atStart => exact ⟨0, 0, [], none, 0, rfl, Nat.zero_le _, HKK.out⟩
              case round =>
                obtain ⟨k, ek, L, lk, ck, rfl, hk, hK⟩ := hrel
                have HK := Lib.hid hK
                have hbq := hK.blk
                have q0 := hbq.cell (j := 0) rfl
                have q1 := hbq.cell (j := 1) rfl
                have q2 := hbq.cell (j := 2) rfl
                have q3 := hbq.cell (j := 3) rfl
                have q4 := hbq.cell (j := 4) rfl
                have q5 := hbq.cell (j := 5) rfl
                have q6 := hbq.cell (j := 6) rfl
                have q7 := hbq.cell (j := 7) rfl
                have q8 := hbq.cell (j := 8) rfl
                have q9 := hbq.cell (j := 9) rfl
                have qa := hbq.cell (j := 10) rfl
                have qb := hbq.cell (j := 11) rfl
                have lq := hbq.lt
                have e6 := hbq.free 6
                clear hK hbq
                by_cases hkx : k < nx
                · have r1 : decide (k < nx) = true := by simp [hkx]
                  have r2 : (k : Int) < (nx : Int) := by omega
                  have r3 : k + 1 ≤ 9223372036854775807 := by omega
                  obtain ⟨x, hx⟩ : ∃ x, X[k]? = some x := ⟨_, List.getElem?_eq_getElem (by rw [HXN.out]; exact hkx)⟩
                  have hxl := HXL.out x (List.mem_of_getElem? hx)
                  obtain ⟨-, _, _, e1, hat⟩ := pts_at (HPX.out.upd HUY.out)
                  rw [HXN.out] at e1
                  cases e1
                  obtain ⟨gx, ox, rfl, lo1, hpt, x0, x1, x2, x3, x4, x5, x6⟩ := hat k x hx
                  have nbd : gx ≠ bd := by have := HBD.out; omega
                  have huk := HK.out.upd
                  replace x1 := (huk.cell lo1 (by simp) _).trans x1
                  replace x2 := (huk.cell lo1 (by simp) _).trans x2
                  replace x3 := (huk.cell lo1 (by simp) _).trans x3
                  replace x4 := (huk.cell lo1 (by simp) _).trans x4
                  have lx := Nat.lt_of_lt_of_le lo1 huk.size
                  have HPT := Lib.hid hpt
                  obtain ⟨lo, lc, hlv, -⟩ := hpt
                  have hps := HPT.out
                  unfold PtAt at hps
                  rw [hlv] at x4 hps
                  have HPS := Lib.hid hps
                  have HXK := Lib.hid hxl
                  clear hat hlv hx hps hxl HPT huk lo1 q2 q3 q4 q5 q8 q9 qa qb x0 x5 x6
                  by_cases c1 : x.who = pw
                  · have t4 : (x.who == pw) = true := by simp [c1]
                    by_cases c2 : x.place = pp
                    · have t5 : (x.place == pp) = true := by simp [c2]
                      clear c1 c2
                      go_wp2_with fail
                      go_quiet (fail)
                      obtain ⟨wv, hwv⟩ : ∃ y, wr.drewN nq = y := ⟨_, rfl⟩
                      have uv : Upd [] wr wv := by rw [← hwv]; exact (Upd.refl [] wr).drewN _
                      have HKV := Lib.hid (HK.out.next uv)
                      have HUV := Lib.hid uv
                      rw [hwv]
                      have g3 := (uv.cell lx (by simp) (ox + k * 7 + 3)).trans x3
                      have g4 := (uv.cell lx (by simp) (ox + k * 7 + 4)).trans x4
                      have lg := Nat.lt_of_lt_of_le lx uv.size
                      have p6 := (uv.cell lq (by simp) 6).trans q6
                      have p7 := (uv.cell lq (by simp) 7).trans q7
                      have lp := Nat.lt_of_lt_of_le lq uv.size
                      have f6 := (uv.frozen lq (by simp) 6).trans e6
                      clear uv hwv x1 x2 x3 x4 lx q0 q1 q6 q7 lq e6
                      go_upto_region 26 with (fail)
                      obtain ⟨wb, hwb⟩ : ∃ y, wv.setCell ⟨bd, 6, none⟩ (.int .i64 x.r.e) = y := ⟨_, rfl⟩
                      have hbb : Blk wb bd 60 [.int .i64 pw, .int .i64 pp, .int .i64 5, .int .i64 d.c.flow, .int .i64 d.c.a, .int .i64 d.c.b, .int .i64 x.r.e, .slice lk L.length ck, .int .i64 0, .int .u64 0, .int .i64 mf, .int .i64 tl] := by rw [← hwb]; exact HKV.out.blk.set 6 _
                      have hub : Upd [bd] wv wb := by rw [← hwb]; exact (Upd.refl [bd] wv).setCell (.inl (by simp)) _
                      have hbx : bd ∉ blkO lk := fun hm => by have := HKV.out.new bd hm; omega
                      have HRB : Hid (RowO wb 94 3 lk L.length ck (L.flatMap pkVs)) := HKV.out.row.upd hub (fun c hc e => by simp only [List.mem_cons, List.not_mem_nil, or_false] at e; exact hbx (e ▸ hc))
                      rw [hwb]
                      have HBB := Lib.hid hbb
                      have HUB := Lib.hid hub
                      have HSB : Hid (SlAt wb 3 (.slice lo x.r.L.length lc) x.r.L.length (x.r.L.flatMap pkVs)) := ((HPS.out.upd (HK.out.upd.trans HUV.out)).updS hub (fun c hc e => by simp only [List.mem_cons, List.not_mem_nil, or_false] at e; have := HPS.out.lvB_lt c hc; have := HBD.out; omega))
                      have HSR : Hid (Src wb 3 lo x.r.L.length (x.r.L.flatMap pkVs)) := HSB.out.src (fun u hu => by obtain ⟨p, _, hp⟩ := List.mem_flatMap.1 hu; exact pkVs_one p u hp)
                      have hlen := HK.out.len
                      have hkb : k * bigR ≤ 11 * bigR := Nat.mul_le_mul_right _ (by omega)
                      have HBN : Hid (L.length + x.r.L.length ≤ maxLen ∧ (L.length + x.r.L.length) * 24 ≤ 140737488355328) := by have := HXK.out; unfold bigR at *; unfold maxLen; exact ⟨by omega, by omega⟩
                      have v7 := hbb.cell (j := 7) rfl
                      have lv := hbb.lt
                      have fv := hbb.free 7
                      have g4 := (hub.cell lg (by simpa using nbd) (ox + k * 7 + 4)).trans g4
                      have lg := Nat.lt_of_lt_of_le lg hub.size
                      obtain ⟨i0, hi0, hz0, hz1, hz2⟩ := info_parts infoPk
                      have HBX := Lib.hid hbx
                      have HUW : Hid (Upd [] wo wb) := HKV.out.upd.then hub (fun _ _ h => h) (fun a ha hm => by simp only [List.mem_cons, List.not_mem_nil, or_false] at hm; have := HBD.out; omega)
                      clear hbb hub hbx hwb hlen hkb g3 p6 p7 lp f6
                      go_region_law (refine step_app2 _ (by rfl) _ _ _ (by rfl) 94 i0 _ 3 24 underlyingPks hi0 hz0 hz1 hz2 rfl (by omega) lk L.length ck (L.flatMap pkVs) (by rfl) (HRB.out.upd ((Upd.refl [] wb).drew) (by simp)) lo x.r.L.length lc (x.r.L.flatMap pkVs) (by rfl) HSR.out.drew HBN.out.1 HBN.out.2 ?_; intro ao3 cap3 w7 hA3; have HA3 := Lib.hid hA3; clear hA3; have hB7 := Blk.upd (w := wb.drew) HBB.out HA3.out.upd HBX.out; have u7 := hB7.cell (j := 7) rfl; have lu := hB7.lt; have fu := hB7.free 7; clear hB7)
                      all_goals go_wp2_with fail
                      all_goals exact ⟨⟨k + 1, x.r.e, L ++ x.r.L, ao3, cap3, by congr 1, by omega, NearK.app HBB.out HUW.out HBD.out HKV.out.new HA3.out HK.out.len HXK.out⟩, by first | (simp [intOf]; done) | (simp [intOf]; omega)⟩
                    · have t5 : (x.place == pp) = false := by simp [c2]
                      clear c1 c2
                      go_wp2_with fail
                      go_quiet (fail)
                      go_wp2_with fail
                      exact ⟨⟨k + 1, ek, L, lk, ck, by congr 1, by omega, HK.out.next ((Upd.refl [] wr).drewN _)⟩, by first | (simp [intOf]; done) | (simp [intOf]; omega)⟩
                  · have t4 : (x.who == pw) = false := by simp [c1]
                    clear c1
                    go_wp2_with fail
                    go_quiet (fail)
                    go_wp2_with fail
                    exact ⟨⟨k + 1, ek, L, lk, ck, by congr 1, by omega, HK.out.next ((Upd.refl [] wr).drewN _)⟩, by first | (simp [intOf]; done) | (simp [intOf]; omega)⟩
                · have r1 : decide (k < nx) = false := by simp; omega
                  have hkn : k = nx := by omega
                  subst hkn
                  clear hkx
                  obtain ⟨i0, hi0, hz0, hz1, hz2⟩ := info_parts infoDn_
                  have hsrc : Src (wr.alloc (.cells #[.int .i64 pw, .int .i64 pp, .int .i64 5, .int .i64 d.c.flow, .int .i64 d.c.a, .int .i64 d.c.b, .int .i64 ek, .slice lk L.length ck, .int .i64 0, .int .u64 0, .int .i64 mf, .int .i64 tl] 60)) 12 (some ⟨wr.heap.size, 0, none⟩) 1 [.int .i64 pw, .int .i64 pp, .int .i64 5, .int .i64 d.c.flow, .int .i64 d.c.a, .int .i64 d.c.b, .int .i64 ek, .slice lk L.length ck, .int .i64 0, .int .u64 0, .int .i64 mf, .int .i64 tl] := one_src wr 60 [.int .i64 pw, .int .i64 pp, .int .i64 5, .int .i64 d.c.flow, .int .i64 d.c.a, .int .i64 d.c.b, .int .i64 ek, .slice lk L.length ck, .int .i64 0, .int .u64 0, .int .i64 mf, .int .i64 tl] (by intro u hu; simp only [List.mem_cons, List.not_mem_nil, or_false] at hu; rcases hu with rfl | rfl | rfl | rfl | rfl | rfl | rfl | rfl | rfl | rfl | rfl | rfl <;> rfl) 12 rfl
                  have hq3 : Upd [] wr (wr.alloc (.cells #[.int .i64 pw, .int .i64 pp, .int .i64 5, .int .i64 d.c.flow, .int .i64 d.c.a, .int .i64 d.c.b, .int .i64 ek, .slice lk L.length ck, .int .i64 0, .int .u64 0, .int .i64 mf, .int .i64 tl] 60)) := (Upd.refl [] wr).alloc _
                  obtain ⟨v3, hv3⟩ : ∃ y, wr.alloc (.cells #[.int .i64 pw, .int .i64 pp, .int .i64 5, .int .i64 d.c.flow, .int .i64 d.c.a, .int .i64 d.c.b, .int .i64 ek, .slice lk L.length ck, .int .i64 0, .int .u64 0, .int .i64 mf, .int .i64 tl] 60) = y := ⟨_, rfl⟩
                  rw [hv3] at hsrc hq3
                  have HSRC := Lib.hid hsrc
                  have HQ := Lib.hid hq3
                  have HQO : Hid (Upd [] wo v3) := HK.out.upd.trans hq3
                  have HRW := Lib.hid (HY.out.row.upd HQO.out (by simp))
                  have HBN : Hid (j + 1 ≤ maxLen ∧ (j + 1) * 112 ≤ 140737488355328) := ⟨by unfold maxLen; omega, by omega⟩
                  have HDN : Hid (DneAt v3 ⟨pw, pp, ⟨5, d.c.flow, d.c.a, d.c.b⟩, ⟨ek, L, 0, 0⟩, .slice lk L.length ck, mf, tl⟩ ∧ (∀ c ∈ lvB (.slice lk L.length ck), wo.heap.size ≤ c ∧ c < v3.heap.size) ∧ L.length ≤ 12 * bigR) := by
                    have hrow := HK.out.row.upd hq3 (by simp)
                    refine ⟨hrow.sl, fun c hc => ⟨?_, hrow.sl.lvB_lt c hc⟩, Nat.le_trans HK.out.len (Nat.mul_le_mul_right _ hi12)⟩
                    have hcb : c ∈ blkO lk := by
                      cases lk with
                      | none => simp [lvB] at hc
                      | some a => cases hLl : L.length with
                        | zero => rw [hLl] at hc; simp [lvB] at hc
                        | succ t => rw [hLl] at hc; simpa [lvB, blkO] using hc
                    have := HK.out.new c hcb
                    have := HBD.out
                    omega
                  clear hsrc hq3
                  go_wp2_with (at_builtin; (refine wpList_app2 _ (by rfl) _ _ _ (by rfl) 60 i0 _ 12 112 underlyingDns_ hi0 hz0 hz1 hz2 rfl (by omega) aoy j capy (Y.flatMap dnVs) (by rfl) HRW.out (some ⟨wr.heap.size, 0, none⟩) 1 1 [.int .i64 pw, .int .i64 pp, .int .i64 5, .int .i64 d.c.flow, .int .i64 d.c.a, .int .i64 d.c.b, .int .i64 ek, .slice lk L.length ck, .int .i64 0, .int .u64 0, .int .i64 mf, .int .i64 tl] (by rfl) HSRC.out HBN.out.1 HBN.out.2 ?_); (intro ao3 cap3 w7 hA3; have HA3 := Lib.hid hA3; clear hA3))
                  exact ⟨⟨j + 1, ao3, cap3, _, by congr 1, rfl, by rw [HM.out]; omega, by omega, NearY.push (y := ⟨pw, pp, ⟨5, d.c.flow, d.c.a, d.c.b⟩, ⟨ek, L, 0, 0⟩, .slice lk L.length ck, mf, tl⟩) HY.out HQO.out HA3.out HDN.out.1 HDN.out.2.1 HDN.out.2.2⟩, by first | (simp [intOf]; done) | (simp [intOf]; omega)⟩
          · have HPY := Lib.hid HY.out.at_
            have HYL : Hid (∀ d ∈ Y, d.r.L.length ≤ 1099511627776) := fun d hd => by have := (HY.out.sl d hd).2.2; unfold bigR at this; omega
            have HXX := Lib.hid (HPX.out.upd HUY.out)
            have HUW : Hid (Upd [] w wr) := HUX.out.trans HUY.out
            by_cases h5 : j < m
            · have s1 : decide (j < m) = true := by simp [h5]
              have s2 : decide (j < 4) = false := by simp; omega
              have s3 : decide ((j : Int) < 4) = false := by simp; omega
              clear hlt2 h5
              go_wp2_with fail
              refine (awake27_any _).mono ?_
              rintro e w2 ⟨rfl, hu2⟩
              have HU2 := Lib.hid hu2
              clear hu2
              go_wp2_with fail
              obtain ⟨wp, hwp⟩ : ∃ y, withinP X Y = y := ⟨_, rfl⟩
              have HW1 := Lib.hid (fun (w2 : World) (hu : Upd [] wr w2) => wwithin_any (HXX.out.upd hu) (HPY.out.upd hu) (by have := HXN.out; omega) HYL.out)
              have HW2 := Lib.hid (fun (w2 : World) (hu : Upd [] wr w2) => dwithin_any (HXX.out.upd hu) (HPY.out.upd hu) (by have := HXN.out; omega) HYL.out)
              rw [hwp] at HW1 HW2
              clear hwp
              refine (HW1.out _ HU2.out).mono ?_
              rintro e w3 ⟨rfl, hu3⟩
              have HU3 := Lib.hid (HU2.out.trans hu3)
              clear hu3
              go_wp2_with fail
              refine (HW2.out _ HU3.out).mono ?_
              rintro e w4 ⟨rfl, hu4⟩
              have HU4 := Lib.hid (HU3.out.trans hu4)
              clear hu4
              have hw0 : (wp == wp) = true := by simp
              go_wp2_with fail
              go_ret
              exact ⟨rfl, HUW.out.trans HU4.out⟩
            · have s1 : decide (j < m) = false := by simp; omega
              clear hlt2 h5
              go_wp2_with fail
              refine (awake27_any _).mono ?_
              rintro e w2 ⟨rfl, hu2⟩
              have HU2 := Lib.hid hu2
              clear hu2
              go_wp2_with fail
              obtain ⟨wp, hwp⟩ : ∃ y, withinP X Y = y := ⟨_, rfl⟩
              have HW1 := Lib.hid (fun (w2 : World) (hu : Upd [] wr w2) => wwithin_any (HXX.out.upd hu) (HPY.out.upd hu) (by have := HXN.out; omega) HYL.out)
              have HW2 := Lib.hid (fun (w2 : World) (hu : Upd [] wr w2) => dwithin_any (HXX.out.upd hu) (HPY.out.upd hu) (by have := HXN.out; omega) HYL.out)
              rw [hwp] at HW1 HW2
              clear hwp
              refine (HW1.out _ HU2.out).mono ?_
              rintro e w3 ⟨rfl, hu3⟩
              have HU3 := Lib.hid (HU2.out.trans hu3)
              clear hu3
              go_wp2_with fail
              refine (HW2.out _ HU3.out).mono ?_
              rintro e w4 ⟨rfl, hu4⟩
              have HU4 := Lib.hid (HU3.out.trans hu4)
              clear hu4
              have hw0 : (wp == wp) = true := by simp
              go_wp2_with fail
              go_ret
              exact ⟨rfl, HUW.out.trans HU4.out⟩
end Go.Proofs.Ytmfndemnogpmcaa
