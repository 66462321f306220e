/-
  The walk of the statements' Trace: what it tells plays. No condition.
-/
import Derived.Test.YtfeobcmcellcpaaGreatRb0
import Derived.Test.YtfeobcmcellcpaaGreatPf
import Derived.Test.YtfeobcmcellcpaaGreatNb
import Derived.Test.YtfeobcmcellcpaaGreatMn
import Derived.Test.YtfeobcmcellcpaaGreatPB
import Derived.Deep.DeepCutAuto
set_option linter.unusedVariables false
set_option linter.unusedSimpArgs false
namespace Go.Proofs.YtfeobcmcellcpaaGreat
open Go.RowKit

theorem tn_cells {w : World} {v : Value} {n : Nat} {D : Nat → Nat → Int} (h : RowsAt w [.i64] v n D) : ∃ ao cap, v = .slice ao n cap ∧ n ≤ maxLen ∧ (n = 0 ∨ ∃ b off, ao = some ⟨b, off, none⟩ ∧ b < w.heap.size ∧
    ∀ i, i < n → w.cell? ⟨b, off + i, none⟩ = some (.int .i64 (D i 0))) := by
  obtain ⟨ao, cap, hv, hm, h | ⟨b, off, ha, hb, hc⟩⟩ := h
  · exact ⟨ao, cap, hv, hm, .inl h⟩
  · exact ⟨ao, cap, hv, hm, .inr ⟨b, off, ha, hb, fun i hi => by simpa using (hc i hi 0 _ rfl).1⟩⟩
def TrAt (w w0 : World) (mb ba bl n : Nat) (p : Pl) (G0 : List Nat) (most : Nat) (ov sv iv : Value) (wr : World) : Prop :=
  ∃ (i : Nat) (s : Int) (ao : Option Addr) (k cap : Nat) (X : List Pt) (m : Ms) (G : List Nat) (va vl : List Int), iv = .int .i64 i ∧ sv = .int .i64 s ∧ ov = .slice ao k cap ∧ i ≤ most ∧ TrS w w0 wr mb ba bl n p G0 i s ao k cap X m G va vl
theorem row_in {w : World} {b n : Nat} {va : List Int} (h : Row w 3 1 b n n (va.flatMap inV)) {j : Nat} {a : Int} (ha : va[j]? = some a) : w.cell? ⟨b, j, none⟩ = some (.int .i64 a) :=
  h.cell (by have := flat_get inV 1 inV_len va j 0 (by omega) a ha; rw [Nat.mul_one, Nat.add_zero] at this; rw [this]; rfl)
theorem row_put {w : World} {b n : Nat} {va : List Int} (h : Row w 3 1 b n n (va.flatMap inV)) {j : Nat} {a : Int} (ha : va[j]? = some a) (x : Int) : Row (w.setCell ⟨b, j, none⟩ (.int .i64 x)) 3 1 b n n ((va.set j x).flatMap inV) := by
  have h1 := h.set j (.int .i64 x)
  have h2 := flat_set inV 1 inV_len va j a x ha 0 (.int .i64 x) (by omega) rfl
  rw [Nat.mul_one, Nat.add_zero] at h2
  rw [h2] at h1
  exact h1
theorem made_ints (n : Nat) : (madeCells (Value.int .i64 0).cells (n * 1)).toList = (List.replicate n (0 : Int)).flatMap inV := made_flatG inV 1 inV_len 0 n
theorem tr_set {vl : List Int} (h : ∀ y ∈ vl, 0 ≤ y ∧ y ≤ 16) {x : Int} (hx : 0 ≤ x ∧ x ≤ 16) (j : Nat) : ∀ y ∈ vl.set j x, 0 ≤ y ∧ y ≤ 16 := fun y hy => by
  rcases List.mem_or_eq_of_mem_set hy with e | e
  · exact h y e
  · rw [e]; exact hx
theorem tr_set0 {vl : List Int} (h : ∀ y ∈ vl, 0 ≤ y) {x : Int} (hx : 0 ≤ x) (j : Nat) : ∀ y ∈ vl.set j x, 0 ≤ y := fun y hy => by
  rcases List.mem_or_eq_of_mem_set hy with e | e
  · exact h y e
  · rw [e]; exact hx
theorem tr_nat {v9 : Nat} (h : v9 ≤ 15) : (0 ≤ (v9 : Int) ∧ (v9 : Int) ≤ 16) ∧ (0 ≤ (v9 : Int) + 1 ∧ (v9 : Int) + 1 ≤ 16) := by omega
theorem tr_succ (a : Nat) : 0 ≤ (a : Int) + 1 := by omega
theorem tr_two {a b c : Nat} (h1 : a ≠ c) (h2 : b ≠ c) : c ∉ [a, b] := by simp; omega
theorem tr_bd {k i most : Nat} (h1 : k ≤ i) (h2 : i ≤ most) (h3 : most ≤ 60) : k + 1 ≤ maxLen ∧ (k + 1) * 72 ≤ 140737488355328 := ⟨by unfold maxLen; omega, by omega⟩
theorem tr_far {c s bx ba bl : Nat} {G : List Nat} (h3 : c ∉ ba :: bl :: G) (h4 : c < s) (h5 : s ≤ bx) : c ∉ [bx, bl, ba] ∧ c ∉ [bx, bl] ∧ c ∉ [bx, ba] := by
  simp only [List.mem_cons, not_or] at h3
  simp
  omega
theorem tr_new {b s bx ba bl : Nat} (h : s ≤ b) (h1 : bx < s) (h2 : ba < s) (h3 : bl < s) : b ∉ [bx, bl, ba] ∧ b ∉ [bx, bl] ∧ b ∉ [bx, ba] := by
  simp
  omega
theorem tr_T {bx ba bl s t : Nat} (h : s ≤ bx ∧ bx < t) : (∀ c ∈ [bx, bl, ba], c = ba ∨ c = bl ∨ (s ≤ c ∧ c < t)) ∧ (∀ c ∈ [bx, bl], c = ba ∨ c = bl ∨ (s ≤ c ∧ c < t)) ∧ (∀ c ∈ [bx, ba], c = ba ∨ c = bl ∨ (s ≤ c ∧ c < t)) := by
  refine ⟨fun c hc => ?_, fun c hc => ?_, fun c hc => ?_⟩ <;> simp only [List.mem_cons, List.not_mem_nil, or_false] at hc <;> omega
theorem tr_meas {i most : Nat} (h : i < most) : most - (intOf (.int .i64 ((i : Int) + 1))).toNat < most - (intOf (.int .i64 (i : Int))).toNat := by
  simp [intOf]; omega
theorem tr_mn {n i most : Nat} (h : n ≤ 16 * i) (h2 : i ≤ most) (h3 : most ≤ 60) : n ≤ 4611686018427387904 := by omega
theorem tr_lt {a b c d : Nat} (h1 : a < b) (h2 : b ≤ c) (h3 : c ≤ d) : a < d := by omega
theorem tr_cases (v9 : Nat) (re : Int) : ((v9 == 0) = true ∧ ((v9 : Int) == 0) = true) ∨ ((v9 == 0) = false ∧ ((v9 : Int) == 0) = false ∧ (re == 10) = true) ∨ ((v9 == 0) = false ∧ ((v9 : Int) == 0) = false ∧ (re == 10) = false) := by
  by_cases h : v9 = 0
  · left; simp [h]
  · right
    by_cases h2 : re = 10
    · left; simp [h, h2]
    · right; simp [h, h2]
theorem tr_wrap {v9 : Nat} (h : v9 ≤ 15) : wrap64 ((v9 : Int) + 1 - 1) = (v9 : Int) ∧ IntKind.i64.wrap ((v9 : Int) + 1 - 1) = (v9 : Int) ∧ wrap64 (v9 : Int) = (v9 : Int) ∧ IntKind.i64.wrap (v9 : Int) = (v9 : Int) := by
  simp only [IntKind.wrap_i64]
  unfold wrap64
  omega

/-- A call that is no batch is told as it is. -/
theorem trace_call {L : List Li} {c : Cf} {m : Ms} {q : Cl} {x : Li} {st : Int} {j a : Nat} {lv : Value} (hx : L[j]? = some x) (hc : x.L[a]? = some q) (h : ¬ (q.op = 5 ∧ 1 ≤ q.a ∧ q.a ≤ 16)) : callP L ⟨st, j, a, (doM c m q).1, lv⟩ = some q := by
  rw [callP_at2 (x := ⟨st, j, a, (doM c m q).1, lv⟩) rfl hx rfl hc]
  by_cases h5 : q.op = 5
  · have : (doM c m q).1.e = 1 := by
      unfold doM batchM
      rw [if_neg (by omega), if_neg (by omega), if_neg (by omega), if_neg (by omega), if_pos h5, if_pos (by omega)]; rfl
    rw [if_neg (fun h' => h'.2 this)]
  · rw [if_neg (fun h' => h5 h'.1)]
theorem trace_part {L : List Li} {c : Cf} {m : Ms} {q : Cl} {x : Li} {st : Int} {j a : Nat} {lv : Value} (hx : L[j]? = some x) (hc : x.L[a]? = some q) (h : q.op = 5) : callP L ⟨st, j, a, (doM c m ⟨4, 0, 0, 0⟩).1, lv⟩ = some ⟨4, 0, 0, 0⟩ := by
  rw [callP_at2 (x := ⟨st, j, a, (doM c m ⟨4, 0, 0, 0⟩).1, lv⟩) rfl hx rfl hc]
  have : (doM c m ⟨4, 0, 0, 0⟩).1 = (oneM m).1 := rfl
  rw [if_pos ⟨h, by show (doM c m ⟨4, 0, 0, 0⟩).1.e ≠ 1; rw [this]; have := (oneM_bd m).2.2; omega⟩]

set_option maxRecDepth 100000 in
set_option maxHeartbeats 16000000 in
theorem trace_some {w : World} {pv tv : Value} {p : Pl} {tn : Nat} {T : Nat → Nat → Int} (hp : PlanAt w pv p) (hr : rightC p.c = true) (ht : RowsAt w [.i64] tv tn T) (most : Nat) (hm : most ≤ 60) (hn1 : 1 ≤ p.L.length) (hn6 : p.L.length ≤ 6) : Calls Tryz.prog 12 #[pv, tv, .int .i64 most] w (TrTo w p most) := by
  have HP := Lib.hid hp
  obtain ⟨lv, rfl, hL⟩ := hp
  have HLS := Lib.hid hL
  obtain ⟨-, aop, capp, rfl, -⟩ := lists_at hL
  obtain ⟨aot, capt, rfl, htm, htc⟩ := tn_cells ht
  have HTC := Lib.hid htc
  have bt : tn ≤ 9223372036854775807 := htm
  obtain ⟨n, hn⟩ : ∃ n, p.L.length = n := ⟨_, rfl⟩
  have HN := Lib.hid hn
  rw [hn] at hn1 hn6 ⊢
  obtain ⟨wp, hwp⟩ : ∃ y, w.alloc (.cells #[.int .i64 p.c.sh, .int .i64 p.c.sl, .int .i64 p.c.wo, .int .i64 p.c.wd, .int .u64 p.c.unit, .slice aop n capp] 29) = y := ⟨_, rfl⟩
  have hup : Upd [] w wp := by rw [← hwp]; exact (Upd.refl [] w).alloc _
  have hbp : Blk wp w.heap.size 29 [.int .i64 p.c.sh, .int .i64 p.c.sl, .int .i64 p.c.wo, .int .i64 p.c.wd, .int .u64 p.c.unit, .slice aop n capp] := by rw [← hwp]; exact Blk.new w 29 [.int .i64 p.c.sh, .int .i64 p.c.sl, .int .i64 p.c.wo, .int .i64 p.c.wd, .int .u64 p.c.unit, .slice aop n capp]
  obtain ⟨bp, hbp0⟩ : ∃ y, w.heap.size = y := ⟨_, rfl⟩
  rw [hbp0] at hbp
  have HUP := Lib.hid hup
  have HBP := Lib.hid hbp
  have HW : Hid (w.heap.size = bp) := hbp0
  have HNEW : Hid (Calls Tryz.prog 41 #[.agg #[.int .i64 p.c.sh, .int .i64 p.c.sl, .int .i64 p.c.wo, .int .i64 p.c.wd, .int .u64 p.c.unit]] wp (DNewTo w p.c wp)) := dmnew_any p.c hr hup.size
  have z0 := hbp.cell (j := 0) rfl
  have z1 := hbp.cell (j := 1) rfl
  have z2 := hbp.cell (j := 2) rfl
  have z3 := hbp.cell (j := 3) rfl
  have z4 := hbp.cell (j := 4) rfl
  have lz := hbp.lt
  clear hL ht htc htm hn hup hbp hr
  go_enter Tryz.func12, Tryz.ntmps12
  go_wp2_with fail
  clear hwp hbp0
  refine HNEW.out.mono ?_
  rintro e w3 ⟨mb, G0, rfl, hm0, hu3, hg0⟩
  have HM0 := Lib.hid hm0
  have HU3 := Lib.hid hu3
  have HG0 := Lib.hid hg0
  have hb3 := HBP.out.upd hu3 (by simp)
  have HB3 := Lib.hid hb3
  clear z0 z1 z2 z3 z4 lz hm0 hg0 HNEW
  have z5 := hb3.cell (j := 5) rfl
  have lz := hb3.lt
  clear hb3 hu3
  obtain ⟨i0, hi0, hz0, hz1, hz2⟩ := info_parts infoInt_
  go_upto_region 4 with (fail)
  go_upto_region 5 with (at_make; refine wpList_make_full' _ rfl (.tmp 23) (.tmp 23) 25 rfl 0 3 i0 _ 1 underlyingInts_ hi0 hz0 hz1 .i64 .i64 n n n rfl rfl rfl rfl (by rw [hz2]; omega) (by unfold maxLen; omega) (Nat.zero_le _) ?_; intro w4 hown4 hgrow4 hsize4)
  have hA4 : Row w4 3 1 w3.heap.size n n ((List.replicate n (0 : Int)).flatMap inV) := by have := hown4; rw [made_ints] at this; exact this
  have hu4 : Upd [] w3 w4 := (Upd.refl [] w3).grown hgrow4 (fun k hk => by cases hk)
  obtain ⟨ba, hba⟩ : ∃ y, w3.heap.size = y := ⟨_, rfl⟩
  rw [hba] at hA4 hsize4 ⊢
  have HA4 := Lib.hid hA4
  have HU4 := Lib.hid hu4
  have HSZ4 : Hid (w3.heap.size = ba ∧ w4.heap.size = ba + 1) := ⟨hba, hsize4⟩
  have HB4 := Lib.hid (HB3.out.upd hu4 (by simp))
  clear hown4 hgrow4 hA4 hu4 hba hsize4 z5 lz
  go_wp2_with (at_make; refine wpList_make_full' _ rfl (.tmp 25) (.tmp 25) 25 rfl 0 3 i0 _ 1 underlyingInts_ hi0 hz0 hz1 .i64 .i64 n n n rfl rfl rfl rfl (by rw [hz2]; omega) (by unfold maxLen; omega) (Nat.zero_le _) ?_; intro w5 hown5 hgrow5 hsize5)
  have hL5 : Row w5 3 1 w4.heap.size n n ((List.replicate n (0 : Int)).flatMap inV) := by have := hown5; rw [made_ints] at this; exact this
  have hu5 : Upd [] w4 w5 := (Upd.refl [] w4).grown hgrow5 (fun k hk => by cases hk)
  obtain ⟨bl, hbl⟩ : ∃ y, w4.heap.size = y := ⟨_, rfl⟩
  rw [hbl] at hL5 hsize5 ⊢
  have hbp3 := HB3.out.lt
  have hm0lt := HM0.out.lt
  have hsz4 := HSZ4.out
  have hsp := HUP.out.size
  have hs3 := HU3.out.size
  have hw := HW.out
  have HG : Hid (TrG w w5 mb ba bl G0) := ⟨by omega, ⟨by omega, fun hm => by have := hm0lt _ hm; omega, by omega⟩, ⟨by omega, fun hm => by have := hm0lt _ hm; omega, by omega⟩, fun x hx => ⟨by have := hm0lt _ hx; omega, by have := HG0.out x hx; omega⟩, HUP.out.trans (HU3.out.trans (HU4.out.trans hu5))⟩
  have HS0 : Hid (TrS w w5 w5 mb ba bl n p G0 0 0 none 0 0 [] ms0 G0 (List.replicate n 0) (List.replicate n 0)) := {
    trx := TrX.nil _ _ _
    ki := Nat.le_refl _
    s0 := ⟨by omega, by omega⟩
    run := rfl
    last := fun l hl => by cases hl
    pts := fun x hx => by cases hx
    mod := (HM0.out.upd HU4.out).upd hu5
    g := fun x hx => .inl hx
    mn := Nat.zero_le _
    rowA := HA4.out.upd hu5 (by simp)
    lenA := List.length_replicate
    a0 := fun a ha => by rw [List.eq_of_mem_replicate ha]; exact Int.le_refl _
    rowL := hL5
    lenL := List.length_replicate
    l0 := fun a ha => by rw [List.eq_of_mem_replicate ha]; omega
    upd := Upd.refl _ _ }
  have HB5 := Lib.hid (HB4.out.upd hu5 (by simp))
  have HNB : Hid (bp ∉ ba :: bl :: G0 ∧ bp < ba) := ⟨fun hm => by
    rcases List.mem_cons.1 hm with e | hm
    · omega
    · rcases List.mem_cons.1 hm with e | hm
      · omega
      · have := HG0.out bp hm; have := HBP.out.lt; omega, by omega⟩
  clear hown5 hgrow5 hsize5 hL5 hu5 hbl hbp3 hm0lt hsz4 hsp hs3 hw hi0 hz0 hz1 hz2
  go_loopw [8, 12, 13] (fun ov sv iv wr => TrAt w w5 mb ba bl n p G0 most ov sv iv wr) (fun _ _ iv _ => most - (intOf iv).toNat)
  case atStart => exact ⟨0, 0, none, 0, 0, [], ms0, G0, _, _, rfl, rfl, rfl, Nat.zero_le _, HS0.out⟩
  case round =>
    clear HS0
    obtain ⟨i, s, ao, k, cap, X, m, G, va, vl, rfl, rfl, rfl, hi, hS⟩ := hrel
    have HS := Lib.hid hS
    have HUW := Lib.hid (hS.uw HG.out)
    have n0 : 0 < n := hn1
    have tn0 : decide (0 < n) = true := by simp [n0]
    have tn0' : decide ((0 : Int) < (n : Int)) = true := by simp; omega
    have bn : (0 : Int) < (n : Int) := by omega
    have HSB := Lib.hid hS.s0
    clear hS
    by_cases hlt : i < most
    · have t1 : decide (i < most) = true := by simp [hlt]
      have t1' : decide ((i : Int) < (most : Int)) = true := by simp; omega
      have fin1 : i + 1 ≤ 9223372036854775807 := by omega
      go_upto_if 42 with (fail)
      go_cut [12, 14] (fun s12 s14 wx => ∃ (s' : Int) (j : Nat), s12 = .int .i64 s' ∧ s14 = .int .i64 j ∧ j < n ∧ s ≤ s' ∧ s' ≤ s + 2 ∧ wx = wr)
      case first =>
        by_cases hti : i < tn
        · have t2 : decide (i < tn) = true := by simp [hti]
          have bi : (i : Int) < (tn : Int) := by omega
          rcases HTC.out with h0 | ⟨tb, toff, rfl, ltw, hcc⟩
          · omega
          have c0 := hcc i hti
          rw [← HUW.out.cell ltw (by simp)] at c0
          have lt0 := Nat.lt_of_lt_of_le ltw HUW.out.size
          clear hcc ltw
          obtain ⟨x, hx⟩ : ∃ x, T i 0 = x := ⟨_, rfl⟩
          rw [hx] at c0
          obtain ⟨j, hj, hjn⟩ : ∃ j : Nat, modI x n = j ∧ j < n := ⟨(modI x n).toNat, by have := modI_bd x n (by omega) (by omega); omega, by have := modI_bd x n (by omega) (by omega); omega⟩
          have HMO : Hid (∀ w, Calls Tryz.prog 13 #[.int .i64 x, .int .i64 n] w (fun e w' => e = .returned (.int .i64 j) ∧ w = w')) := fun w => by rw [← hj]; exact mod_any x n (by omega) (by omega) w
          clear hx hj
          obtain ⟨d3, hd3⟩ : ∃ y, modI (wrap64 (x.tdiv 7)) 3 = y := ⟨_, rfl⟩
          have hb3 := modI_bd (wrap64 (x.tdiv 7)) 3 (by omega) (by omega)
          rw [hd3] at hb3
          have HMD : Hid (∀ w, Calls Tryz.prog 13 #[.int .i64 (wrap64 (x.tdiv 7)), .int .i64 3] w (fun e w' => e = .returned (.int .i64 d3) ∧ w = w')) := fun w => by rw [← hd3]; exact mod_any _ 3 (by omega) (by omega) w
          obtain ⟨s9, hs9⟩ : ∃ y, s + d3 = y := ⟨_, rfl⟩
          have HS9 : Hid (s ≤ s9 ∧ s9 ≤ s + 2) := ⟨by omega, by omega⟩
          have ws9 : wrap64 (s + d3) = s9 := by have := HSB.out; unfold wrap64; omega
          clear hd3 hb3 hs9
          go_wp2_with fail
          refine (HMO.out _).mono ?_
          rintro e w9 ⟨rfl, rfl⟩
          go_wp2_with fail
          refine (HMD.out _).mono ?_
          rintro e w9 ⟨rfl, rfl⟩
          go_wp2_with fail
          go_meet
          exact ⟨s9, j, by rw [ws9], rfl, hjn, HS9.out.1, HS9.out.2, rfl⟩
        · have t2 : decide (i < tn) = false := by simp; omega
          go_wp2_with fail
          go_meet
          exact ⟨s, i % n, rfl, by rw [Int.natCast_emod], Nat.mod_lt _ n0, Int.le_refl _, by omega, rfl⟩
      case rest =>
        obtain ⟨s', j, rfl, rfl, hj, hs1, hs2, ewc⟩ := hcut
        subst ewc
        obtain ⟨wd, ewd⟩ : ∃ y : World, y = wc := ⟨_, rfl⟩
        subst ewd
        obtain ⟨s1, hs11⟩ : ∃ y, s' + 1 = y := ⟨_, rfl⟩
        have ws1 : wrap64 (s' + 1) = s1 := by have := HSB.out; unfold wrap64; omega
        have HS1 : Hid (s < s1 ∧ s1 ≤ s + 3) := ⟨by omega, by omega⟩
        have bj : (j : Int) < (n : Int) := by omega
        obtain ⟨a', hva⟩ : ∃ a, va[j]? = some a := ⟨_, List.getElem?_eq_getElem (by rw [HS.out.lenA]; exact hj)⟩
        obtain ⟨a, rfl⟩ : ∃ a : Nat, a' = a := ⟨a'.toNat, by have := HS.out.a0 a' (List.mem_of_getElem? hva); omega⟩
        obtain ⟨x, hx⟩ : ∃ x, p.L[j]? = some x := ⟨_, List.getElem?_eq_getElem (by rw [HN.out]; exact hj)⟩
        obtain ⟨-, _, _, e1, hat⟩ := lists_at HLS.out
        rw [HN.out] at e1
        cases e1
        obtain ⟨gb, go, rfl, lgw, v0, hm2, lo, lc, hlv, hcs⟩ := hat j x hx
        rw [hlv, ← HUW.out.cell lgw (by simp)] at v0
        have lg := Nat.lt_of_lt_of_le lgw HUW.out.size
        obtain ⟨lm, hlm⟩ : ∃ y, x.L.length = y := ⟨_, rfl⟩
        rw [hlm] at v0 hm2
        have bm : lm ≤ 9223372036854775807 := hm2
        have HLM := Lib.hid hlm
        have HCS := Lib.hid hcs
        have HX := Lib.hid hx
        have HVA := Lib.hid hva
        have HJ := Lib.hid hj
        have hbp := HB5.out.upd HS.out.upd HNB.out.1
        have z5 := hbp.cell (j := 5) rfl
        have lz := hbp.lt
        have ra := row_in HS.out.rowA hva
        have la := HS.out.rowA.lt
        clear hs1 hs2 hs11 hva hx hat hlv hcs hm2 hlm lgw hbp
        by_cases hful : lm ≤ a
        · have t3 : decide (lm ≤ a) = true := by simp [hful]
          have t3' : decide ((lm : Int) ≤ (a : Int)) = true := by simp; omega
          go_upto_region 15 with (fail)
          rw [ws1]
          go_quiet (fail)
          go_wp2_with fail
          exact ⟨⟨i + 1, s1, ao, k, cap, X, m, G, va, vl, by congr 1, rfl, rfl, by omega, (HS.out.upd' ((Upd.refl [] wd).drewN _)).pass s1 (Int.le_of_lt HS1.out.1) HS1.out.2⟩, by first | (simp [intOf]; done) | (simp [intOf]; omega)⟩
        · have t3 : decide (lm ≤ a) = false := by simp; omega
          have t3' : decide ((lm : Int) ≤ (a : Int)) = false := by simp; omega
          go_upto_region 15 with (fail)
          rw [ws1]
          go_quiet (fail)
          go_upto_region 16 with (fail)
          have hal : a < lm := by omega
          have bal : (a : Int) < (lm : Int) := by omega
          obtain ⟨c, hc⟩ : ∃ c, x.L[a]? = some c := ⟨_, List.getElem?_eq_getElem (by rw [HLM.out]; exact hal)⟩
          obtain ⟨gc, gof, rfl, lgc, k0, k1, k2, k3⟩ := HCS.out a c hc
          rw [← HUW.out.cell lgc (by simp)] at k0 k1 k2 k3
          have lgc := Nat.lt_of_lt_of_le lgc HUW.out.size
          have HC := Lib.hid hc
          obtain ⟨w4, hw4⟩ : ∃ y, wd.drewN nq = y := ⟨_, rfl⟩
          have u4 : Upd [] wd w4 := by rw [← hw4]; exact (Upd.refl [] wd).drewN _
          rw [hw4]
          clear hw4 hc
          have g0 : w4.cell? ⟨bp, 5, none⟩ = _ := (u4.cell lz (by simp) 5).trans z5
          have g1 : w4.cell? ⟨ba, j, none⟩ = _ := (u4.cell la (by simp) j).trans ra
          have g2 := (u4.cell lg (by simp) (go + j)).trans v0
          have g3 := (u4.cell lgc (by simp) (gof + a * 4)).trans k0
          have g4 := (u4.cell lgc (by simp) (gof + a * 4 + 1)).trans k1
          have g5 := (u4.cell lgc (by simp) (gof + a * 4 + 2)).trans k2
          have g6 := (u4.cell lgc (by simp) (gof + a * 4 + 3)).trans k3
          have h0 : w4.drew.cell? ⟨bp, 5, none⟩ = _ := g0
          have h1 : w4.drew.cell? ⟨ba, j, none⟩ = _ := g1
          have h2 : w4.drew.cell? ⟨gb, go + j, none⟩ = _ := g2
          have h3 : w4.drew.cell? ⟨gc, gof + a * 4, none⟩ = _ := g3
          have h4 : w4.drew.cell? ⟨gc, gof + a * 4 + 1, none⟩ = _ := g4
          have h5 : w4.drew.cell? ⟨gc, gof + a * 4 + 2, none⟩ = _ := g5
          have h6 : w4.drew.cell? ⟨gc, gof + a * 4 + 3, none⟩ = _ := g6
          have m0 := Nat.lt_of_lt_of_le lz u4.size
          have m1 := Nat.lt_of_lt_of_le la u4.size
          have m2 := Nat.lt_of_lt_of_le lg u4.size
          have m3 := Nat.lt_of_lt_of_le lgc u4.size
          have HU4C := Lib.hid u4
          clear z5 ra v0 k0 k1 k2 k3 lz la lg lgc u4
          go_cut [15] (fun s15 wx => ∃ bk, s15 = .pointer (some ⟨bk, 0, none⟩) ∧ Blk wx bk 46 [.int .i64 c.op, .int .i64 c.flow, .int .i64 c.a, .int .i64 c.b] ∧ Upd [] w4 wx)
          case first =>
            go_region
            all_goals go_wp2_with fail
            all_goals go_meet
            all_goals exact ⟨_, rfl, (Blk.new w4 46 [.int .i64 c.op, .int .i64 c.flow, .int .i64 c.a, .int .i64 c.b]).upd (Upd.refl [] _).drew (by simp), ((Upd.refl [] w4).alloc _).drew⟩
          case rest =>
            obtain ⟨bk, rfl, hb5, u5⟩ := hcut
            obtain ⟨w5c, ew5c⟩ : ∃ y : World, y = wc := ⟨_, rfl⟩
            subst ew5c
            have j1 := (u5.cell m1 (by simp) j).trans g1
            have jl := Nat.lt_of_lt_of_le m1 u5.size
            clear g0 g1 g2 g3 g4 g5 g6 h0 h1 h2 h3 h4 h5 h6 m0 m1 m2 m3
            go_upto_region 18 with (fail)
            obtain ⟨w6, hw6⟩ : ∃ y, w5c.alloc (.cells #[.int .i64 s1, .int .i64 j, .int .i64 a, .int .i64 0, .slice none 0 0, .int .i64 0, .int .u64 0] 59) = y := ⟨_, rfl⟩
            have u6 : Upd [] w5c w6 := by rw [← hw6]; exact (Upd.refl [] w5c).alloc _
            obtain ⟨bx, hbx⟩ : ∃ y, w5c.heap.size = y := ⟨_, rfl⟩
            have hb6 : Blk w6 bx 59 [.int .i64 s1, .int .i64 j, .int .i64 a, .int .i64 0, .slice none 0 0, .int .i64 0, .int .u64 0] := by rw [← hw6, ← hbx]; exact Blk.new w5c 59 [.int .i64 s1, .int .i64 j, .int .i64 a, .int .i64 0, .slice none 0 0, .int .i64 0, .int .u64 0]
            rw [hw6, hbx]
            have HBX := Lib.hid hb6
            have hbk6 := hb5.upd u6 (by simp)
            have HBK := Lib.hid hbk6
            have HU6 : Hid (Upd [] wd w6) := HU4C.out.trans (u5.trans u6)
            have HBXN : Hid (wd.heap.size ≤ bx) := by have := HU4C.out.size; have := u5.size; unfold Hid; omega
            have k0 := hbk6.cell (j := 0) rfl
            have k1 := hbk6.cell (j := 1) rfl
            have k2 := hbk6.cell (j := 2) rfl
            have k3 := hbk6.cell (j := 3) rfl
            have lc := hbk6.lt
            clear j1 jl hw6 u6 hbx hb6 hb5 u5 hbk6
            by_cases o5 : c.op = 5
            · have p5 : (c.op != 5) = false := by simp [o5]
              by_cases a1 : c.a < 1
              · have p6 : decide (c.a < 1) = true := by simp [a1]
                have HCND : Hid (¬ (c.op = 5 ∧ 1 ≤ c.a ∧ c.a ≤ 16)) := fun h => by omega
                clear o5 a1
                have HFX : Hid (bx ∉ G ∧ ba ≠ bx ∧ bl ≠ bx ∧ (wd.heap.size ≤ bx ∧ bx < w6.heap.size) ∧ ba ≠ bl) := ⟨fun hm => absurd (HS.out.mod.lt bx hm) (Nat.not_lt.2 HBXN.out), fun e => absurd HS.out.rowA.lt (Nat.not_lt.2 (e ▸ HBXN.out)), fun e => absurd HS.out.rowL.lt (Nat.not_lt.2 (e ▸ HBXN.out)), ⟨HBXN.out, HBX.out.lt⟩, HG.out.ne⟩
                have HM6 := Lib.hid (HS.out.mod.upd HU6.out)
                have HA6 := Lib.hid (HS.out.rowA.upd HU6.out (by simp))
                have HL6 := Lib.hid (HS.out.rowL.upd HU6.out (by simp))
                have HU6B : Hid (Upd [bl] wd w6) := HU6.out.nil
                -- the call of the model; its answer is stored
                obtain ⟨rr, hrr⟩ : ∃ y, doM p.c m c = y := ⟨_, rfl⟩
                have hdc := ddo_any HM6.out (tr_mn HS.out.mn hi hm) c
                rw [hrr] at hdc
                have HDC : Hid (Calls Tryz.prog 42 #[.pointer (some ⟨mb, 0, none⟩), .agg #[.int .i64 c.op, .int .i64 c.flow, .int .i64 c.a, .int .i64 c.b]] w6 (DTo w mb p.c rr G w6)) := hdc
                have HRR : Hid (doM p.c m c = rr) := hrr
                clear hdc hrr
                go_upto_region 19 with (fail)
                go_wp2_with fail
                refine HDC.out.mono ?_
                rintro e w7 hto
                obtain ⟨v, G', rfl, hm7, hf7, hr7⟩ := hto
                obtain ⟨ao7, cap7, rfl, hro7, hrn7⟩ := hr7
                have HM7 := Lib.hid hm7
                have HF7 := Lib.hid hf7
                have HRO7 := Lib.hid hro7
                have HRN7 := Lib.hid hrn7
                have hbx7 := HBX.out.upd hf7.2 HFX.out.1
                have HA7 := Lib.hid (HA6.out.upd hf7.2 (HS.out.far HG.out).1)
                have HL7 := Lib.hid (HL6.out.upd hf7.2 (HS.out.far HG.out).2)
                obtain ⟨re, hre⟩ : ∃ y, rr.1.e = y := ⟨_, rfl⟩
                obtain ⟨rn, hrn⟩ : ∃ y, rr.1.n = y := ⟨_, rfl⟩
                obtain ⟨rv, hrv⟩ : ∃ y, rr.1.v = y := ⟨_, rfl⟩
                obtain ⟨rl, hrl⟩ : ∃ y, rr.1.L.length = y := ⟨_, rfl⟩
                rw [hre, hrn, hrv, hrl]
                have HRE : Hid (rr.1.e = re ∧ rr.1.n = rn ∧ rr.1.v = rv ∧ rr.1.L.length = rl) := ⟨hre, hrn, hrv, hrl⟩
                clear hm7 hf7 hro7 hrn7 hre hrn hrv hrl k0 k1 k2 k3 lc
                have y0 := hbx7.cell (j := 0) rfl
                have y1 := hbx7.cell (j := 1) rfl
                have y2 := hbx7.cell (j := 2) rfl
                have y3 := hbx7.cell (j := 3) rfl
                have y4 := hbx7.cell (j := 4) rfl
                have y5 := hbx7.cell (j := 5) rfl
                have y6 := hbx7.cell (j := 6) rfl
                have g3 := hbx7.free 3
                have g4 := hbx7.free 4
                have g5 := hbx7.free 5
                have g6 := hbx7.free 6
                have ly := hbx7.lt
                go_upto_region 20 with (fail)
                obtain ⟨w8, hw8⟩ : ∃ y, (((w7.setCell ⟨bx, 3, none⟩ (.int .i64 re)).setCell ⟨bx, 4, none⟩ (.slice ao7 rl cap7)).setCell ⟨bx, 5, none⟩ (.int .i64 rn)).setCell ⟨bx, 6, none⟩ (.int .u64 rv) = y := ⟨_, rfl⟩
                have hbx8 : Blk w8 bx 59 [.int .i64 s1, .int .i64 j, .int .i64 a, .int .i64 re, .slice ao7 rl cap7, .int .i64 rn, .int .u64 rv] := by rw [← hw8]; exact (((hbx7.set 3 (.int .i64 re)).set 4 (.slice ao7 rl cap7)).set 5 (.int .i64 rn)).set 6 (.int .u64 rv)
                have hu8 : Upd [bx] w7 w8 := by rw [← hw8]; exact ((((Upd.refl [bx] w7).setCell (.inl (by simp)) _).setCell (.inl (by simp)) _).setCell (.inl (by simp)) _).setCell (.inl (by simp)) _
                rw [hw8]
                have HU8 := Lib.hid hu8
                have HBX8 := Lib.hid hbx8
                have HA8 := Lib.hid (HA7.out.upd hu8 (by simpa using HFX.out.2.1))
                have HL8 := Lib.hid (HL7.out.upd hu8 (by simpa using HFX.out.2.2.1))
                clear y0 y1 y2 y3 y4 y5 y6 g3 g4 g5 g6 ly hw8 hu8 hbx8 hbx7
                have ra8 := row_in HA8.out HVA.out
                have fa8 := HA8.out.free j
                have la8 := HA8.out.lt
                have bka : a + 1 ≤ 9223372036854775807 := Nat.le_trans hal bm
                go_upto_region 21 with (fail)
                obtain ⟨w8a, hw8a⟩ : ∃ y, w8.setCell ⟨ba, j, none⟩ (.int .i64 ((a : Int) + 1)) = y := ⟨_, rfl⟩
                have hA8a : Row w8a 3 1 ba n n ((va.set j ((a : Int) + 1)).flatMap inV) := by rw [← hw8a]; exact row_put HA8.out HVA.out _
                have hu8a : Upd [ba] w8 w8a := by rw [← hw8a]; exact (Upd.refl [ba] w8).setCell (.inl (by simp)) _
                rw [hw8a]
                have HA8A := Lib.hid hA8a
                have HL8A := Lib.hid (HL8.out.upd hu8a (by simpa using HG.out.ne.symm))
                have HBXE : Hid (Blk w8a bx 59 [.int .i64 s1, .int .i64 j, .int .i64 a, .int .i64 re, .slice ao7 rl cap7, .int .i64 rn, .int .u64 rv]) := HBX8.out.upd hu8a (by simpa using fun e => HFX.out.2.1 e.symm)
                have HUE : Hid (Upd [bx, ba] w7 w8a) := (HU8.out.mono (fun _ _ h => by simp at h; simp [h])).trans (hu8a.mono (fun _ _ h => by simp at h; simp [h]))
                clear ra8 fa8 la8 hw8a hA8a hu8a
                -- the point is appended: w8a: the world; HUE.out: what may have been written behind w7; 2.2, $4: the rows
                obtain ⟨ip, hip, hp0, hp1, hp2⟩ := info_parts infoPt_
                obtain ⟨w9, hw9⟩ : ∃ y, w8a.alloc (.cells #[.int .i64 s1, .int .i64 j, .int .i64 a, .int .i64 re, .slice ao7 rl cap7, .int .i64 rn, .int .u64 rv] 59) = y := ⟨_, rfl⟩
                have HSRC : Hid (Src w9 7 (some ⟨w8a.heap.size, 0, none⟩) 1 (ptVs ⟨s1, j, a, ⟨re, rr.1.L, rn, rv⟩, .slice ao7 rl cap7⟩)) := by
                  unfold Hid; rw [← hw9]
                  exact one_src w8a 59 [.int .i64 s1, .int .i64 j, .int .i64 a, .int .i64 re, .slice ao7 rl cap7, .int .i64 rn, .int .u64 rv] (by intro u hu; simp only [List.mem_cons, List.not_mem_nil, or_false] at hu; rcases hu with rfl | rfl | rfl | rfl | rfl | rfl | rfl <;> rfl) 7 rfl
                have HU9 : Hid (Upd [] w8a w9) := by unfold Hid; rw [← hw9]; exact (Upd.refl [] w8a).alloc _
                have hki := HS.out.ki
                have HBD : Hid (k + 1 ≤ maxLen ∧ (k + 1) * 72 ≤ 140737488355328) := tr_bd hki hi hm
                have HTX : Hid (RowO w9 59 7 ao k cap (X.flatMap ptVs)) := by
                  have h1 := HS.out.trx.row.lt
                  have h2 := HS.out.trx.new
                  refine (((HS.out.trx.row.upd HU6B.out (fun c hc hm => (h2 c hc).2 (by simp only [List.mem_cons, List.not_mem_nil, or_false] at hm; simp [hm]))).upd HF7.out.2 (fun c hc hm => (h2 c hc).2 (by simp [hm]))).upd HUE.out (fun c hc => (tr_far (h2 c hc).2 (h1 c hc) HFX.out.2.2.2.1.1).2.2)).upd HU9.out (by simp)
                have zx := HBXE.out
                have y0 := zx.cell (j := 0) rfl
                have y1 := zx.cell (j := 1) rfl
                have y2 := zx.cell (j := 2) rfl
                have y3 := zx.cell (j := 3) rfl
                have y4 := zx.cell (j := 4) rfl
                have y5 := zx.cell (j := 5) rfl
                have y6 := zx.cell (j := 6) rfl
                have g3 := zx.free 3
                have g4 := zx.free 4
                have g5 := zx.free 5
                have g6 := zx.free 6
                have ly := zx.lt
                clear zx
                go_wp2_with (at_builtin; (refine wpList_app2 _ (by rfl) _ _ _ (by rfl) 59 ip _ 7 72 underlyingPts_ hip hp0 hp1 hp2 rfl (by omega) ao k cap (X.flatMap ptVs) (by rfl) HTX.out (some ⟨w8a.heap.size, 0, none⟩) 1 1 (ptVs ⟨s1, j, a, ⟨re, rr.1.L, rn, rv⟩, .slice ao7 rl cap7⟩) (by rfl) HSRC.out HBD.out.1 HBD.out.2 ?_); (intro ao3 cap3 w10 hA3; have HA3 := Lib.hid hA3; clear hA3))
                have hre := HRE.out
                have hrr : rr.1 = ⟨re, rr.1.L, rn, rv⟩ := by rw [← hre.1, ← hre.2.1, ← hre.2.2.1]
                have HAE := HA8A
                have HLE := HL8A
                have HAE1 : Hid ((va.set j ((a : Int) + 1)).length = n) := by unfold Hid; rw [List.length_set]; exact HS.out.lenA
                have HAE2 : Hid (∀ y ∈ va.set j ((a : Int) + 1), 0 ≤ y) := tr_set0 HS.out.a0 (tr_succ a) j
                have HLE1 : Hid (vl.length = n) := HS.out.lenL
                have HLE2 : Hid (∀ y ∈ vl, 0 ≤ y ∧ y ≤ 16) := HS.out.l0
                have hfin := HS.out.step (q := c) (s' := s1) (va' := (va.set j ((a : Int) + 1))) (vl' := vl) (y := ⟨s1, j, a, ⟨re, rr.1.L, rn, rv⟩, .slice ao7 rl cap7⟩) (G' := G') (T := ([bx, ba])) HG.out HU6B.out (by rw [HRR.out]; exact HM7.out) HF7.out HUE.out
                  (tr_T HFX.out.2.2.2.1).2.2
                  HAE.out HAE1.out HAE2.out HLE.out HLE1.out HLE2.out HU9.out HA3.out
                  (by
                    have h1 : RowO w9 54 3 ao7 rl cap7 (rr.1.L.flatMap pkVs) := by
                      have := HRO7.out
                      rw [hre.2.2.2] at this
                      exact (this.upd HUE.out (fun b hb => (tr_new (HRN7.out b hb).1 HFX.out.2.2.2.1.2 (tr_lt HS.out.rowA.lt HU6B.out.size (Nat.le_refl _)) (tr_lt HS.out.rowL.lt HU6B.out.size (Nat.le_refl _))).2.2)).upd HU9.out (by simp)
                    have h2 := h1.sl
                    show SlAt w9 3 _ rr.1.L.length _
                    rw [hre.2.2.2]; exact h2)
                  (fun x hx => HRN7.out x (lvB_blk hx)) (by have h1 := trace_call (c := p.c) (m := m) (st := s1) (lv := .slice ao7 rl cap7) HX.out HC.out HCND.out; rw [HRR.out, hrr] at h1; exact h1) rfl HS1.out.1 HS1.out.2 (by rw [HRR.out]; exact hrr.symm)
                rw [HRR.out] at hfin
                exact ⟨⟨i + 1, s1, ao3, k + 1, cap3, _, _, _, _, _, by congr 1, rfl, rfl, hlt, hfin⟩, tr_meas hlt⟩
              · have p6 : decide (c.a < 1) = false := by simp; omega
                by_cases a2 : 16 < c.a
                · have p7 : decide (16 < c.a) = true := by simp [a2]
                  have HCND : Hid (¬ (c.op = 5 ∧ 1 ≤ c.a ∧ c.a ≤ 16)) := fun h => by omega
                  clear o5 a1 a2
                  have HFX : Hid (bx ∉ G ∧ ba ≠ bx ∧ bl ≠ bx ∧ (wd.heap.size ≤ bx ∧ bx < w6.heap.size) ∧ ba ≠ bl) := ⟨fun hm => absurd (HS.out.mod.lt bx hm) (Nat.not_lt.2 HBXN.out), fun e => absurd HS.out.rowA.lt (Nat.not_lt.2 (e ▸ HBXN.out)), fun e => absurd HS.out.rowL.lt (Nat.not_lt.2 (e ▸ HBXN.out)), ⟨HBXN.out, HBX.out.lt⟩, HG.out.ne⟩
                  have HM6 := Lib.hid (HS.out.mod.upd HU6.out)
                  have HA6 := Lib.hid (HS.out.rowA.upd HU6.out (by simp))
                  have HL6 := Lib.hid (HS.out.rowL.upd HU6.out (by simp))
                  have HU6B : Hid (Upd [bl] wd w6) := HU6.out.nil
                  -- the call of the model; its answer is stored
                  obtain ⟨rr, hrr⟩ : ∃ y, doM p.c m c = y := ⟨_, rfl⟩
                  have hdc := ddo_any HM6.out (tr_mn HS.out.mn hi hm) c
                  rw [hrr] at hdc
                  have HDC : Hid (Calls Tryz.prog 42 #[.pointer (some ⟨mb, 0, none⟩), .agg #[.int .i64 c.op, .int .i64 c.flow, .int .i64 c.a, .int .i64 c.b]] w6 (DTo w mb p.c rr G w6)) := hdc
                  have HRR : Hid (doM p.c m c = rr) := hrr
                  clear hdc hrr
                  go_upto_region 19 with (fail)
                  go_wp2_with fail
                  refine HDC.out.mono ?_
                  rintro e w7 hto
                  obtain ⟨v, G', rfl, hm7, hf7, hr7⟩ := hto
                  obtain ⟨ao7, cap7, rfl, hro7, hrn7⟩ := hr7
                  have HM7 := Lib.hid hm7
                  have HF7 := Lib.hid hf7
                  have HRO7 := Lib.hid hro7
                  have HRN7 := Lib.hid hrn7
                  have hbx7 := HBX.out.upd hf7.2 HFX.out.1
                  have HA7 := Lib.hid (HA6.out.upd hf7.2 (HS.out.far HG.out).1)
                  have HL7 := Lib.hid (HL6.out.upd hf7.2 (HS.out.far HG.out).2)
                  obtain ⟨re, hre⟩ : ∃ y, rr.1.e = y := ⟨_, rfl⟩
                  obtain ⟨rn, hrn⟩ : ∃ y, rr.1.n = y := ⟨_, rfl⟩
                  obtain ⟨rv, hrv⟩ : ∃ y, rr.1.v = y := ⟨_, rfl⟩
                  obtain ⟨rl, hrl⟩ : ∃ y, rr.1.L.length = y := ⟨_, rfl⟩
                  rw [hre, hrn, hrv, hrl]
                  have HRE : Hid (rr.1.e = re ∧ rr.1.n = rn ∧ rr.1.v = rv ∧ rr.1.L.length = rl) := ⟨hre, hrn, hrv, hrl⟩
                  clear hm7 hf7 hro7 hrn7 hre hrn hrv hrl k0 k1 k2 k3 lc
                  have y0 := hbx7.cell (j := 0) rfl
                  have y1 := hbx7.cell (j := 1) rfl
                  have y2 := hbx7.cell (j := 2) rfl
                  have y3 := hbx7.cell (j := 3) rfl
                  have y4 := hbx7.cell (j := 4) rfl
                  have y5 := hbx7.cell (j := 5) rfl
                  have y6 := hbx7.cell (j := 6) rfl
                  have g3 := hbx7.free 3
                  have g4 := hbx7.free 4
                  have g5 := hbx7.free 5
                  have g6 := hbx7.free 6
                  have ly := hbx7.lt
                  go_upto_region 20 with (fail)
                  obtain ⟨w8, hw8⟩ : ∃ y, (((w7.setCell ⟨bx, 3, none⟩ (.int .i64 re)).setCell ⟨bx, 4, none⟩ (.slice ao7 rl cap7)).setCell ⟨bx, 5, none⟩ (.int .i64 rn)).setCell ⟨bx, 6, none⟩ (.int .u64 rv) = y := ⟨_, rfl⟩
                  have hbx8 : Blk w8 bx 59 [.int .i64 s1, .int .i64 j, .int .i64 a, .int .i64 re, .slice ao7 rl cap7, .int .i64 rn, .int .u64 rv] := by rw [← hw8]; exact (((hbx7.set 3 (.int .i64 re)).set 4 (.slice ao7 rl cap7)).set 5 (.int .i64 rn)).set 6 (.int .u64 rv)
                  have hu8 : Upd [bx] w7 w8 := by rw [← hw8]; exact ((((Upd.refl [bx] w7).setCell (.inl (by simp)) _).setCell (.inl (by simp)) _).setCell (.inl (by simp)) _).setCell (.inl (by simp)) _
                  rw [hw8]
                  have HU8 := Lib.hid hu8
                  have HBX8 := Lib.hid hbx8
                  have HA8 := Lib.hid (HA7.out.upd hu8 (by simpa using HFX.out.2.1))
                  have HL8 := Lib.hid (HL7.out.upd hu8 (by simpa using HFX.out.2.2.1))
                  clear y0 y1 y2 y3 y4 y5 y6 g3 g4 g5 g6 ly hw8 hu8 hbx8 hbx7
                  have ra8 := row_in HA8.out HVA.out
                  have fa8 := HA8.out.free j
                  have la8 := HA8.out.lt
                  have bka : a + 1 ≤ 9223372036854775807 := Nat.le_trans hal bm
                  go_upto_region 21 with (fail)
                  obtain ⟨w8a, hw8a⟩ : ∃ y, w8.setCell ⟨ba, j, none⟩ (.int .i64 ((a : Int) + 1)) = y := ⟨_, rfl⟩
                  have hA8a : Row w8a 3 1 ba n n ((va.set j ((a : Int) + 1)).flatMap inV) := by rw [← hw8a]; exact row_put HA8.out HVA.out _
                  have hu8a : Upd [ba] w8 w8a := by rw [← hw8a]; exact (Upd.refl [ba] w8).setCell (.inl (by simp)) _
                  rw [hw8a]
                  have HA8A := Lib.hid hA8a
                  have HL8A := Lib.hid (HL8.out.upd hu8a (by simpa using HG.out.ne.symm))
                  have HBXE : Hid (Blk w8a bx 59 [.int .i64 s1, .int .i64 j, .int .i64 a, .int .i64 re, .slice ao7 rl cap7, .int .i64 rn, .int .u64 rv]) := HBX8.out.upd hu8a (by simpa using fun e => HFX.out.2.1 e.symm)
                  have HUE : Hid (Upd [bx, ba] w7 w8a) := (HU8.out.mono (fun _ _ h => by simp at h; simp [h])).trans (hu8a.mono (fun _ _ h => by simp at h; simp [h]))
                  clear ra8 fa8 la8 hw8a hA8a hu8a
                  -- the point is appended: w8a: the world; HUE.out: what may have been written behind w7; 2.2, $4: the rows
                  obtain ⟨ip, hip, hp0, hp1, hp2⟩ := info_parts infoPt_
                  obtain ⟨w9, hw9⟩ : ∃ y, w8a.alloc (.cells #[.int .i64 s1, .int .i64 j, .int .i64 a, .int .i64 re, .slice ao7 rl cap7, .int .i64 rn, .int .u64 rv] 59) = y := ⟨_, rfl⟩
                  have HSRC : Hid (Src w9 7 (some ⟨w8a.heap.size, 0, none⟩) 1 (ptVs ⟨s1, j, a, ⟨re, rr.1.L, rn, rv⟩, .slice ao7 rl cap7⟩)) := by
                    unfold Hid; rw [← hw9]
                    exact one_src w8a 59 [.int .i64 s1, .int .i64 j, .int .i64 a, .int .i64 re, .slice ao7 rl cap7, .int .i64 rn, .int .u64 rv] (by intro u hu; simp only [List.mem_cons, List.not_mem_nil, or_false] at hu; rcases hu with rfl | rfl | rfl | rfl | rfl | rfl | rfl <;> rfl) 7 rfl
                  have HU9 : Hid (Upd [] w8a w9) := by unfold Hid; rw [← hw9]; exact (Upd.refl [] w8a).alloc _
                  have hki := HS.out.ki
                  have HBD : Hid (k + 1 ≤ maxLen ∧ (k + 1) * 72 ≤ 140737488355328) := tr_bd hki hi hm
                  have HTX : Hid (RowO w9 59 7 ao k cap (X.flatMap ptVs)) := by
                    have h1 := HS.out.trx.row.lt
                    have h2 := HS.out.trx.new
                    refine (((HS.out.trx.row.upd HU6B.out (fun c hc hm => (h2 c hc).2 (by simp only [List.mem_cons, List.not_mem_nil, or_false] at hm; simp [hm]))).upd HF7.out.2 (fun c hc hm => (h2 c hc).2 (by simp [hm]))).upd HUE.out (fun c hc => (tr_far (h2 c hc).2 (h1 c hc) HFX.out.2.2.2.1.1).2.2)).upd HU9.out (by simp)
                  have zx := HBXE.out
                  have y0 := zx.cell (j := 0) rfl
                  have y1 := zx.cell (j := 1) rfl
                  have y2 := zx.cell (j := 2) rfl
                  have y3 := zx.cell (j := 3) rfl
                  have y4 := zx.cell (j := 4) rfl
                  have y5 := zx.cell (j := 5) rfl
                  have y6 := zx.cell (j := 6) rfl
                  have g3 := zx.free 3
                  have g4 := zx.free 4
                  have g5 := zx.free 5
                  have g6 := zx.free 6
                  have ly := zx.lt
                  clear zx
                  go_wp2_with (at_builtin; (refine wpList_app2 _ (by rfl) _ _ _ (by rfl) 59 ip _ 7 72 underlyingPts_ hip hp0 hp1 hp2 rfl (by omega) ao k cap (X.flatMap ptVs) (by rfl) HTX.out (some ⟨w8a.heap.size, 0, none⟩) 1 1 (ptVs ⟨s1, j, a, ⟨re, rr.1.L, rn, rv⟩, .slice ao7 rl cap7⟩) (by rfl) HSRC.out HBD.out.1 HBD.out.2 ?_); (intro ao3 cap3 w10 hA3; have HA3 := Lib.hid hA3; clear hA3))
                  have hre := HRE.out
                  have hrr : rr.1 = ⟨re, rr.1.L, rn, rv⟩ := by rw [← hre.1, ← hre.2.1, ← hre.2.2.1]
                  have HAE := HA8A
                  have HLE := HL8A
                  have HAE1 : Hid ((va.set j ((a : Int) + 1)).length = n) := by unfold Hid; rw [List.length_set]; exact HS.out.lenA
                  have HAE2 : Hid (∀ y ∈ va.set j ((a : Int) + 1), 0 ≤ y) := tr_set0 HS.out.a0 (tr_succ a) j
                  have HLE1 : Hid (vl.length = n) := HS.out.lenL
                  have HLE2 : Hid (∀ y ∈ vl, 0 ≤ y ∧ y ≤ 16) := HS.out.l0
                  have hfin := HS.out.step (q := c) (s' := s1) (va' := (va.set j ((a : Int) + 1))) (vl' := vl) (y := ⟨s1, j, a, ⟨re, rr.1.L, rn, rv⟩, .slice ao7 rl cap7⟩) (G' := G') (T := ([bx, ba])) HG.out HU6B.out (by rw [HRR.out]; exact HM7.out) HF7.out HUE.out
                    (tr_T HFX.out.2.2.2.1).2.2
                    HAE.out HAE1.out HAE2.out HLE.out HLE1.out HLE2.out HU9.out HA3.out
                    (by
                      have h1 : RowO w9 54 3 ao7 rl cap7 (rr.1.L.flatMap pkVs) := by
                        have := HRO7.out
                        rw [hre.2.2.2] at this
                        exact (this.upd HUE.out (fun b hb => (tr_new (HRN7.out b hb).1 HFX.out.2.2.2.1.2 (tr_lt HS.out.rowA.lt HU6B.out.size (Nat.le_refl _)) (tr_lt HS.out.rowL.lt HU6B.out.size (Nat.le_refl _))).2.2)).upd HU9.out (by simp)
                      have h2 := h1.sl
                      show SlAt w9 3 _ rr.1.L.length _
                      rw [hre.2.2.2]; exact h2)
                    (fun x hx => HRN7.out x (lvB_blk hx)) (by have h1 := trace_call (c := p.c) (m := m) (st := s1) (lv := .slice ao7 rl cap7) HX.out HC.out HCND.out; rw [HRR.out, hrr] at h1; exact h1) rfl HS1.out.1 HS1.out.2 (by rw [HRR.out]; exact hrr.symm)
                  rw [HRR.out] at hfin
                  exact ⟨⟨i + 1, s1, ao3, k + 1, cap3, _, _, _, _, _, by congr 1, rfl, rfl, hlt, hfin⟩, tr_meas hlt⟩
                · have p7 : decide (16 < c.a) = false := by simp; omega
                  have HCND : Hid (c.op = 5) := o5
                  have hca : 1 ≤ c.a ∧ c.a ≤ 16 := by omega
                  obtain ⟨v, hv⟩ : ∃ v, vl[j]? = some v := ⟨_, List.getElem?_eq_getElem (by rw [HS.out.lenL]; exact HJ.out)⟩
                  have hvb := HS.out.l0 v (List.mem_of_getElem? hv)
                  have HL6 := Lib.hid (HS.out.rowL.upd HU6.out (by simp))
                  have rl6 := row_in HL6.out hv
                  have ll6 := HL6.out.lt
                  have fl6 := HL6.out.free j
                  clear o5 a1 a2
                  by_cases hv0 : v = 0
                  · have s22 : (v == 0) = true := by simp [hv0]
                    obtain ⟨v9, hv9⟩ : ∃ v9 : Nat, c.a = (v9 : Int) + 1 := ⟨(c.a - 1).toNat, by omega⟩
                    have HV9 : Hid (v9 ≤ 15) := by unfold Hid; omega
                    have HV9C := Lib.hid hv9
                    clear hv0 hca hvb hv9
                    go_upto_region 24 with (fail)
                    obtain ⟨w6b, hw6b⟩ : ∃ y, w6.setCell ⟨bl, j, none⟩ (.int .i64 c.a) = y := ⟨_, rfl⟩
                    have hL6b : Row w6b 3 1 bl n n ((vl.set j ((v9 : Int) + 1)).flatMap inV) := by rw [← hw6b, HV9C.out]; exact row_put HL6.out hv _
                    have hu6b : Upd [bl] w6 w6b := by rw [← hw6b]; exact (Upd.refl [bl] w6).setCell (.inl (by simp)) _
                    rw [hw6b]
                    have HL6 := Lib.hid hL6b
                    have HM6 := Lib.hid ((HS.out.mod.upd HU6.out).updS hu6b (fun x hx => by simpa using fun e : x = bl => (HS.out.far HG.out).2 (e ▸ hx)))
                    have HA6 := Lib.hid ((HS.out.rowA.upd HU6.out (by simp)).upd hu6b (by simpa using HG.out.ne))
                    have HU6B : Hid (Upd [bl] wd w6b) := HU6.out.nil.trans hu6b
                    have HBX := Lib.hid (HBX.out.upd hu6b (by have := HS.out.rowL.lt; have := HBXN.out; simp; omega))
                    obtain ⟨vl6, hvl6⟩ : ∃ y, vl.set j ((v9 : Int) + 1) = y := ⟨_, rfl⟩
                    have HV6 : Hid (vl6[j]? = some ((v9 : Int) + 1)) := by unfold Hid; rw [← hvl6, List.getElem?_set_self (List.getElem?_eq_some_iff.1 hv).1]
                    have HV6L : Hid (vl6.length = n) := by unfold Hid; rw [← hvl6, List.length_set]; exact HS.out.lenL
                    have HV6B : Hid (∀ y ∈ vl6, 0 ≤ y ∧ y ≤ 16) := by unfold Hid; rw [← hvl6]; exact tr_set HS.out.l0 (tr_nat HV9.out).2 j
                    rw [hvl6] at HL6
                    clear hw6b hL6b hu6b hvl6 rl6 ll6 fl6 hv s22 k0 k1 k2 k3 lc
                    obtain ⟨w6, ew6⟩ : ∃ y : World, y = w6b := ⟨_, rfl⟩
                    subst ew6
                    have k0 : True := trivial
                    have k1 : True := trivial
                    have k2 : True := trivial
                    have k3 : True := trivial
                    have lc : True := trivial
                    -- a part of a batch: vl6 holds at j how many parts are left, v9 + 1
                    have HFX : Hid (bx ∉ G ∧ ba ≠ bx ∧ bl ≠ bx ∧ (wd.heap.size ≤ bx ∧ bx < w6.heap.size) ∧ ba ≠ bl) := ⟨fun hm => absurd (HS.out.mod.lt bx hm) (Nat.not_lt.2 HBXN.out), fun e => absurd HS.out.rowA.lt (Nat.not_lt.2 (e ▸ HBXN.out)), fun e => absurd HS.out.rowL.lt (Nat.not_lt.2 (e ▸ HBXN.out)), ⟨HBXN.out, HBX.out.lt⟩, HG.out.ne⟩
                    -- the call of the model; its answer is stored
                    obtain ⟨rr, hrr⟩ : ∃ y, doM p.c m (⟨4, 0, 0, 0⟩) = y := ⟨_, rfl⟩
                    have hdc := ddo_any HM6.out (tr_mn HS.out.mn hi hm) (⟨4, 0, 0, 0⟩)
                    rw [hrr] at hdc
                    have HDC : Hid (Calls Tryz.prog 42 #[.pointer (some ⟨mb, 0, none⟩), .agg #[.int .i64 4, .int .i64 0, .int .i64 0, .int .i64 0]] w6 (DTo w mb p.c rr G w6)) := hdc
                    have HRR : Hid (doM p.c m (⟨4, 0, 0, 0⟩) = rr) := hrr
                    clear hdc hrr
                    go_upto_region 24 with (fail)
                    go_wp2_with fail
                    refine HDC.out.mono ?_
                    rintro e w7 hto
                    obtain ⟨v, G', rfl, hm7, hf7, hr7⟩ := hto
                    obtain ⟨ao7, cap7, rfl, hro7, hrn7⟩ := hr7
                    have HM7 := Lib.hid hm7
                    have HF7 := Lib.hid hf7
                    have HRO7 := Lib.hid hro7
                    have HRN7 := Lib.hid hrn7
                    have hbx7 := HBX.out.upd hf7.2 HFX.out.1
                    have HA7 := Lib.hid (HA6.out.upd hf7.2 (HS.out.far HG.out).1)
                    have HL7 := Lib.hid (HL6.out.upd hf7.2 (HS.out.far HG.out).2)
                    obtain ⟨re, hre⟩ : ∃ y, rr.1.e = y := ⟨_, rfl⟩
                    obtain ⟨rn, hrn⟩ : ∃ y, rr.1.n = y := ⟨_, rfl⟩
                    obtain ⟨rv, hrv⟩ : ∃ y, rr.1.v = y := ⟨_, rfl⟩
                    obtain ⟨rl, hrl⟩ : ∃ y, rr.1.L.length = y := ⟨_, rfl⟩
                    rw [hre, hrn, hrv, hrl]
                    have HRE : Hid (rr.1.e = re ∧ rr.1.n = rn ∧ rr.1.v = rv ∧ rr.1.L.length = rl) := ⟨hre, hrn, hrv, hrl⟩
                    clear hm7 hf7 hro7 hrn7 hre hrn hrv hrl k0 k1 k2 k3 lc
                    have y0 := hbx7.cell (j := 0) rfl
                    have y1 := hbx7.cell (j := 1) rfl
                    have y2 := hbx7.cell (j := 2) rfl
                    have y3 := hbx7.cell (j := 3) rfl
                    have y4 := hbx7.cell (j := 4) rfl
                    have y5 := hbx7.cell (j := 5) rfl
                    have y6 := hbx7.cell (j := 6) rfl
                    have g3 := hbx7.free 3
                    have g4 := hbx7.free 4
                    have g5 := hbx7.free 5
                    have g6 := hbx7.free 6
                    have ly := hbx7.lt
                    go_upto_region 25 with (fail)
                    obtain ⟨w8, hw8⟩ : ∃ y, (((w7.setCell ⟨bx, 3, none⟩ (.int .i64 re)).setCell ⟨bx, 4, none⟩ (.slice ao7 rl cap7)).setCell ⟨bx, 5, none⟩ (.int .i64 rn)).setCell ⟨bx, 6, none⟩ (.int .u64 rv) = y := ⟨_, rfl⟩
                    have hbx8 : Blk w8 bx 59 [.int .i64 s1, .int .i64 j, .int .i64 a, .int .i64 re, .slice ao7 rl cap7, .int .i64 rn, .int .u64 rv] := by rw [← hw8]; exact (((hbx7.set 3 (.int .i64 re)).set 4 (.slice ao7 rl cap7)).set 5 (.int .i64 rn)).set 6 (.int .u64 rv)
                    have hu8 : Upd [bx] w7 w8 := by rw [← hw8]; exact ((((Upd.refl [bx] w7).setCell (.inl (by simp)) _).setCell (.inl (by simp)) _).setCell (.inl (by simp)) _).setCell (.inl (by simp)) _
                    rw [hw8]
                    have HU8 := Lib.hid hu8
                    have HBX8 := Lib.hid hbx8
                    have HA8 := Lib.hid (HA7.out.upd hu8 (by simpa using HFX.out.2.1))
                    have HL8 := Lib.hid (HL7.out.upd hu8 (by simpa using HFX.out.2.2.1))
                    clear y0 y1 y2 y3 y4 y5 y6 g3 g4 g5 g6 ly hw8 hu8 hbx8 hbx7
                    have rl8 := row_in HL8.out HV6.out
                    have fl8 := HL8.out.free j
                    have ll8 := HL8.out.lt
                    have wq1 := (tr_wrap HV9.out).1
                    have wq2 := (tr_wrap HV9.out).2.1
                    have wq3 := (tr_wrap HV9.out).2.2.1
                    have wq4 := (tr_wrap HV9.out).2.2.2
                    go_upto_region 26 with (fail)
                    try rw [wq1]
                    try rw [wq3]
                    obtain ⟨w8a, hw8a⟩ : ∃ y, w8.setCell ⟨bl, j, none⟩ (.int .i64 (v9 : Int)) = y := ⟨_, rfl⟩
                    have hL8a : Row w8a 3 1 bl n n ((vl6.set j (v9 : Int)).flatMap inV) := by rw [← hw8a]; exact row_put HL8.out HV6.out _
                    have hu8a : Upd [bl] w8 w8a := by rw [← hw8a]; exact (Upd.refl [bl] w8).setCell (.inl (by simp)) _
                    rw [hw8a]
                    have HL8A := Lib.hid hL8a
                    have HA8A := Lib.hid (HA8.out.upd hu8a (by simpa using HG.out.ne))
                    have HBXE : Hid (Blk w8a bx 59 [.int .i64 s1, .int .i64 j, .int .i64 a, .int .i64 re, .slice ao7 rl cap7, .int .i64 rn, .int .u64 rv]) := HBX8.out.upd hu8a (by simpa using fun e => HFX.out.2.2.1 e.symm)
                    have HUE : Hid (Upd [bx, bl] w7 w8a) := (HU8.out.mono (fun _ _ h => by simp at h; simp [h])).trans (hu8a.mono (fun _ _ h => by simp at h; simp [h]))
                    have HV8 : Hid ((vl6.set j (v9 : Int))[j]? = some (v9 : Int)) := by
                      unfold Hid
                      have := (List.getElem?_eq_some_iff.1 HV6.out).1
                      rw [List.getElem?_set_self this]
                    have HLA1 : Hid ((vl6.set j (v9 : Int)).length = n) := by unfold Hid; rw [List.length_set]; exact HV6L.out
                    have HLA2 : Hid (∀ y ∈ vl6.set j (v9 : Int), 0 ≤ y ∧ y ≤ 16) := tr_set HV6B.out (tr_nat HV9.out).1 j
                    clear rl8 fl8 ll8 hw8a hL8a hu8a wq1 wq2
                    rcases tr_cases v9 re with ⟨q0, q0'⟩ | ⟨q0, q0', q1⟩ | ⟨q0, q0', q1⟩
                    · skip
                      have rl8 := row_in HL8A.out HV8.out
                      have fl8 := HL8A.out.free j
                      have ll8 := HL8A.out.lt
                      have ra8 := row_in HA8A.out HVA.out
                      have fa8 := HA8A.out.free j
                      have la8 := HA8A.out.lt
                      have x3 := HBXE.out.cell (j := 3) rfl
                      have lx := HBXE.out.lt
                      have nab : ba ≠ bl := HG.out.ne
                      have nba : bl ≠ ba := HG.out.ne.symm
                      have bka : a + 1 ≤ 9223372036854775807 := Nat.le_trans hal bm
                      go_upto_region 29 with (fail)
                      obtain ⟨w8b, hw8b⟩ : ∃ y, (w8a.setCell ⟨bl, j, none⟩ (.int .i64 0)).setCell ⟨ba, j, none⟩ (.int .i64 ((a : Int) + 1)) = y := ⟨_, rfl⟩
                      have hL8b : Row w8b 3 1 bl n n (((vl6.set j (v9 : Int)).set j 0).flatMap inV) := by rw [← hw8b]; exact (row_put HL8A.out HV8.out 0).setFar (a := ⟨ba, j, none⟩) HG.out.ne _
                      have hA8b : Row w8b 3 1 ba n n ((va.set j ((a : Int) + 1)).flatMap inV) := by rw [← hw8b]; exact row_put (HA8A.out.setFar (a := ⟨bl, j, none⟩) HG.out.ne.symm _) HVA.out _
                      have hu8b : Upd [bl, ba] w8a w8b := by rw [← hw8b]; exact ((Upd.refl [bl, ba] w8a).setCell (.inl (by simp)) _).setCell (.inl (by simp)) _
                      have HBXE : Hid (Blk w8b bx 59 [.int .i64 s1, .int .i64 j, .int .i64 a, .int .i64 re, .slice ao7 rl cap7, .int .i64 rn, .int .u64 rv]) := HBXE.out.upd hu8b (tr_two HFX.out.2.2.1 HFX.out.2.1)
                      have HUE : Hid (Upd [bx, bl, ba] w7 w8b) := (HUE.out.mono (fun _ _ h => by simp at h; rcases h with h | h <;> simp [h])).trans (hu8b.mono (fun _ _ h => by simp at h; rcases h with h | h <;> simp [h]))
                      have HAE := Lib.hid hA8b
                      have HLE := Lib.hid hL8b
                      rw [hw8b]
                      clear rl8 fl8 ll8 ra8 fa8 la8 x3 lx nab nba hw8b hA8b hL8b hu8b
                      -- the point is appended: w8b: the world; HUE.out: what may have been written behind w7; 1, $4: the rows
                      obtain ⟨ip, hip, hp0, hp1, hp2⟩ := info_parts infoPt_
                      obtain ⟨w9, hw9⟩ : ∃ y, w8b.alloc (.cells #[.int .i64 s1, .int .i64 j, .int .i64 a, .int .i64 re, .slice ao7 rl cap7, .int .i64 rn, .int .u64 rv] 59) = y := ⟨_, rfl⟩
                      have HSRC : Hid (Src w9 7 (some ⟨w8b.heap.size, 0, none⟩) 1 (ptVs ⟨s1, j, a, ⟨re, rr.1.L, rn, rv⟩, .slice ao7 rl cap7⟩)) := by
                        unfold Hid; rw [← hw9]
                        exact one_src w8b 59 [.int .i64 s1, .int .i64 j, .int .i64 a, .int .i64 re, .slice ao7 rl cap7, .int .i64 rn, .int .u64 rv] (by intro u hu; simp only [List.mem_cons, List.not_mem_nil, or_false] at hu; rcases hu with rfl | rfl | rfl | rfl | rfl | rfl | rfl <;> rfl) 7 rfl
                      have HU9 : Hid (Upd [] w8b w9) := by unfold Hid; rw [← hw9]; exact (Upd.refl [] w8b).alloc _
                      have hki := HS.out.ki
                      have HBD : Hid (k + 1 ≤ maxLen ∧ (k + 1) * 72 ≤ 140737488355328) := tr_bd hki hi hm
                      have HTX : Hid (RowO w9 59 7 ao k cap (X.flatMap ptVs)) := by
                        have h1 := HS.out.trx.row.lt
                        have h2 := HS.out.trx.new
                        refine (((HS.out.trx.row.upd HU6B.out (fun c hc hm => (h2 c hc).2 (by simp only [List.mem_cons, List.not_mem_nil, or_false] at hm; simp [hm]))).upd HF7.out.2 (fun c hc hm => (h2 c hc).2 (by simp [hm]))).upd HUE.out (fun c hc => (tr_far (h2 c hc).2 (h1 c hc) HFX.out.2.2.2.1.1).1)).upd HU9.out (by simp)
                      have zx := HBXE.out
                      have y0 := zx.cell (j := 0) rfl
                      have y1 := zx.cell (j := 1) rfl
                      have y2 := zx.cell (j := 2) rfl
                      have y3 := zx.cell (j := 3) rfl
                      have y4 := zx.cell (j := 4) rfl
                      have y5 := zx.cell (j := 5) rfl
                      have y6 := zx.cell (j := 6) rfl
                      have g3 := zx.free 3
                      have g4 := zx.free 4
                      have g5 := zx.free 5
                      have g6 := zx.free 6
                      have ly := zx.lt
                      clear zx
                      go_wp2_with (at_builtin; (refine wpList_app2 _ (by rfl) _ _ _ (by rfl) 59 ip _ 7 72 underlyingPts_ hip hp0 hp1 hp2 rfl (by omega) ao k cap (X.flatMap ptVs) (by rfl) HTX.out (some ⟨w8b.heap.size, 0, none⟩) 1 1 (ptVs ⟨s1, j, a, ⟨re, rr.1.L, rn, rv⟩, .slice ao7 rl cap7⟩) (by rfl) HSRC.out HBD.out.1 HBD.out.2 ?_); (intro ao3 cap3 w10 hA3; have HA3 := Lib.hid hA3; clear hA3))
                      have hre := HRE.out
                      have hrr : rr.1 = ⟨re, rr.1.L, rn, rv⟩ := by rw [← hre.1, ← hre.2.1, ← hre.2.2.1]
                      have HAE1 : Hid ((va.set j ((a : Int) + 1)).length = n) := by unfold Hid; rw [List.length_set]; exact HS.out.lenA
                      have HAE2 : Hid (∀ y ∈ va.set j ((a : Int) + 1), 0 ≤ y) := tr_set0 HS.out.a0 (tr_succ a) j
                      have HLE1 : Hid (((vl6.set j (v9 : Int)).set j 0).length = n) := by unfold Hid; rw [List.length_set]; exact HLA1.out
                      have HLE2 : Hid (∀ y ∈ (vl6.set j (v9 : Int)).set j 0, 0 ≤ y ∧ y ≤ 16) := tr_set HLA2.out ⟨Int.le_refl 0, by decide⟩ j
                      have hfin := HS.out.step (q := (⟨4, 0, 0, 0⟩)) (s' := s1) (va' := (va.set j ((a : Int) + 1))) (vl' := ((vl6.set j (v9 : Int)).set j 0)) (y := ⟨s1, j, a, ⟨re, rr.1.L, rn, rv⟩, .slice ao7 rl cap7⟩) (G' := G') (T := ([bx, bl, ba])) HG.out HU6B.out (by rw [HRR.out]; exact HM7.out) HF7.out HUE.out
                        (tr_T HFX.out.2.2.2.1).1
                        HAE.out HAE1.out HAE2.out HLE.out HLE1.out HLE2.out HU9.out HA3.out
                        (by
                          have h1 : RowO w9 54 3 ao7 rl cap7 (rr.1.L.flatMap pkVs) := by
                            have := HRO7.out
                            rw [hre.2.2.2] at this
                            exact (this.upd HUE.out (fun b hb => (tr_new (HRN7.out b hb).1 HFX.out.2.2.2.1.2 (tr_lt HS.out.rowA.lt HU6B.out.size (Nat.le_refl _)) (tr_lt HS.out.rowL.lt HU6B.out.size (Nat.le_refl _))).1)).upd HU9.out (by simp)
                          have h2 := h1.sl
                          show SlAt w9 3 _ rr.1.L.length _
                          rw [hre.2.2.2]; exact h2)
                        (fun x hx => HRN7.out x (lvB_blk hx)) (by have h1 := trace_part (c := p.c) (m := m) (st := s1) (lv := .slice ao7 rl cap7) HX.out HC.out HCND.out; rw [HRR.out, hrr] at h1; exact h1) rfl HS1.out.1 HS1.out.2 (by rw [HRR.out]; exact hrr.symm)
                      rw [HRR.out] at hfin
                      exact ⟨⟨i + 1, s1, ao3, k + 1, cap3, _, _, _, _, _, by congr 1, rfl, rfl, hlt, hfin⟩, tr_meas hlt⟩
                    · skip
                      have rl8 := row_in HL8A.out HV8.out
                      have fl8 := HL8A.out.free j
                      have ll8 := HL8A.out.lt
                      have ra8 := row_in HA8A.out HVA.out
                      have fa8 := HA8A.out.free j
                      have la8 := HA8A.out.lt
                      have x3 := HBXE.out.cell (j := 3) rfl
                      have lx := HBXE.out.lt
                      have nab : ba ≠ bl := HG.out.ne
                      have nba : bl ≠ ba := HG.out.ne.symm
                      have bka : a + 1 ≤ 9223372036854775807 := Nat.le_trans hal bm
                      go_upto_region 29 with (fail)
                      obtain ⟨w8b, hw8b⟩ : ∃ y, (w8a.setCell ⟨bl, j, none⟩ (.int .i64 0)).setCell ⟨ba, j, none⟩ (.int .i64 ((a : Int) + 1)) = y := ⟨_, rfl⟩
                      have hL8b : Row w8b 3 1 bl n n (((vl6.set j (v9 : Int)).set j 0).flatMap inV) := by rw [← hw8b]; exact (row_put HL8A.out HV8.out 0).setFar (a := ⟨ba, j, none⟩) HG.out.ne _
                      have hA8b : Row w8b 3 1 ba n n ((va.set j ((a : Int) + 1)).flatMap inV) := by rw [← hw8b]; exact row_put (HA8A.out.setFar (a := ⟨bl, j, none⟩) HG.out.ne.symm _) HVA.out _
                      have hu8b : Upd [bl, ba] w8a w8b := by rw [← hw8b]; exact ((Upd.refl [bl, ba] w8a).setCell (.inl (by simp)) _).setCell (.inl (by simp)) _
                      have HBXE : Hid (Blk w8b bx 59 [.int .i64 s1, .int .i64 j, .int .i64 a, .int .i64 re, .slice ao7 rl cap7, .int .i64 rn, .int .u64 rv]) := HBXE.out.upd hu8b (tr_two HFX.out.2.2.1 HFX.out.2.1)
                      have HUE : Hid (Upd [bx, bl, ba] w7 w8b) := (HUE.out.mono (fun _ _ h => by simp at h; rcases h with h | h <;> simp [h])).trans (hu8b.mono (fun _ _ h => by simp at h; rcases h with h | h <;> simp [h]))
                      have HAE := Lib.hid hA8b
                      have HLE := Lib.hid hL8b
                      rw [hw8b]
                      clear rl8 fl8 ll8 ra8 fa8 la8 x3 lx nab nba hw8b hA8b hL8b hu8b
                      -- the point is appended: w8b: the world; HUE.out: what may have been written behind w7; 1, $4: the rows
                      obtain ⟨ip, hip, hp0, hp1, hp2⟩ := info_parts infoPt_
                      obtain ⟨w9, hw9⟩ : ∃ y, w8b.alloc (.cells #[.int .i64 s1, .int .i64 j, .int .i64 a, .int .i64 re, .slice ao7 rl cap7, .int .i64 rn, .int .u64 rv] 59) = y := ⟨_, rfl⟩
                      have HSRC : Hid (Src w9 7 (some ⟨w8b.heap.size, 0, none⟩) 1 (ptVs ⟨s1, j, a, ⟨re, rr.1.L, rn, rv⟩, .slice ao7 rl cap7⟩)) := by
                        unfold Hid; rw [← hw9]
                        exact one_src w8b 59 [.int .i64 s1, .int .i64 j, .int .i64 a, .int .i64 re, .slice ao7 rl cap7, .int .i64 rn, .int .u64 rv] (by intro u hu; simp only [List.mem_cons, List.not_mem_nil, or_false] at hu; rcases hu with rfl | rfl | rfl | rfl | rfl | rfl | rfl <;> rfl) 7 rfl
                      have HU9 : Hid (Upd [] w8b w9) := by unfold Hid; rw [← hw9]; exact (Upd.refl [] w8b).alloc _
                      have hki := HS.out.ki
                      have HBD : Hid (k + 1 ≤ maxLen ∧ (k + 1) * 72 ≤ 140737488355328) := tr_bd hki hi hm
                      have HTX : Hid (RowO w9 59 7 ao k cap (X.flatMap ptVs)) := by
                        have h1 := HS.out.trx.row.lt
                        have h2 := HS.out.trx.new
                        refine (((HS.out.trx.row.upd HU6B.out (fun c hc hm => (h2 c hc).2 (by simp only [List.mem_cons, List.not_mem_nil, or_false] at hm; simp [hm]))).upd HF7.out.2 (fun c hc hm => (h2 c hc).2 (by simp [hm]))).upd HUE.out (fun c hc => (tr_far (h2 c hc).2 (h1 c hc) HFX.out.2.2.2.1.1).1)).upd HU9.out (by simp)
                      have zx := HBXE.out
                      have y0 := zx.cell (j := 0) rfl
                      have y1 := zx.cell (j := 1) rfl
                      have y2 := zx.cell (j := 2) rfl
                      have y3 := zx.cell (j := 3) rfl
                      have y4 := zx.cell (j := 4) rfl
                      have y5 := zx.cell (j := 5) rfl
                      have y6 := zx.cell (j := 6) rfl
                      have g3 := zx.free 3
                      have g4 := zx.free 4
                      have g5 := zx.free 5
                      have g6 := zx.free 6
                      have ly := zx.lt
                      clear zx
                      go_wp2_with (at_builtin; (refine wpList_app2 _ (by rfl) _ _ _ (by rfl) 59 ip _ 7 72 underlyingPts_ hip hp0 hp1 hp2 rfl (by omega) ao k cap (X.flatMap ptVs) (by rfl) HTX.out (some ⟨w8b.heap.size, 0, none⟩) 1 1 (ptVs ⟨s1, j, a, ⟨re, rr.1.L, rn, rv⟩, .slice ao7 rl cap7⟩) (by rfl) HSRC.out HBD.out.1 HBD.out.2 ?_); (intro ao3 cap3 w10 hA3; have HA3 := Lib.hid hA3; clear hA3))
                      have hre := HRE.out
                      have hrr : rr.1 = ⟨re, rr.1.L, rn, rv⟩ := by rw [← hre.1, ← hre.2.1, ← hre.2.2.1]
                      have HAE1 : Hid ((va.set j ((a : Int) + 1)).length = n) := by unfold Hid; rw [List.length_set]; exact HS.out.lenA
                      have HAE2 : Hid (∀ y ∈ va.set j ((a : Int) + 1), 0 ≤ y) := tr_set0 HS.out.a0 (tr_succ a) j
                      have HLE1 : Hid (((vl6.set j (v9 : Int)).set j 0).length = n) := by unfold Hid; rw [List.length_set]; exact HLA1.out
                      have HLE2 : Hid (∀ y ∈ (vl6.set j (v9 : Int)).set j 0, 0 ≤ y ∧ y ≤ 16) := tr_set HLA2.out ⟨Int.le_refl 0, by decide⟩ j
                      have hfin := HS.out.step (q := (⟨4, 0, 0, 0⟩)) (s' := s1) (va' := (va.set j ((a : Int) + 1))) (vl' := ((vl6.set j (v9 : Int)).set j 0)) (y := ⟨s1, j, a, ⟨re, rr.1.L, rn, rv⟩, .slice ao7 rl cap7⟩) (G' := G') (T := ([bx, bl, ba])) HG.out HU6B.out (by rw [HRR.out]; exact HM7.out) HF7.out HUE.out
                        (tr_T HFX.out.2.2.2.1).1
                        HAE.out HAE1.out HAE2.out HLE.out HLE1.out HLE2.out HU9.out HA3.out
                        (by
                          have h1 : RowO w9 54 3 ao7 rl cap7 (rr.1.L.flatMap pkVs) := by
                            have := HRO7.out
                            rw [hre.2.2.2] at this
                            exact (this.upd HUE.out (fun b hb => (tr_new (HRN7.out b hb).1 HFX.out.2.2.2.1.2 (tr_lt HS.out.rowA.lt HU6B.out.size (Nat.le_refl _)) (tr_lt HS.out.rowL.lt HU6B.out.size (Nat.le_refl _))).1)).upd HU9.out (by simp)
                          have h2 := h1.sl
                          show SlAt w9 3 _ rr.1.L.length _
                          rw [hre.2.2.2]; exact h2)
                        (fun x hx => HRN7.out x (lvB_blk hx)) (by have h1 := trace_part (c := p.c) (m := m) (st := s1) (lv := .slice ao7 rl cap7) HX.out HC.out HCND.out; rw [HRR.out, hrr] at h1; exact h1) rfl HS1.out.1 HS1.out.2 (by rw [HRR.out]; exact hrr.symm)
                      rw [HRR.out] at hfin
                      exact ⟨⟨i + 1, s1, ao3, k + 1, cap3, _, _, _, _, _, by congr 1, rfl, rfl, hlt, hfin⟩, tr_meas hlt⟩
                    · skip
                      have rl8 := row_in HL8A.out HV8.out
                      have ll8 := HL8A.out.lt
                      have x3 := HBXE.out.cell (j := 3) rfl
                      have lx := HBXE.out.lt
                      go_upto_region 29 with (fail)
                      clear rl8 ll8 x3 lx
                      -- the point is appended: w8a: the world; HUE.out: what may have been written behind w7; 2.1, $4: the rows
                      obtain ⟨ip, hip, hp0, hp1, hp2⟩ := info_parts infoPt_
                      obtain ⟨w9, hw9⟩ : ∃ y, w8a.alloc (.cells #[.int .i64 s1, .int .i64 j, .int .i64 a, .int .i64 re, .slice ao7 rl cap7, .int .i64 rn, .int .u64 rv] 59) = y := ⟨_, rfl⟩
                      have HSRC : Hid (Src w9 7 (some ⟨w8a.heap.size, 0, none⟩) 1 (ptVs ⟨s1, j, a, ⟨re, rr.1.L, rn, rv⟩, .slice ao7 rl cap7⟩)) := by
                        unfold Hid; rw [← hw9]
                        exact one_src w8a 59 [.int .i64 s1, .int .i64 j, .int .i64 a, .int .i64 re, .slice ao7 rl cap7, .int .i64 rn, .int .u64 rv] (by intro u hu; simp only [List.mem_cons, List.not_mem_nil, or_false] at hu; rcases hu with rfl | rfl | rfl | rfl | rfl | rfl | rfl <;> rfl) 7 rfl
                      have HU9 : Hid (Upd [] w8a w9) := by unfold Hid; rw [← hw9]; exact (Upd.refl [] w8a).alloc _
                      have hki := HS.out.ki
                      have HBD : Hid (k + 1 ≤ maxLen ∧ (k + 1) * 72 ≤ 140737488355328) := tr_bd hki hi hm
                      have HTX : Hid (RowO w9 59 7 ao k cap (X.flatMap ptVs)) := by
                        have h1 := HS.out.trx.row.lt
                        have h2 := HS.out.trx.new
                        refine (((HS.out.trx.row.upd HU6B.out (fun c hc hm => (h2 c hc).2 (by simp only [List.mem_cons, List.not_mem_nil, or_false] at hm; simp [hm]))).upd HF7.out.2 (fun c hc hm => (h2 c hc).2 (by simp [hm]))).upd HUE.out (fun c hc => (tr_far (h2 c hc).2 (h1 c hc) HFX.out.2.2.2.1.1).2.1)).upd HU9.out (by simp)
                      have zx := HBXE.out
                      have y0 := zx.cell (j := 0) rfl
                      have y1 := zx.cell (j := 1) rfl
                      have y2 := zx.cell (j := 2) rfl
                      have y3 := zx.cell (j := 3) rfl
                      have y4 := zx.cell (j := 4) rfl
                      have y5 := zx.cell (j := 5) rfl
                      have y6 := zx.cell (j := 6) rfl
                      have g3 := zx.free 3
                      have g4 := zx.free 4
                      have g5 := zx.free 5
                      have g6 := zx.free 6
                      have ly := zx.lt
                      clear zx
                      go_wp2_with (at_builtin; (refine wpList_app2 _ (by rfl) _ _ _ (by rfl) 59 ip _ 7 72 underlyingPts_ hip hp0 hp1 hp2 rfl (by omega) ao k cap (X.flatMap ptVs) (by rfl) HTX.out (some ⟨w8a.heap.size, 0, none⟩) 1 1 (ptVs ⟨s1, j, a, ⟨re, rr.1.L, rn, rv⟩, .slice ao7 rl cap7⟩) (by rfl) HSRC.out HBD.out.1 HBD.out.2 ?_); (intro ao3 cap3 w10 hA3; have HA3 := Lib.hid hA3; clear hA3))
                      have hre := HRE.out
                      have hrr : rr.1 = ⟨re, rr.1.L, rn, rv⟩ := by rw [← hre.1, ← hre.2.1, ← hre.2.2.1]
                      have HAE := HA8A
                      have HLE := HL8A
                      have HAE1 : Hid (va.length = n) := HS.out.lenA
                      have HAE2 : Hid (∀ y ∈ va, 0 ≤ y) := HS.out.a0
                      have HLE1 := HLA1
                      have HLE2 := HLA2
                      have hfin := HS.out.step (q := (⟨4, 0, 0, 0⟩)) (s' := s1) (va' := va) (vl' := (vl6.set j (v9 : Int))) (y := ⟨s1, j, a, ⟨re, rr.1.L, rn, rv⟩, .slice ao7 rl cap7⟩) (G' := G') (T := ([bx, bl])) HG.out HU6B.out (by rw [HRR.out]; exact HM7.out) HF7.out HUE.out
                        (tr_T HFX.out.2.2.2.1).2.1
                        HAE.out HAE1.out HAE2.out HLE.out HLE1.out HLE2.out HU9.out HA3.out
                        (by
                          have h1 : RowO w9 54 3 ao7 rl cap7 (rr.1.L.flatMap pkVs) := by
                            have := HRO7.out
                            rw [hre.2.2.2] at this
                            exact (this.upd HUE.out (fun b hb => (tr_new (HRN7.out b hb).1 HFX.out.2.2.2.1.2 (tr_lt HS.out.rowA.lt HU6B.out.size (Nat.le_refl _)) (tr_lt HS.out.rowL.lt HU6B.out.size (Nat.le_refl _))).2.1)).upd HU9.out (by simp)
                          have h2 := h1.sl
                          show SlAt w9 3 _ rr.1.L.length _
                          rw [hre.2.2.2]; exact h2)
                        (fun x hx => HRN7.out x (lvB_blk hx)) (by have h1 := trace_part (c := p.c) (m := m) (st := s1) (lv := .slice ao7 rl cap7) HX.out HC.out HCND.out; rw [HRR.out, hrr] at h1; exact h1) rfl HS1.out.1 HS1.out.2 (by rw [HRR.out]; exact hrr.symm)
                      rw [HRR.out] at hfin
                      exact ⟨⟨i + 1, s1, ao3, k + 1, cap3, _, _, _, _, _, by congr 1, rfl, rfl, hlt, hfin⟩, tr_meas hlt⟩
                  · have s22 : (v == 0) = false := by simp [hv0]
                    obtain ⟨v9, hv9⟩ : ∃ v9 : Nat, v = (v9 : Int) + 1 := ⟨(v - 1).toNat, by omega⟩
                    have HV9 : Hid (v9 ≤ 15) := by unfold Hid; omega
                    subst hv9
                    have HV6 := Lib.hid hv
                    obtain ⟨vl6, hvl6⟩ : ∃ y, y = vl := ⟨_, rfl⟩
                    rw [← hvl6] at HV6 HL6
                    have HV6L : Hid (vl6.length = n) := by unfold Hid; rw [hvl6]; exact HS.out.lenL
                    have HV6B : Hid (∀ y ∈ vl6, 0 ≤ y ∧ y ≤ 16) := fun y hy => HS.out.l0 y (by rw [← hvl6]; exact hy)
                    have HM6 := Lib.hid (HS.out.mod.upd HU6.out)
                    have HA6 := Lib.hid (HS.out.rowA.upd HU6.out (by simp))
                    have HU6B : Hid (Upd [bl] wd w6) := HU6.out.nil
                    clear hv0 hca hvb hv hvl6
                    go_upto_region 24 with (fail)
                    clear rl6 ll6 fl6 s22
                    -- a part of a batch: vl6 holds at j how many parts are left, v9 + 1
                    have HFX : Hid (bx ∉ G ∧ ba ≠ bx ∧ bl ≠ bx ∧ (wd.heap.size ≤ bx ∧ bx < w6.heap.size) ∧ ba ≠ bl) := ⟨fun hm => absurd (HS.out.mod.lt bx hm) (Nat.not_lt.2 HBXN.out), fun e => absurd HS.out.rowA.lt (Nat.not_lt.2 (e ▸ HBXN.out)), fun e => absurd HS.out.rowL.lt (Nat.not_lt.2 (e ▸ HBXN.out)), ⟨HBXN.out, HBX.out.lt⟩, HG.out.ne⟩
                    -- the call of the model; its answer is stored
                    obtain ⟨rr, hrr⟩ : ∃ y, doM p.c m (⟨4, 0, 0, 0⟩) = y := ⟨_, rfl⟩
                    have hdc := ddo_any HM6.out (tr_mn HS.out.mn hi hm) (⟨4, 0, 0, 0⟩)
                    rw [hrr] at hdc
                    have HDC : Hid (Calls Tryz.prog 42 #[.pointer (some ⟨mb, 0, none⟩), .agg #[.int .i64 4, .int .i64 0, .int .i64 0, .int .i64 0]] w6 (DTo w mb p.c rr G w6)) := hdc
                    have HRR : Hid (doM p.c m (⟨4, 0, 0, 0⟩) = rr) := hrr
                    clear hdc hrr
                    go_upto_region 24 with (fail)
                    go_wp2_with fail
                    refine HDC.out.mono ?_
                    rintro e w7 hto
                    obtain ⟨v, G', rfl, hm7, hf7, hr7⟩ := hto
                    obtain ⟨ao7, cap7, rfl, hro7, hrn7⟩ := hr7
                    have HM7 := Lib.hid hm7
                    have HF7 := Lib.hid hf7
                    have HRO7 := Lib.hid hro7
                    have HRN7 := Lib.hid hrn7
                    have hbx7 := HBX.out.upd hf7.2 HFX.out.1
                    have HA7 := Lib.hid (HA6.out.upd hf7.2 (HS.out.far HG.out).1)
                    have HL7 := Lib.hid (HL6.out.upd hf7.2 (HS.out.far HG.out).2)
                    obtain ⟨re, hre⟩ : ∃ y, rr.1.e = y := ⟨_, rfl⟩
                    obtain ⟨rn, hrn⟩ : ∃ y, rr.1.n = y := ⟨_, rfl⟩
                    obtain ⟨rv, hrv⟩ : ∃ y, rr.1.v = y := ⟨_, rfl⟩
                    obtain ⟨rl, hrl⟩ : ∃ y, rr.1.L.length = y := ⟨_, rfl⟩
                    rw [hre, hrn, hrv, hrl]
                    have HRE : Hid (rr.1.e = re ∧ rr.1.n = rn ∧ rr.1.v = rv ∧ rr.1.L.length = rl) := ⟨hre, hrn, hrv, hrl⟩
                    clear hm7 hf7 hro7 hrn7 hre hrn hrv hrl k0 k1 k2 k3 lc
                    have y0 := hbx7.cell (j := 0) rfl
                    have y1 := hbx7.cell (j := 1) rfl
                    have y2 := hbx7.cell (j := 2) rfl
                    have y3 := hbx7.cell (j := 3) rfl
                    have y4 := hbx7.cell (j := 4) rfl
                    have y5 := hbx7.cell (j := 5) rfl
                    have y6 := hbx7.cell (j := 6) rfl
                    have g3 := hbx7.free 3
                    have g4 := hbx7.free 4
                    have g5 := hbx7.free 5
                    have g6 := hbx7.free 6
                    have ly := hbx7.lt
                    go_upto_region 25 with (fail)
                    obtain ⟨w8, hw8⟩ : ∃ y, (((w7.setCell ⟨bx, 3, none⟩ (.int .i64 re)).setCell ⟨bx, 4, none⟩ (.slice ao7 rl cap7)).setCell ⟨bx, 5, none⟩ (.int .i64 rn)).setCell ⟨bx, 6, none⟩ (.int .u64 rv) = y := ⟨_, rfl⟩
                    have hbx8 : Blk w8 bx 59 [.int .i64 s1, .int .i64 j, .int .i64 a, .int .i64 re, .slice ao7 rl cap7, .int .i64 rn, .int .u64 rv] := by rw [← hw8]; exact (((hbx7.set 3 (.int .i64 re)).set 4 (.slice ao7 rl cap7)).set 5 (.int .i64 rn)).set 6 (.int .u64 rv)
                    have hu8 : Upd [bx] w7 w8 := by rw [← hw8]; exact ((((Upd.refl [bx] w7).setCell (.inl (by simp)) _).setCell (.inl (by simp)) _).setCell (.inl (by simp)) _).setCell (.inl (by simp)) _
                    rw [hw8]
                    have HU8 := Lib.hid hu8
                    have HBX8 := Lib.hid hbx8
                    have HA8 := Lib.hid (HA7.out.upd hu8 (by simpa using HFX.out.2.1))
                    have HL8 := Lib.hid (HL7.out.upd hu8 (by simpa using HFX.out.2.2.1))
                    clear y0 y1 y2 y3 y4 y5 y6 g3 g4 g5 g6 ly hw8 hu8 hbx8 hbx7
                    have rl8 := row_in HL8.out HV6.out
                    have fl8 := HL8.out.free j
                    have ll8 := HL8.out.lt
                    have wq1 := (tr_wrap HV9.out).1
                    have wq2 := (tr_wrap HV9.out).2.1
                    have wq3 := (tr_wrap HV9.out).2.2.1
                    have wq4 := (tr_wrap HV9.out).2.2.2
                    go_upto_region 26 with (fail)
                    try rw [wq1]
                    try rw [wq3]
                    obtain ⟨w8a, hw8a⟩ : ∃ y, w8.setCell ⟨bl, j, none⟩ (.int .i64 (v9 : Int)) = y := ⟨_, rfl⟩
                    have hL8a : Row w8a 3 1 bl n n ((vl6.set j (v9 : Int)).flatMap inV) := by rw [← hw8a]; exact row_put HL8.out HV6.out _
                    have hu8a : Upd [bl] w8 w8a := by rw [← hw8a]; exact (Upd.refl [bl] w8).setCell (.inl (by simp)) _
                    rw [hw8a]
                    have HL8A := Lib.hid hL8a
                    have HA8A := Lib.hid (HA8.out.upd hu8a (by simpa using HG.out.ne))
                    have HBXE : Hid (Blk w8a bx 59 [.int .i64 s1, .int .i64 j, .int .i64 a, .int .i64 re, .slice ao7 rl cap7, .int .i64 rn, .int .u64 rv]) := HBX8.out.upd hu8a (by simpa using fun e => HFX.out.2.2.1 e.symm)
                    have HUE : Hid (Upd [bx, bl] w7 w8a) := (HU8.out.mono (fun _ _ h => by simp at h; simp [h])).trans (hu8a.mono (fun _ _ h => by simp at h; simp [h]))
                    have HV8 : Hid ((vl6.set j (v9 : Int))[j]? = some (v9 : Int)) := by
                      unfold Hid
                      have := (List.getElem?_eq_some_iff.1 HV6.out).1
                      rw [List.getElem?_set_self this]
                    have HLA1 : Hid ((vl6.set j (v9 : Int)).length = n) := by unfold Hid; rw [List.length_set]; exact HV6L.out
                    have HLA2 : Hid (∀ y ∈ vl6.set j (v9 : Int), 0 ≤ y ∧ y ≤ 16) := tr_set HV6B.out (tr_nat HV9.out).1 j
                    clear rl8 fl8 ll8 hw8a hL8a hu8a wq1 wq2
                    rcases tr_cases v9 re with ⟨q0, q0'⟩ | ⟨q0, q0', q1⟩ | ⟨q0, q0', q1⟩
                    · skip
                      have rl8 := row_in HL8A.out HV8.out
                      have fl8 := HL8A.out.free j
                      have ll8 := HL8A.out.lt
                      have ra8 := row_in HA8A.out HVA.out
                      have fa8 := HA8A.out.free j
                      have la8 := HA8A.out.lt
                      have x3 := HBXE.out.cell (j := 3) rfl
                      have lx := HBXE.out.lt
                      have nab : ba ≠ bl := HG.out.ne
                      have nba : bl ≠ ba := HG.out.ne.symm
                      have bka : a + 1 ≤ 9223372036854775807 := Nat.le_trans hal bm
                      go_upto_region 29 with (fail)
                      obtain ⟨w8b, hw8b⟩ : ∃ y, (w8a.setCell ⟨bl, j, none⟩ (.int .i64 0)).setCell ⟨ba, j, none⟩ (.int .i64 ((a : Int) + 1)) = y := ⟨_, rfl⟩
                      have hL8b : Row w8b 3 1 bl n n (((vl6.set j (v9 : Int)).set j 0).flatMap inV) := by rw [← hw8b]; exact (row_put HL8A.out HV8.out 0).setFar (a := ⟨ba, j, none⟩) HG.out.ne _
                      have hA8b : Row w8b 3 1 ba n n ((va.set j ((a : Int) + 1)).flatMap inV) := by rw [← hw8b]; exact row_put (HA8A.out.setFar (a := ⟨bl, j, none⟩) HG.out.ne.symm _) HVA.out _
                      have hu8b : Upd [bl, ba] w8a w8b := by rw [← hw8b]; exact ((Upd.refl [bl, ba] w8a).setCell (.inl (by simp)) _).setCell (.inl (by simp)) _
                      have HBXE : Hid (Blk w8b bx 59 [.int .i64 s1, .int .i64 j, .int .i64 a, .int .i64 re, .slice ao7 rl cap7, .int .i64 rn, .int .u64 rv]) := HBXE.out.upd hu8b (tr_two HFX.out.2.2.1 HFX.out.2.1)
                      have HUE : Hid (Upd [bx, bl, ba] w7 w8b) := (HUE.out.mono (fun _ _ h => by simp at h; rcases h with h | h <;> simp [h])).trans (hu8b.mono (fun _ _ h => by simp at h; rcases h with h | h <;> simp [h]))
                      have HAE := Lib.hid hA8b
                      have HLE := Lib.hid hL8b
                      rw [hw8b]
                      clear rl8 fl8 ll8 ra8 fa8 la8 x3 lx nab nba hw8b hA8b hL8b hu8b
                      -- the point is appended: w8b: the world; HUE.out: what may have been written behind w7; 1, $4: the rows
                      obtain ⟨ip, hip, hp0, hp1, hp2⟩ := info_parts infoPt_
                      obtain ⟨w9, hw9⟩ : ∃ y, w8b.alloc (.cells #[.int .i64 s1, .int .i64 j, .int .i64 a, .int .i64 re, .slice ao7 rl cap7, .int .i64 rn, .int .u64 rv] 59) = y := ⟨_, rfl⟩
                      have HSRC : Hid (Src w9 7 (some ⟨w8b.heap.size, 0, none⟩) 1 (ptVs ⟨s1, j, a, ⟨re, rr.1.L, rn, rv⟩, .slice ao7 rl cap7⟩)) := by
                        unfold Hid; rw [← hw9]
                        exact one_src w8b 59 [.int .i64 s1, .int .i64 j, .int .i64 a, .int .i64 re, .slice ao7 rl cap7, .int .i64 rn, .int .u64 rv] (by intro u hu; simp only [List.mem_cons, List.not_mem_nil, or_false] at hu; rcases hu with rfl | rfl | rfl | rfl | rfl | rfl | rfl <;> rfl) 7 rfl
                      have HU9 : Hid (Upd [] w8b w9) := by unfold Hid; rw [← hw9]; exact (Upd.refl [] w8b).alloc _
                      have hki := HS.out.ki
                      have HBD : Hid (k + 1 ≤ maxLen ∧ (k + 1) * 72 ≤ 140737488355328) := tr_bd hki hi hm
                      have HTX : Hid (RowO w9 59 7 ao k cap (X.flatMap ptVs)) := by
                        have h1 := HS.out.trx.row.lt
                        have h2 := HS.out.trx.new
                        refine (((HS.out.trx.row.upd HU6B.out (fun c hc hm => (h2 c hc).2 (by simp only [List.mem_cons, List.not_mem_nil, or_false] at hm; simp [hm]))).upd HF7.out.2 (fun c hc hm => (h2 c hc).2 (by simp [hm]))).upd HUE.out (fun c hc => (tr_far (h2 c hc).2 (h1 c hc) HFX.out.2.2.2.1.1).1)).upd HU9.out (by simp)
                      have zx := HBXE.out
                      have y0 := zx.cell (j := 0) rfl
                      have y1 := zx.cell (j := 1) rfl
                      have y2 := zx.cell (j := 2) rfl
                      have y3 := zx.cell (j := 3) rfl
                      have y4 := zx.cell (j := 4) rfl
                      have y5 := zx.cell (j := 5) rfl
                      have y6 := zx.cell (j := 6) rfl
                      have g3 := zx.free 3
                      have g4 := zx.free 4
                      have g5 := zx.free 5
                      have g6 := zx.free 6
                      have ly := zx.lt
                      clear zx
                      go_wp2_with (at_builtin; (refine wpList_app2 _ (by rfl) _ _ _ (by rfl) 59 ip _ 7 72 underlyingPts_ hip hp0 hp1 hp2 rfl (by omega) ao k cap (X.flatMap ptVs) (by rfl) HTX.out (some ⟨w8b.heap.size, 0, none⟩) 1 1 (ptVs ⟨s1, j, a, ⟨re, rr.1.L, rn, rv⟩, .slice ao7 rl cap7⟩) (by rfl) HSRC.out HBD.out.1 HBD.out.2 ?_); (intro ao3 cap3 w10 hA3; have HA3 := Lib.hid hA3; clear hA3))
                      have hre := HRE.out
                      have hrr : rr.1 = ⟨re, rr.1.L, rn, rv⟩ := by rw [← hre.1, ← hre.2.1, ← hre.2.2.1]
                      have HAE1 : Hid ((va.set j ((a : Int) + 1)).length = n) := by unfold Hid; rw [List.length_set]; exact HS.out.lenA
                      have HAE2 : Hid (∀ y ∈ va.set j ((a : Int) + 1), 0 ≤ y) := tr_set0 HS.out.a0 (tr_succ a) j
                      have HLE1 : Hid (((vl6.set j (v9 : Int)).set j 0).length = n) := by unfold Hid; rw [List.length_set]; exact HLA1.out
                      have HLE2 : Hid (∀ y ∈ (vl6.set j (v9 : Int)).set j 0, 0 ≤ y ∧ y ≤ 16) := tr_set HLA2.out ⟨Int.le_refl 0, by decide⟩ j
                      have hfin := HS.out.step (q := (⟨4, 0, 0, 0⟩)) (s' := s1) (va' := (va.set j ((a : Int) + 1))) (vl' := ((vl6.set j (v9 : Int)).set j 0)) (y := ⟨s1, j, a, ⟨re, rr.1.L, rn, rv⟩, .slice ao7 rl cap7⟩) (G' := G') (T := ([bx, bl, ba])) HG.out HU6B.out (by rw [HRR.out]; exact HM7.out) HF7.out HUE.out
                        (tr_T HFX.out.2.2.2.1).1
                        HAE.out HAE1.out HAE2.out HLE.out HLE1.out HLE2.out HU9.out HA3.out
                        (by
                          have h1 : RowO w9 54 3 ao7 rl cap7 (rr.1.L.flatMap pkVs) := by
                            have := HRO7.out
                            rw [hre.2.2.2] at this
                            exact (this.upd HUE.out (fun b hb => (tr_new (HRN7.out b hb).1 HFX.out.2.2.2.1.2 (tr_lt HS.out.rowA.lt HU6B.out.size (Nat.le_refl _)) (tr_lt HS.out.rowL.lt HU6B.out.size (Nat.le_refl _))).1)).upd HU9.out (by simp)
                          have h2 := h1.sl
                          show SlAt w9 3 _ rr.1.L.length _
                          rw [hre.2.2.2]; exact h2)
                        (fun x hx => HRN7.out x (lvB_blk hx)) (by have h1 := trace_part (c := p.c) (m := m) (st := s1) (lv := .slice ao7 rl cap7) HX.out HC.out HCND.out; rw [HRR.out, hrr] at h1; exact h1) rfl HS1.out.1 HS1.out.2 (by rw [HRR.out]; exact hrr.symm)
                      rw [HRR.out] at hfin
                      exact ⟨⟨i + 1, s1, ao3, k + 1, cap3, _, _, _, _, _, by congr 1, rfl, rfl, hlt, hfin⟩, tr_meas hlt⟩
                    · skip
                      have rl8 := row_in HL8A.out HV8.out
                      have fl8 := HL8A.out.free j
                      have ll8 := HL8A.out.lt
                      have ra8 := row_in HA8A.out HVA.out
                      have fa8 := HA8A.out.free j
                      have la8 := HA8A.out.lt
                      have x3 := HBXE.out.cell (j := 3) rfl
                      have lx := HBXE.out.lt
                      have nab : ba ≠ bl := HG.out.ne
                      have nba : bl ≠ ba := HG.out.ne.symm
                      have bka : a + 1 ≤ 9223372036854775807 := Nat.le_trans hal bm
                      go_upto_region 29 with (fail)
                      obtain ⟨w8b, hw8b⟩ : ∃ y, (w8a.setCell ⟨bl, j, none⟩ (.int .i64 0)).setCell ⟨ba, j, none⟩ (.int .i64 ((a : Int) + 1)) = y := ⟨_, rfl⟩
                      have hL8b : Row w8b 3 1 bl n n (((vl6.set j (v9 : Int)).set j 0).flatMap inV) := by rw [← hw8b]; exact (row_put HL8A.out HV8.out 0).setFar (a := ⟨ba, j, none⟩) HG.out.ne _
                      have hA8b : Row w8b 3 1 ba n n ((va.set j ((a : Int) + 1)).flatMap inV) := by rw [← hw8b]; exact row_put (HA8A.out.setFar (a := ⟨bl, j, none⟩) HG.out.ne.symm _) HVA.out _
                      have hu8b : Upd [bl, ba] w8a w8b := by rw [← hw8b]; exact ((Upd.refl [bl, ba] w8a).setCell (.inl (by simp)) _).setCell (.inl (by simp)) _
                      have HBXE : Hid (Blk w8b bx 59 [.int .i64 s1, .int .i64 j, .int .i64 a, .int .i64 re, .slice ao7 rl cap7, .int .i64 rn, .int .u64 rv]) := HBXE.out.upd hu8b (tr_two HFX.out.2.2.1 HFX.out.2.1)
                      have HUE : Hid (Upd [bx, bl, ba] w7 w8b) := (HUE.out.mono (fun _ _ h => by simp at h; rcases h with h | h <;> simp [h])).trans (hu8b.mono (fun _ _ h => by simp at h; rcases h with h | h <;> simp [h]))
                      have HAE := Lib.hid hA8b
                      have HLE := Lib.hid hL8b
                      rw [hw8b]
                      clear rl8 fl8 ll8 ra8 fa8 la8 x3 lx nab nba hw8b hA8b hL8b hu8b
                      -- the point is appended: w8b: the world; HUE.out: what may have been written behind w7; 1, $4: the rows
                      obtain ⟨ip, hip, hp0, hp1, hp2⟩ := info_parts infoPt_
                      obtain ⟨w9, hw9⟩ : ∃ y, w8b.alloc (.cells #[.int .i64 s1, .int .i64 j, .int .i64 a, .int .i64 re, .slice ao7 rl cap7, .int .i64 rn, .int .u64 rv] 59) = y := ⟨_, rfl⟩
                      have HSRC : Hid (Src w9 7 (some ⟨w8b.heap.size, 0, none⟩) 1 (ptVs ⟨s1, j, a, ⟨re, rr.1.L, rn, rv⟩, .slice ao7 rl cap7⟩)) := by
                        unfold Hid; rw [← hw9]
                        exact one_src w8b 59 [.int .i64 s1, .int .i64 j, .int .i64 a, .int .i64 re, .slice ao7 rl cap7, .int .i64 rn, .int .u64 rv] (by intro u hu; simp only [List.mem_cons, List.not_mem_nil, or_false] at hu; rcases hu with rfl | rfl | rfl | rfl | rfl | rfl | rfl <;> rfl) 7 rfl
                      have HU9 : Hid (Upd [] w8b w9) := by unfold Hid; rw [← hw9]; exact (Upd.refl [] w8b).alloc _
                      have hki := HS.out.ki
                      have HBD : Hid (k + 1 ≤ maxLen ∧ (k + 1) * 72 ≤ 140737488355328) := tr_bd hki hi hm
                      have HTX : Hid (RowO w9 59 7 ao k cap (X.flatMap ptVs)) := by
                        have h1 := HS.out.trx.row.lt
                        have h2 := HS.out.trx.new
                        refine (((HS.out.trx.row.upd HU6B.out (fun c hc hm => (h2 c hc).2 (by simp only [List.mem_cons, List.not_mem_nil, or_false] at hm; simp [hm]))).upd HF7.out.2 (fun c hc hm => (h2 c hc).2 (by simp [hm]))).upd HUE.out (fun c hc => (tr_far (h2 c hc).2 (h1 c hc) HFX.out.2.2.2.1.1).1)).upd HU9.out (by simp)
                      have zx := HBXE.out
                      have y0 := zx.cell (j := 0) rfl
                      have y1 := zx.cell (j := 1) rfl
                      have y2 := zx.cell (j := 2) rfl
                      have y3 := zx.cell (j := 3) rfl
                      have y4 := zx.cell (j := 4) rfl
                      have y5 := zx.cell (j := 5) rfl
                      have y6 := zx.cell (j := 6) rfl
                      have g3 := zx.free 3
                      have g4 := zx.free 4
                      have g5 := zx.free 5
                      have g6 := zx.free 6
                      have ly := zx.lt
                      clear zx
                      go_wp2_with (at_builtin; (refine wpList_app2 _ (by rfl) _ _ _ (by rfl) 59 ip _ 7 72 underlyingPts_ hip hp0 hp1 hp2 rfl (by omega) ao k cap (X.flatMap ptVs) (by rfl) HTX.out (some ⟨w8b.heap.size, 0, none⟩) 1 1 (ptVs ⟨s1, j, a, ⟨re, rr.1.L, rn, rv⟩, .slice ao7 rl cap7⟩) (by rfl) HSRC.out HBD.out.1 HBD.out.2 ?_); (intro ao3 cap3 w10 hA3; have HA3 := Lib.hid hA3; clear hA3))
                      have hre := HRE.out
                      have hrr : rr.1 = ⟨re, rr.1.L, rn, rv⟩ := by rw [← hre.1, ← hre.2.1, ← hre.2.2.1]
                      have HAE1 : Hid ((va.set j ((a : Int) + 1)).length = n) := by unfold Hid; rw [List.length_set]; exact HS.out.lenA
                      have HAE2 : Hid (∀ y ∈ va.set j ((a : Int) + 1), 0 ≤ y) := tr_set0 HS.out.a0 (tr_succ a) j
                      have HLE1 : Hid (((vl6.set j (v9 : Int)).set j 0).length = n) := by unfold Hid; rw [List.length_set]; exact HLA1.out
                      have HLE2 : Hid (∀ y ∈ (vl6.set j (v9 : Int)).set j 0, 0 ≤ y ∧ y ≤ 16) := tr_set HLA2.out ⟨Int.le_refl 0, by decide⟩ j
                      have hfin := HS.out.step (q := (⟨4, 0, 0, 0⟩)) (s' := s1) (va' := (va.set j ((a : Int) + 1))) (vl' := ((vl6.set j (v9 : Int)).set j 0)) (y := ⟨s1, j, a, ⟨re, rr.1.L, rn, rv⟩, .slice ao7 rl cap7⟩) (G' := G') (T := ([bx, bl, ba])) HG.out HU6B.out (by rw [HRR.out]; exact HM7.out) HF7.out HUE.out
                        (tr_T HFX.out.2.2.2.1).1
                        HAE.out HAE1.out HAE2.out HLE.out HLE1.out HLE2.out HU9.out HA3.out
                        (by
                          have h1 : RowO w9 54 3 ao7 rl cap7 (rr.1.L.flatMap pkVs) := by
                            have := HRO7.out
                            rw [hre.2.2.2] at this
                            exact (this.upd HUE.out (fun b hb => (tr_new (HRN7.out b hb).1 HFX.out.2.2.2.1.2 (tr_lt HS.out.rowA.lt HU6B.out.size (Nat.le_refl _)) (tr_lt HS.out.rowL.lt HU6B.out.size (Nat.le_refl _))).1)).upd HU9.out (by simp)
                          have h2 := h1.sl
                          show SlAt w9 3 _ rr.1.L.length _
                          rw [hre.2.2.2]; exact h2)
                        (fun x hx => HRN7.out x (lvB_blk hx)) (by have h1 := trace_part (c := p.c) (m := m) (st := s1) (lv := .slice ao7 rl cap7) HX.out HC.out HCND.out; rw [HRR.out, hrr] at h1; exact h1) rfl HS1.out.1 HS1.out.2 (by rw [HRR.out]; exact hrr.symm)
                      rw [HRR.out] at hfin
                      exact ⟨⟨i + 1, s1, ao3, k + 1, cap3, _, _, _, _, _, by congr 1, rfl, rfl, hlt, hfin⟩, tr_meas hlt⟩
                    · skip
                      have rl8 := row_in HL8A.out HV8.out
                      have ll8 := HL8A.out.lt
                      have x3 := HBXE.out.cell (j := 3) rfl
                      have lx := HBXE.out.lt
                      go_upto_region 29 with (fail)
                      clear rl8 ll8 x3 lx
                      -- the point is appended: w8a: the world; HUE.out: what may have been written behind w7; 2.1, $4: the rows
                      obtain ⟨ip, hip, hp0, hp1, hp2⟩ := info_parts infoPt_
                      obtain ⟨w9, hw9⟩ : ∃ y, w8a.alloc (.cells #[.int .i64 s1, .int .i64 j, .int .i64 a, .int .i64 re, .slice ao7 rl cap7, .int .i64 rn, .int .u64 rv] 59) = y := ⟨_, rfl⟩
                      have HSRC : Hid (Src w9 7 (some ⟨w8a.heap.size, 0, none⟩) 1 (ptVs ⟨s1, j, a, ⟨re, rr.1.L, rn, rv⟩, .slice ao7 rl cap7⟩)) := by
                        unfold Hid; rw [← hw9]
                        exact one_src w8a 59 [.int .i64 s1, .int .i64 j, .int .i64 a, .int .i64 re, .slice ao7 rl cap7, .int .i64 rn, .int .u64 rv] (by intro u hu; simp only [List.mem_cons, List.not_mem_nil, or_false] at hu; rcases hu with rfl | rfl | rfl | rfl | rfl | rfl | rfl <;> rfl) 7 rfl
                      have HU9 : Hid (Upd [] w8a w9) := by unfold Hid; rw [← hw9]; exact (Upd.refl [] w8a).alloc _
                      have hki := HS.out.ki
                      have HBD : Hid (k + 1 ≤ maxLen ∧ (k + 1) * 72 ≤ 140737488355328) := tr_bd hki hi hm
                      have HTX : Hid (RowO w9 59 7 ao k cap (X.flatMap ptVs)) := by
                        have h1 := HS.out.trx.row.lt
                        have h2 := HS.out.trx.new
                        refine (((HS.out.trx.row.upd HU6B.out (fun c hc hm => (h2 c hc).2 (by simp only [List.mem_cons, List.not_mem_nil, or_false] at hm; simp [hm]))).upd HF7.out.2 (fun c hc hm => (h2 c hc).2 (by simp [hm]))).upd HUE.out (fun c hc => (tr_far (h2 c hc).2 (h1 c hc) HFX.out.2.2.2.1.1).2.1)).upd HU9.out (by simp)
                      have zx := HBXE.out
                      have y0 := zx.cell (j := 0) rfl
                      have y1 := zx.cell (j := 1) rfl
                      have y2 := zx.cell (j := 2) rfl
                      have y3 := zx.cell (j := 3) rfl
                      have y4 := zx.cell (j := 4) rfl
                      have y5 := zx.cell (j := 5) rfl
                      have y6 := zx.cell (j := 6) rfl
                      have g3 := zx.free 3
                      have g4 := zx.free 4
                      have g5 := zx.free 5
                      have g6 := zx.free 6
                      have ly := zx.lt
                      clear zx
                      go_wp2_with (at_builtin; (refine wpList_app2 _ (by rfl) _ _ _ (by rfl) 59 ip _ 7 72 underlyingPts_ hip hp0 hp1 hp2 rfl (by omega) ao k cap (X.flatMap ptVs) (by rfl) HTX.out (some ⟨w8a.heap.size, 0, none⟩) 1 1 (ptVs ⟨s1, j, a, ⟨re, rr.1.L, rn, rv⟩, .slice ao7 rl cap7⟩) (by rfl) HSRC.out HBD.out.1 HBD.out.2 ?_); (intro ao3 cap3 w10 hA3; have HA3 := Lib.hid hA3; clear hA3))
                      have hre := HRE.out
                      have hrr : rr.1 = ⟨re, rr.1.L, rn, rv⟩ := by rw [← hre.1, ← hre.2.1, ← hre.2.2.1]
                      have HAE := HA8A
                      have HLE := HL8A
                      have HAE1 : Hid (va.length = n) := HS.out.lenA
                      have HAE2 : Hid (∀ y ∈ va, 0 ≤ y) := HS.out.a0
                      have HLE1 := HLA1
                      have HLE2 := HLA2
                      have hfin := HS.out.step (q := (⟨4, 0, 0, 0⟩)) (s' := s1) (va' := va) (vl' := (vl6.set j (v9 : Int))) (y := ⟨s1, j, a, ⟨re, rr.1.L, rn, rv⟩, .slice ao7 rl cap7⟩) (G' := G') (T := ([bx, bl])) HG.out HU6B.out (by rw [HRR.out]; exact HM7.out) HF7.out HUE.out
                        (tr_T HFX.out.2.2.2.1).2.1
                        HAE.out HAE1.out HAE2.out HLE.out HLE1.out HLE2.out HU9.out HA3.out
                        (by
                          have h1 : RowO w9 54 3 ao7 rl cap7 (rr.1.L.flatMap pkVs) := by
                            have := HRO7.out
                            rw [hre.2.2.2] at this
                            exact (this.upd HUE.out (fun b hb => (tr_new (HRN7.out b hb).1 HFX.out.2.2.2.1.2 (tr_lt HS.out.rowA.lt HU6B.out.size (Nat.le_refl _)) (tr_lt HS.out.rowL.lt HU6B.out.size (Nat.le_refl _))).2.1)).upd HU9.out (by simp)
                          have h2 := h1.sl
                          show SlAt w9 3 _ rr.1.L.length _
                          rw [hre.2.2.2]; exact h2)
                        (fun x hx => HRN7.out x (lvB_blk hx)) (by have h1 := trace_part (c := p.c) (m := m) (st := s1) (lv := .slice ao7 rl cap7) HX.out HC.out HCND.out; rw [HRR.out, hrr] at h1; exact h1) rfl HS1.out.1 HS1.out.2 (by rw [HRR.out]; exact hrr.symm)
                      rw [HRR.out] at hfin
                      exact ⟨⟨i + 1, s1, ao3, k + 1, cap3, _, _, _, _, _, by congr 1, rfl, rfl, hlt, hfin⟩, tr_meas hlt⟩
            · have p5 : (c.op != 5) = true := by simp [o5]
              have HCND : Hid (¬ (c.op = 5 ∧ 1 ≤ c.a ∧ c.a ≤ 16)) := fun h => o5 h.1
              clear o5
              have HFX : Hid (bx ∉ G ∧ ba ≠ bx ∧ bl ≠ bx ∧ (wd.heap.size ≤ bx ∧ bx < w6.heap.size) ∧ ba ≠ bl) := ⟨fun hm => absurd (HS.out.mod.lt bx hm) (Nat.not_lt.2 HBXN.out), fun e => absurd HS.out.rowA.lt (Nat.not_lt.2 (e ▸ HBXN.out)), fun e => absurd HS.out.rowL.lt (Nat.not_lt.2 (e ▸ HBXN.out)), ⟨HBXN.out, HBX.out.lt⟩, HG.out.ne⟩
              have HM6 := Lib.hid (HS.out.mod.upd HU6.out)
              have HA6 := Lib.hid (HS.out.rowA.upd HU6.out (by simp))
              have HL6 := Lib.hid (HS.out.rowL.upd HU6.out (by simp))
              have HU6B : Hid (Upd [bl] wd w6) := HU6.out.nil
              -- the call of the model; its answer is stored
              obtain ⟨rr, hrr⟩ : ∃ y, doM p.c m c = y := ⟨_, rfl⟩
              have hdc := ddo_any HM6.out (tr_mn HS.out.mn hi hm) c
              rw [hrr] at hdc
              have HDC : Hid (Calls Tryz.prog 42 #[.pointer (some ⟨mb, 0, none⟩), .agg #[.int .i64 c.op, .int .i64 c.flow, .int .i64 c.a, .int .i64 c.b]] w6 (DTo w mb p.c rr G w6)) := hdc
              have HRR : Hid (doM p.c m c = rr) := hrr
              clear hdc hrr
              go_upto_region 19 with (fail)
              go_wp2_with fail
              refine HDC.out.mono ?_
              rintro e w7 hto
              obtain ⟨v, G', rfl, hm7, hf7, hr7⟩ := hto
              obtain ⟨ao7, cap7, rfl, hro7, hrn7⟩ := hr7
              have HM7 := Lib.hid hm7
              have HF7 := Lib.hid hf7
              have HRO7 := Lib.hid hro7
              have HRN7 := Lib.hid hrn7
              have hbx7 := HBX.out.upd hf7.2 HFX.out.1
              have HA7 := Lib.hid (HA6.out.upd hf7.2 (HS.out.far HG.out).1)
              have HL7 := Lib.hid (HL6.out.upd hf7.2 (HS.out.far HG.out).2)
              obtain ⟨re, hre⟩ : ∃ y, rr.1.e = y := ⟨_, rfl⟩
              obtain ⟨rn, hrn⟩ : ∃ y, rr.1.n = y := ⟨_, rfl⟩
              obtain ⟨rv, hrv⟩ : ∃ y, rr.1.v = y := ⟨_, rfl⟩
              obtain ⟨rl, hrl⟩ : ∃ y, rr.1.L.length = y := ⟨_, rfl⟩
              rw [hre, hrn, hrv, hrl]
              have HRE : Hid (rr.1.e = re ∧ rr.1.n = rn ∧ rr.1.v = rv ∧ rr.1.L.length = rl) := ⟨hre, hrn, hrv, hrl⟩
              clear hm7 hf7 hro7 hrn7 hre hrn hrv hrl k0 k1 k2 k3 lc
              have y0 := hbx7.cell (j := 0) rfl
              have y1 := hbx7.cell (j := 1) rfl
              have y2 := hbx7.cell (j := 2) rfl
              have y3 := hbx7.cell (j := 3) rfl
              have y4 := hbx7.cell (j := 4) rfl
              have y5 := hbx7.cell (j := 5) rfl
              have y6 := hbx7.cell (j := 6) rfl
              have g3 := hbx7.free 3
              have g4 := hbx7.free 4
              have g5 := hbx7.free 5
              have g6 := hbx7.free 6
              have ly := hbx7.lt
              go_upto_region 20 with (fail)
              obtain ⟨w8, hw8⟩ : ∃ y, (((w7.setCell ⟨bx, 3, none⟩ (.int .i64 re)).setCell ⟨bx, 4, none⟩ (.slice ao7 rl cap7)).setCell ⟨bx, 5, none⟩ (.int .i64 rn)).setCell ⟨bx, 6, none⟩ (.int .u64 rv) = y := ⟨_, rfl⟩
              have hbx8 : Blk w8 bx 59 [.int .i64 s1, .int .i64 j, .int .i64 a, .int .i64 re, .slice ao7 rl cap7, .int .i64 rn, .int .u64 rv] := by rw [← hw8]; exact (((hbx7.set 3 (.int .i64 re)).set 4 (.slice ao7 rl cap7)).set 5 (.int .i64 rn)).set 6 (.int .u64 rv)
              have hu8 : Upd [bx] w7 w8 := by rw [← hw8]; exact ((((Upd.refl [bx] w7).setCell (.inl (by simp)) _).setCell (.inl (by simp)) _).setCell (.inl (by simp)) _).setCell (.inl (by simp)) _
              rw [hw8]
              have HU8 := Lib.hid hu8
              have HBX8 := Lib.hid hbx8
              have HA8 := Lib.hid (HA7.out.upd hu8 (by simpa using HFX.out.2.1))
              have HL8 := Lib.hid (HL7.out.upd hu8 (by simpa using HFX.out.2.2.1))
              clear y0 y1 y2 y3 y4 y5 y6 g3 g4 g5 g6 ly hw8 hu8 hbx8 hbx7
              have ra8 := row_in HA8.out HVA.out
              have fa8 := HA8.out.free j
              have la8 := HA8.out.lt
              have bka : a + 1 ≤ 9223372036854775807 := Nat.le_trans hal bm
              go_upto_region 21 with (fail)
              obtain ⟨w8a, hw8a⟩ : ∃ y, w8.setCell ⟨ba, j, none⟩ (.int .i64 ((a : Int) + 1)) = y := ⟨_, rfl⟩
              have hA8a : Row w8a 3 1 ba n n ((va.set j ((a : Int) + 1)).flatMap inV) := by rw [← hw8a]; exact row_put HA8.out HVA.out _
              have hu8a : Upd [ba] w8 w8a := by rw [← hw8a]; exact (Upd.refl [ba] w8).setCell (.inl (by simp)) _
              rw [hw8a]
              have HA8A := Lib.hid hA8a
              have HL8A := Lib.hid (HL8.out.upd hu8a (by simpa using HG.out.ne.symm))
              have HBXE : Hid (Blk w8a bx 59 [.int .i64 s1, .int .i64 j, .int .i64 a, .int .i64 re, .slice ao7 rl cap7, .int .i64 rn, .int .u64 rv]) := HBX8.out.upd hu8a (by simpa using fun e => HFX.out.2.1 e.symm)
              have HUE : Hid (Upd [bx, ba] w7 w8a) := (HU8.out.mono (fun _ _ h => by simp at h; simp [h])).trans (hu8a.mono (fun _ _ h => by simp at h; simp [h]))
              clear ra8 fa8 la8 hw8a hA8a hu8a
              -- the point is appended: w8a: the world; HUE.out: what may have been written behind w7; 2.2, $4: the rows
              obtain ⟨ip, hip, hp0, hp1, hp2⟩ := info_parts infoPt_
              obtain ⟨w9, hw9⟩ : ∃ y, w8a.alloc (.cells #[.int .i64 s1, .int .i64 j, .int .i64 a, .int .i64 re, .slice ao7 rl cap7, .int .i64 rn, .int .u64 rv] 59) = y := ⟨_, rfl⟩
              have HSRC : Hid (Src w9 7 (some ⟨w8a.heap.size, 0, none⟩) 1 (ptVs ⟨s1, j, a, ⟨re, rr.1.L, rn, rv⟩, .slice ao7 rl cap7⟩)) := by
                unfold Hid; rw [← hw9]
                exact one_src w8a 59 [.int .i64 s1, .int .i64 j, .int .i64 a, .int .i64 re, .slice ao7 rl cap7, .int .i64 rn, .int .u64 rv] (by intro u hu; simp only [List.mem_cons, List.not_mem_nil, or_false] at hu; rcases hu with rfl | rfl | rfl | rfl | rfl | rfl | rfl <;> rfl) 7 rfl
              have HU9 : Hid (Upd [] w8a w9) := by unfold Hid; rw [← hw9]; exact (Upd.refl [] w8a).alloc _
              have hki := HS.out.ki
              have HBD : Hid (k + 1 ≤ maxLen ∧ (k + 1) * 72 ≤ 140737488355328) := tr_bd hki hi hm
              have HTX : Hid (RowO w9 59 7 ao k cap (X.flatMap ptVs)) := by
                have h1 := HS.out.trx.row.lt
                have h2 := HS.out.trx.new
                refine (((HS.out.trx.row.upd HU6B.out (fun c hc hm => (h2 c hc).2 (by simp only [List.mem_cons, List.not_mem_nil, or_false] at hm; simp [hm]))).upd HF7.out.2 (fun c hc hm => (h2 c hc).2 (by simp [hm]))).upd HUE.out (fun c hc => (tr_far (h2 c hc).2 (h1 c hc) HFX.out.2.2.2.1.1).2.2)).upd HU9.out (by simp)
              have zx := HBXE.out
              have y0 := zx.cell (j := 0) rfl
              have y1 := zx.cell (j := 1) rfl
              have y2 := zx.cell (j := 2) rfl
              have y3 := zx.cell (j := 3) rfl
              have y4 := zx.cell (j := 4) rfl
              have y5 := zx.cell (j := 5) rfl
              have y6 := zx.cell (j := 6) rfl
              have g3 := zx.free 3
              have g4 := zx.free 4
              have g5 := zx.free 5
              have g6 := zx.free 6
              have ly := zx.lt
              clear zx
              go_wp2_with (at_builtin; (refine wpList_app2 _ (by rfl) _ _ _ (by rfl) 59 ip _ 7 72 underlyingPts_ hip hp0 hp1 hp2 rfl (by omega) ao k cap (X.flatMap ptVs) (by rfl) HTX.out (some ⟨w8a.heap.size, 0, none⟩) 1 1 (ptVs ⟨s1, j, a, ⟨re, rr.1.L, rn, rv⟩, .slice ao7 rl cap7⟩) (by rfl) HSRC.out HBD.out.1 HBD.out.2 ?_); (intro ao3 cap3 w10 hA3; have HA3 := Lib.hid hA3; clear hA3))
              have hre := HRE.out
              have hrr : rr.1 = ⟨re, rr.1.L, rn, rv⟩ := by rw [← hre.1, ← hre.2.1, ← hre.2.2.1]
              have HAE := HA8A
              have HLE := HL8A
              have HAE1 : Hid ((va.set j ((a : Int) + 1)).length = n) := by unfold Hid; rw [List.length_set]; exact HS.out.lenA
              have HAE2 : Hid (∀ y ∈ va.set j ((a : Int) + 1), 0 ≤ y) := tr_set0 HS.out.a0 (tr_succ a) j
              have HLE1 : Hid (vl.length = n) := HS.out.lenL
              have HLE2 : Hid (∀ y ∈ vl, 0 ≤ y ∧ y ≤ 16) := HS.out.l0
              have hfin := HS.out.step (q := c) (s' := s1) (va' := (va.set j ((a : Int) + 1))) (vl' := vl) (y := ⟨s1, j, a, ⟨re, rr.1.L, rn, rv⟩, .slice ao7 rl cap7⟩) (G' := G') (T := ([bx, ba])) HG.out HU6B.out (by rw [HRR.out]; exact HM7.out) HF7.out HUE.out
                (tr_T HFX.out.2.2.2.1).2.2
                HAE.out HAE1.out HAE2.out HLE.out HLE1.out HLE2.out HU9.out HA3.out
                (by
                  have h1 : RowO w9 54 3 ao7 rl cap7 (rr.1.L.flatMap pkVs) := by
                    have := HRO7.out
                    rw [hre.2.2.2] at this
                    exact (this.upd HUE.out (fun b hb => (tr_new (HRN7.out b hb).1 HFX.out.2.2.2.1.2 (tr_lt HS.out.rowA.lt HU6B.out.size (Nat.le_refl _)) (tr_lt HS.out.rowL.lt HU6B.out.size (Nat.le_refl _))).2.2)).upd HU9.out (by simp)
                  have h2 := h1.sl
                  show SlAt w9 3 _ rr.1.L.length _
                  rw [hre.2.2.2]; exact h2)
                (fun x hx => HRN7.out x (lvB_blk hx)) (by have h1 := trace_call (c := p.c) (m := m) (st := s1) (lv := .slice ao7 rl cap7) HX.out HC.out HCND.out; rw [HRR.out, hrr] at h1; exact h1) rfl HS1.out.1 HS1.out.2 (by rw [HRR.out]; exact hrr.symm)
              rw [HRR.out] at hfin
              exact ⟨⟨i + 1, s1, ao3, k + 1, cap3, _, _, _, _, _, by congr 1, rfl, rfl, hlt, hfin⟩, tr_meas hlt⟩
    · have t1 : decide (i < most) = false := by simp; omega
      have t1' : decide ((i : Int) < (most : Int)) = false := by simp; omega
      go_wp2_with fail
      go_ret
      have h := HS.out
      refine ⟨ao, k, cap, X, rfl, ?_, by have := h.ki; omega, ⟨m, h.run⟩, fun x hx => ?_, HUW.out⟩
      · have hsz := HG.out.up.size
        exact ⟨h.trx.row, h.trx.len, fun c hc => ⟨by have := (h.trx.new c hc).1; omega, by simp⟩, fun x hx => ⟨(h.trx.pts x hx).1, fun c hc => ⟨by have := ((h.trx.pts x hx).2 c hc).1; omega, by simp, ((h.trx.pts x hx).2 c hc).2.2⟩⟩⟩
      · have := h.pts x hx
        exact ⟨this.1, by omega, this.2.2⟩
end Go.Proofs.YtfeobcmcellcpaaGreat
