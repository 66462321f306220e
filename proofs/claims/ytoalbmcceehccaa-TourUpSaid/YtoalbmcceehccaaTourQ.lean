/-
  The walk of TourUp: below each node the winner is that of its two nodes whose item is first. No condition.
-/
import Derived.Test.YtoalbmcceehccaaTourJ
namespace Go.Proofs.Ytoalbmcceehccaa
open Go.RowKit

theorem St.node_val {w : World} {t : Tr} {r : Rf} (h : St w t r) (k : Int) (j : Nat) (v : Int) (hk : k = (j : Int)) (h1 : 1 ≤ j) (h2 : j < 2 * t.size) (hv : t.N.getD j (-1) = v) (w' : World) (hu : Upd [] w w') :
    Calls Try.prog 14 #[.pointer (some ⟨t.bt, 0, none⟩), .int .i64 k] w' (RetUpd [] w' (.int .i64 v)) := by
  have := tnode_any t k w' (h.upd hu).ta
  subst hk
  unfold nodeF at this
  rw [if_pos (by omega), Int.toNat_natCast, hv] at this
  exact this

/-- A winner that there is: its item is what the reference holds. -/
theorem St.winner {w : World} {t : Tr} {r : Rf} (h : St w t r) (j : Nat) (h1 : 1 ≤ j) (h2 : j < 2 * t.size) (v : Int) (hv : t.N.getD j (-1) = v) (h0 : 0 ≤ v) : v < r.xs.length ∧ xAt r.xs v = (leafAt t.L v).1 := by
  have hw := good_wins h.good h.pow h.ta.fits _ j rfl h1 h2
  rw [hv] at hw
  rcases hw with ⟨rfl, _⟩ | ⟨q, rfl, hq, _, hh, _⟩
  · omega
  · refine ⟨by rw [h.ra.xlen, h.len]; omega, ?_⟩
    unfold xAt leafAt
    rw [Int.toNat_natCast]
    exact h.rel.2.2 q hq hh

def UpAt (w0 : World) (size : Nat) (kv : Value) (wr : World) : Prop := ∃ k : Nat, kv = .int .i64 k ∧ 1 ≤ k ∧ k ≤ size ∧ Upd [] w0 wr

set_option maxRecDepth 100000 in
set_option maxHeartbeats 64000000 in
theorem up_walk (n : Int) (v : Value) (m : Nat) (D : Nat → Nat → Int) (W : World) (_hn : (Lit.int .i64 n).wf = true) (hv : RowsAt W [.i64, .u64, .i64] v m D) :
    Calls Try.prog 5 #[.int .i64 n, v] W (RetUpd [] W (.bool true)) := by
  obtain ⟨ao, cap, rfl, hmm, hD⟩ := deed_cells hv
  unfold maxLen at hmm
  have HD := Lib.hid hD
  clear hD hv _hn
  go_enter Try.func5, Try.ntmps5
  go_wp2_with (first
    | (go_at_call 9; refine (made_any _ _).mono ?_; intro e w1 hM; obtain ⟨pt, pr, rfl, hA⟩ := At.of_made hM; have HA := Lib.hid hA; clear hA hM)
    | (go_at_call 10; refine (awake_any _).mono ?_; rintro e w' ⟨rfl, hB⟩; have HA2 := Lib.hid (HA.out.upd hB); clear hB))
  go_loopw [7] (fun iv wr => PlaysAt W m 60 pt pr iv wr) (fun iv _ => 60 - (intOf iv).toNat)
  case atStart => exact ⟨0, rfl, by omega, by omega, HA2.out⟩
  case round =>
    clear HA HA2
    obtain ⟨i, rfl, him, hi80, hA⟩ := hrel
    have HAi := Lib.hid hA
    clear hA
    by_cases hlt : i < m ∧ i < 60
    · obtain ⟨h1, h2⟩ := hlt
      rcases HD.out with h0 | ⟨b, off, rfl, hb1, hc⟩
      · omega
      obtain ⟨c0, c1, c2, k0⟩ := hc i h1
      rw [← HAi.out.updW.cell hb1 (by simp)] at c0 c1 c2
      have HC := Lib.hid hc
      clear hc
      have g1 : decide (i < m) = true := by simp; omega
      have g2 : decide ((i : Int) < 60) = true := by simp; omega
      go_wp2_with (first
        | (go_at_call 13; refine (HAi.out.step _ _ _ k0).mono ?_; rintro e w3 ⟨rfl, hA3⟩; have HA3 := Lib.hid hA3; clear hA3))
      exact ⟨⟨i + 1, by congr 1, by omega, by omega, HA3.out⟩, by simp [intOf]; omega⟩
    · obtain ⟨w0, rfl⟩ : ∃ w0 : World, w0 = wr := ⟨_, rfl⟩
      obtain ⟨t, r, hS, rfl, rfl, hU0, _⟩ := HAi.out
      have HS := Lib.hid hS
      have HU0 := Lib.hid hU0
      have q0 := hS.ra.top.cell (j := 0) rfl
      have q1 := hS.ra.top.cell (j := 1) rfl
      have lp := hS.ra.top.lt
      have lx := hS.ra.xrow.lt
      have hsm := hS.ra.small
      have hlen := Lib.hid hS.len
      have hsize := Lib.hid hS.size
      obtain ⟨nn, hnn⟩ : ∃ nn, r.has.length = nn := ⟨_, rfl⟩
      rw [hnn] at q0 q1 hsm
      have HNN := Lib.hid hnn
      clear hS hU0 hnn
      have gg : Hid (decide (i < m) = true ∧ decide ((i : Int) < 60) = false ∨ decide (i < m) = false) := by
        unfold Hid
        by_cases hh : i < m
        · exact .inl ⟨by simp; omega, by simp; omega⟩
        · exact .inr (by simp; omega)
      rcases gg.out with ⟨g1, g2⟩ | g1
      all_goals
        go_wp2
        go_loop [8] (fun v => SizeIs nn v) (fun v => 16 - (intOf v).toNat)
        case atStart => exact ⟨1, rfl, .inl rfl, .inl rfl⟩
        case round =>
          obtain ⟨s, rfl, hp, hs⟩ := hrel
          have h16 : s ≤ 16 := by unfold Pow at hp; omega
          have hs1 : 1 ≤ s := by unfold Pow at hp; omega
          have HP := Lib.hid hp
          have HSS := Lib.hid hs
          clear hp hs
          by_cases hsn : s < nn
          · go_wp2
            exact ⟨⟨2 * s, by congr 1, HP.out.step hsm hsn, .inr (by omega)⟩, by simp [intOf]; omega⟩
          · have hz : Hid (s = t.size) := by
              have := HP.out.done HSS.out (by omega) hsm
              rw [← HNN.out, hlen.out, ← hsize.out] at this
              exact this
            clear HP HSS
            go_wp2
            go_loopw [9] (fun kv wr => UpAt w0 s kv wr) (fun kv _ => s - (intOf kv).toNat)
            case atStart => exact ⟨1, rfl, by omega, by omega, Upd.refl [] w0⟩
            case round =>
              obtain ⟨k, rfl, hk1, hk2, hU⟩ := hrel
              have HU := Lib.hid hU
              have u0 := (hU.cell lp (by simp) 0).trans q0
              have u1 := (hU.cell lp (by simp) 1).trans q1
              have lpw := Nat.lt_of_lt_of_le lp hU.size
              have lxw := Nat.lt_of_lt_of_le lx hU.size
              clear hU
              by_cases hks : k < s
              · have hkt : k < 2 * t.size := by have := hz.out; omega
                have hkt2 : 2 * k < 2 * t.size := by have := hz.out; omega
                have hkt3 : 2 * k + 1 < 2 * t.size := by have := hz.out; omega
                have hgn := HS.out.good.node k hk1 (by have := hz.out; omega)
                obtain ⟨vb, hvb⟩ : ∃ x, t.N.getD (2 * k) (-1) = x := ⟨_, rfl⟩
                obtain ⟨vc, hvc⟩ : ∃ x, t.N.getD (2 * k + 1) (-1) = x := ⟨_, rfl⟩
                rw [hvb, hvc] at hgn
                have HB := Lib.hid hvb
                have HC := Lib.hid hvc
                have HG := Lib.hid hgn
                clear hvb hvc hgn
                by_cases hb0 : vb < 0
                · have t1 : decide (vb < 0) = true := by simp; omega
                  have HV : Hid (t.N.getD k (-1) = vc) := by have := HG.out; rw [betterF_neg _ _ _ hb0] at this; exact this
                  go_wp2_with fail
                  refine (HS.out.node_val (k : Int) k vc rfl hk1 hkt HV.out _ HU.out).mono ?_
                  rintro e w3 ⟨rfl, hU3⟩
                  go_wp2_with fail
                  refine (HS.out.node_val (2 * (k : Int)) (2 * k) vb (by omega) (by omega) hkt2 HB.out _ (HU.out.trans hU3)).mono ?_
                  rintro e w4 ⟨rfl, hU4⟩
                  go_wp2_with fail
                  refine (HS.out.node_val (2 * (k : Int) + 1) (2 * k + 1) vc (by omega) (by omega) hkt3 HC.out _ ((HU.out.trans hU3).trans hU4)).mono ?_
                  rintro e w5 ⟨rfl, hU5⟩
                  have HU5 := Lib.hid (((HU.out.trans hU3).trans hU4).trans hU5)
                  go_wp2_with fail
                  go_quiet (fail)
                  go_wp2
                  exact ⟨⟨k + 1, by congr 1, by omega, by omega, HU5.out.drewN _⟩, by simp [intOf]; omega⟩
                · have t1 : decide (vb < 0) = false := by simp; omega
                  by_cases hc0 : vc < 0
                  · have t2 : decide ((0 : Int) ≤ vc) = false := by simp; omega
                    have HV : Hid (t.N.getD k (-1) = vb) := by have := HG.out; rw [betterF_bneg _ _ _ (by omega) hc0] at this; exact this
                    go_wp2_with fail
                    refine (HS.out.node_val (k : Int) k vb rfl hk1 hkt HV.out _ HU.out).mono ?_
                    rintro e w3 ⟨rfl, hU3⟩
                    go_wp2_with fail
                    refine (HS.out.node_val (2 * (k : Int)) (2 * k) vb (by omega) (by omega) hkt2 HB.out _ (HU.out.trans hU3)).mono ?_
                    rintro e w4 ⟨rfl, hU4⟩
                    go_wp2_with fail
                    refine (HS.out.node_val (2 * (k : Int) + 1) (2 * k + 1) vc (by omega) (by omega) hkt3 HC.out _ ((HU.out.trans hU3).trans hU4)).mono ?_
                    rintro e w5 ⟨rfl, hU5⟩
                    have HU5 := Lib.hid (((HU.out.trans hU3).trans hU4).trans hU5)
                    go_wp2_with fail
                    go_quiet (fail)
                    go_wp2
                    exact ⟨⟨k + 1, by congr 1, by omega, by omega, HU5.out.drewN _⟩, by simp [intOf]; omega⟩
                  · have t2 : decide ((0 : Int) ≤ vc) = true := by simp; omega
                    obtain ⟨hbn, hbx⟩ := HS.out.winner (2 * k) (by omega) hkt2 vb HB.out (by omega)
                    obtain ⟨hcn, hcx⟩ := HS.out.winner (2 * k + 1) (by omega) hkt3 vc HC.out (by omega)
                    rw [HS.out.ra.xlen] at hbn hcn
                    have ib := item_rows HS.out.ra.xrow vb (by omega) hbn
                    have ic := item_rows HS.out.ra.xrow vc (by omega) hcn
                    have hG := HG.out
                    rw [betterF_both _ _ _ (by omega) (by omega), ← hbx, ← hcx] at hG
                    obtain ⟨xb, hxb⟩ : ∃ x, xAt r.xs vb = x := ⟨_, rfl⟩
                    obtain ⟨xc, hxc⟩ : ∃ x, xAt r.xs vc = x := ⟨_, rfl⟩
                    rw [hxb, hxc] at hG
                    rw [hxb] at ib
                    rw [hxc] at ic
                    rw [HNN.out] at hbn hcn
                    have ib0 := (HU.out.cell lx (by simp) _).trans ib.1
                    have ib1 := (HU.out.cell lx (by simp) _).trans ib.2
                    have ic0 := (HU.out.cell lx (by simp) _).trans ic.1
                    have ic1 := (HU.out.cell lx (by simp) _).trans ic.2
                    have t3 : decide (vc < (nn : Int)) = true := by simp; omega
                    have t4 : decide (vb < (nn : Int)) = true := by simp; omega
                    have p1 : 0 ≤ vb := by omega
                    have p2 : 0 ≤ vc := by omega
                    have HIB := Lib.hid ib
                    clear ib ic HIB hbx hcx hxb hxc
                    cases hah : ahead xc xb
                    · have HV : Hid (t.N.getD k (-1) = vb) := by have := hG; rw [hah] at this; unfold Hid; simpa using this
                      have HA := Lib.hid hah
                      have hG2 := Lib.hid hG
                      clear hah hG
                      go_wp2_with fail
                      refine (HS.out.node_val (k : Int) k vb rfl hk1 hkt HV.out _ HU.out).mono ?_
                      rintro e w3 ⟨rfl, hU3⟩
                      go_wp2_with fail
                      refine (HS.out.node_val (2 * (k : Int)) (2 * k) vb (by omega) (by omega) hkt2 HB.out _ (HU.out.trans hU3)).mono ?_
                      rintro e w4 ⟨rfl, hU4⟩
                      go_wp2_with fail
                      refine (HS.out.node_val (2 * (k : Int) + 1) (2 * k + 1) vc (by omega) (by omega) hkt3 HC.out _ ((HU.out.trans hU3).trans hU4)).mono ?_
                      rintro e w5 ⟨rfl, hU5⟩
                      have HU5 := Lib.hid (((HU.out.trans hU3).trans hU4).trans hU5)
                      have l5p := Nat.lt_of_lt_of_le lpw (((hU3.trans hU4).trans hU5).size)
                      have l5x := Nat.lt_of_lt_of_le lxw (((hU3.trans hU4).trans hU5).size)
                      have x0 := ((((hU3.trans hU4).trans hU5)).cell lpw (by simp) 0).trans u0
                      have x1 := ((((hU3.trans hU4).trans hU5)).cell lpw (by simp) 1).trans u1
                      have jb0 := ((((hU3.trans hU4).trans hU5)).cell lxw (by simp) _).trans ib0
                      have jb1 := ((((hU3.trans hU4).trans hU5)).cell lxw (by simp) _).trans ib1
                      have jc0 := ((((hU3.trans hU4).trans hU5)).cell lxw (by simp) _).trans ic0
                      have jc1 := ((((hU3.trans hU4).trans hU5)).cell lxw (by simp) _).trans ic1
                      clear hU3 hU4 hU5
                      go_wp2_with fail
                      go_region_held3 (fun w' => Upd [] w5 w' ∧ ∀ (b o : Nat), b < w5.heap.size → b ∉ ([] : List Nat) → w'.cell? ⟨b, o, none⟩ = w5.cell? ⟨b, o, none⟩)
                        (first | exact Held.init _ _ | exact Held.step (by assumption) hB)
                        (first | (go_at_call 16; refine (rahead_any xc xb _).mono ?_; rintro e w' ⟨rfl, hB⟩; rw [HA.out]))
                      go_wp2
                      exact ⟨⟨k + 1, by congr 1, by omega, by omega, HU5.out.trans ((Upd.refl [] w5).drew.trans hB)⟩, by simp [intOf]; omega⟩
                    · have HV : Hid (t.N.getD k (-1) = vc) := by have := hG; rw [hah] at this; unfold Hid; simpa using this
                      have HA := Lib.hid hah
                      have hG2 := Lib.hid hG
                      clear hah hG
                      go_wp2_with fail
                      refine (HS.out.node_val (k : Int) k vc rfl hk1 hkt HV.out _ HU.out).mono ?_
                      rintro e w3 ⟨rfl, hU3⟩
                      go_wp2_with fail
                      refine (HS.out.node_val (2 * (k : Int)) (2 * k) vb (by omega) (by omega) hkt2 HB.out _ (HU.out.trans hU3)).mono ?_
                      rintro e w4 ⟨rfl, hU4⟩
                      go_wp2_with fail
                      refine (HS.out.node_val (2 * (k : Int) + 1) (2 * k + 1) vc (by omega) (by omega) hkt3 HC.out _ ((HU.out.trans hU3).trans hU4)).mono ?_
                      rintro e w5 ⟨rfl, hU5⟩
                      have HU5 := Lib.hid (((HU.out.trans hU3).trans hU4).trans hU5)
                      have l5p := Nat.lt_of_lt_of_le lpw (((hU3.trans hU4).trans hU5).size)
                      have l5x := Nat.lt_of_lt_of_le lxw (((hU3.trans hU4).trans hU5).size)
                      have x0 := ((((hU3.trans hU4).trans hU5)).cell lpw (by simp) 0).trans u0
                      have x1 := ((((hU3.trans hU4).trans hU5)).cell lpw (by simp) 1).trans u1
                      have jb0 := ((((hU3.trans hU4).trans hU5)).cell lxw (by simp) _).trans ib0
                      have jb1 := ((((hU3.trans hU4).trans hU5)).cell lxw (by simp) _).trans ib1
                      have jc0 := ((((hU3.trans hU4).trans hU5)).cell lxw (by simp) _).trans ic0
                      have jc1 := ((((hU3.trans hU4).trans hU5)).cell lxw (by simp) _).trans ic1
                      clear hU3 hU4 hU5
                      go_wp2_with fail
                      go_region_held3 (fun w' => Upd [] w5 w' ∧ ∀ (b o : Nat), b < w5.heap.size → b ∉ ([] : List Nat) → w'.cell? ⟨b, o, none⟩ = w5.cell? ⟨b, o, none⟩)
                        (first | exact Held.init _ _ | exact Held.step (by assumption) hB)
                        (first | (go_at_call 16; refine (rahead_any xc xb _).mono ?_; rintro e w' ⟨rfl, hB⟩; rw [HA.out]))
                      go_wp2
                      exact ⟨⟨k + 1, by congr 1, by omega, by omega, HU5.out.trans ((Upd.refl [] w5).drew.trans hB)⟩, by simp [intOf]; omega⟩
              · clear HAi
                have h2t : 1 < 2 * t.size := by have := hz.out; omega
                obtain ⟨x, hx⟩ : ∃ x, t.N.getD 1 (-1) = x := ⟨_, rfl⟩
                have HX := Lib.hid hx
                clear hx
                by_cases hx0 : x < 0
                · have t1 : decide ((0 : Int) ≤ x) = false := by simp; omega
                  have hx1 : Hid (t.N.getD 1 (-1) < 0) := by unfold Hid; rw [HX.out]; exact hx0
                  go_wp2_with (first
                    | (go_at_call 17; refine (twin_none t _ (HS.out.upd HU.out).ta hx1.out).mono ?_; rintro e w3 ⟨rfl, hU3⟩; have HU3 := Lib.hid ((HU.out.trans hU3).alloc (.cells #[.int .u64 0, .int .i64 0] 43)); clear hU3)
                    | (go_at_call 14; refine (HS.out.node_val 1 1 x rfl (by omega) h2t HX.out _ HU3.out).mono ?_; rintro e w4 ⟨rfl, hU4⟩; have HU4 := Lib.hid (HU3.out.trans hU4); clear hU4))
                  go_ret
                  exact ⟨rfl, HU0.out.trans HU4.out⟩
                · have t1 : decide ((0 : Int) ≤ x) = true := by simp; omega
                  obtain ⟨y, hy⟩ : ∃ y, (leafAt t.L x).1 = y := ⟨_, rfl⟩
                  have HY := Lib.hid hy
                  clear hy
                  go_wp2_with fail
                  refine (twin_some t _ (HS.out.upd HU.out).ta x HX.out (by omega) y HY.out).mono ?_
                  rintro e w3 ⟨rfl, hU3⟩
                  have HU3 := Lib.hid ((HU.out.trans hU3).alloc (.cells #[.int .u64 y.1, .int .i64 y.2] 43))
                  clear hU3
                  go_wp2_with fail
                  refine (HS.out.node_val 1 1 x rfl (by omega) h2t HX.out _ HU3.out).mono ?_
                  rintro e w4 ⟨rfl, hU4⟩
                  have HU4 := Lib.hid (HU3.out.trans hU4)
                  clear hU4
                  go_wp2_with fail
                  refine (HS.out.node_val 1 1 x rfl (by omega) h2t HX.out _ HU4.out).mono ?_
                  rintro e w5 ⟨rfl, hU5⟩
                  have HU5 := Lib.hid (HU4.out.trans hU5)
                  clear hU5
                  go_wp2
                  go_ret
                  exact ⟨rfl, HU0.out.trans HU5.out⟩
end Go.Proofs.Ytoalbmcceehccaa
