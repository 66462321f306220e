/-
  The walk of QueueShards. Condition: where a table of the library's lies.
-/
import Derived.Test.YtkepeolbpgnlbaaGreatDoorQs
set_option linter.unusedVariables false
set_option linter.unusedSimpArgs false
namespace Go.Proofs.YtkepeolbpgnlbaaGreatDoor
open Go.RowKit

theorem RQ.cellk {W w : World} {qb wd : Nat} {M : List Sh} {fp : List Nat} (h : RQ W qb wd M fp w) {k : Nat} (hk : k < M.length) : ∃ sr cap sbk ao cp, w.cell? ⟨qb, 0, none⟩ = some (.slice (some ⟨sr, 0, none⟩) M.length cap) ∧ w.cell? ⟨sr, k, none⟩ = some (.pointer (some ⟨sbk, 0, none⟩)) ∧ w.cell? ⟨sbk, 0, none⟩ = some (.slice ao (shAt M k).2.length cp) ∧ RowO w 37 2 ao (shAt M k).2.length cp ((shAt M k).2.flatMap itVs) ∧ qb < w.heap.size ∧ sr < w.heap.size ∧ sbk < w.heap.size := by
  obtain ⟨sr, cap, sb, F, h, -⟩ := h
  obtain ⟨p0, pp, lq, ls⟩ := h.cells
  obtain ⟨ao, cp, hB, hR, -⟩ := (h.sh k hk).cells
  exact ⟨sr, cap, sb k, ao, cp, p0, pp k hk, hB.cell (j := 0) rfl, hR, lq, ls, hB.lt⟩
def RSAt (w : World) (M : List Sh) (n : Nat) (nv kv : Value) (wr : World) : Prop := ∃ k : Nat, kv = .int .i64 k ∧ nv = .int .i64 (lenTo M k) ∧ k ≤ n ∧ Upd [] w wr
theorem shOf_in {M : List Sh} {k : Nat} (hk : k < M.length) : shOf M (k : Int) = (shAt M k).2 := by
  unfold shOf; rw [if_pos ⟨by omega, by omega⟩, Int.toNat_natCast]
theorem shOf_out {M : List Sh} {i : Int} (h : i < 0 ∨ (M.length : Int) ≤ i) : shOf M i = [] := by
  unfold shOf; rw [if_neg (by omega)]
theorem wrap_add {a b : Nat} (h : a + b ≤ 100000) : wrap64 ((a : Int) + (b : Int)) = (a : Int) + (b : Int) ∧ IntKind.i64.wrap ((a : Int) + (b : Int)) = (a : Int) + (b : Int) := by
  refine ⟨by unfold wrap64; omega, IntWalk.i64_in _ (by omega)⟩

set_option maxRecDepth 100000 in
set_option maxHeartbeats 64000000 in
theorem qshards_walk (sh width : Int) (v : Value) (m : Nat) (D : Nat → Nat → Int) (at_ : Int) (W : World) (hT : TabAt 0 Lib.deBruijn64tab W) (_ : (Lit.int .i64 sh).wf = true) (_ : (Lit.int .i64 width).wf = true) (hv : RowsAt W [.i64, .u64, .i64] v m D) (_ : (Lit.int .i64 at_).wf = true) :
    Calls Tryz.prog 3 #[.int .i64 sh, .int .i64 width, v, .int .i64 at_] W (RetUpd [] W (.bool true)) := by
  obtain ⟨ao, cap, rfl, hmm, hD⟩ := deed_cells hv
  unfold maxLen at hmm
  have HD := Lib.hid hD
  have HT := Lib.hid hT
  clear hD hv hT
  obtain ⟨c, hc⟩ : ∃ c : Nat, Min.min m 60 = c := ⟨_, rfl⟩
  have hcm : c ≤ m := by omega
  have hc40 : c ≤ 60 := by omega
  have HC : Hid (Min.min m 60 = c) := hc
  clear hc
  go_enter Tryz.func3, Tryz.ntmps3
  go_wp2_with fail
  refine (qmade_any W sh width W (Upd.refl [] W) HT.out).mono ?_
  rintro e1 w1 ⟨qb, rb, V, m0, fp0, fq0, rfl, hP, -, -, -⟩
  have HP1 := Lib.hid hP
  clear hP
  go_wp2_with fail
  refine (awake8_any _ (tab_upd HT.out HP1.out.1.updW)).mono ?_
  rintro e w2 ⟨rfl, hU⟩
  have HP2 := Lib.hid (HP1.out.upd hU)
  clear hU HP1
  go_wp2_with fail
  go_loopw [11] (fun iv wr => QBasesAt W qb rb V c iv wr) (fun iv _ => c - (intOf iv).toNat)
  case atStart => exact ⟨0, _, [], _, _, rfl, Nat.zero_le _, Nat.le_refl _, HP2.out⟩
  case round =>
    clear HP2
    obtain ⟨i, M, L, fp, fq, rfl, hi, hLi, hP⟩ := hrel
    have HP := Lib.hid hP
    clear hP
    by_cases hlt : i < c
    · skip
      rcases HD.out with h0 | ⟨bd, off, rfl, hb1, hcc⟩
      · omega
      obtain ⟨c0, c1, c2, hk0, hk1⟩ := hcc i (by omega)
      have hUW := HP.out.1.updW
      rw [← hUW.cell hb1 (by simp)] at c0 c1 c2
      have lbd := Nat.lt_of_lt_of_le hb1 hUW.size
      have him : i < m := by omega
      have t1 : decide (i < m) = true := by simp; omega
      have t2 : decide ((i : Int) < 60) = true := by simp; omega
      have b1 : (i : Int) < (m : Int) := by omega
      obtain ⟨k, hk⟩ : ∃ k, D i 0 = k := ⟨_, rfl⟩
      obtain ⟨key, hkey⟩ : ∃ k, D i 1 = k := ⟨_, rfl⟩
      obtain ⟨id, hid⟩ : ∃ k, D i 2 = k := ⟨_, rfl⟩
      rw [hk] at c0
      rw [hkey] at c1 hk0 hk1
      rw [hid] at c2
      obtain ⟨kk, rfl⟩ := Int.eq_ofNat_of_zero_le hk0
      have HKK : Hid (kk < 18446744073709551616) := by unfold Hid; omega
      have HLL : Hid (L.length < 1000) := by unfold Hid; omega
      have HLS : Hid (L.length ≤ i) := hLi
      have HLC := Lib.hid hlt
      have HI1 : Hid (i + 1 ≤ c) := hlt
      have HI80 : Hid (i + 1 ≤ 100) := by unfold Hid; omega
      clear hcc hb1 hk hkey hid hk0 hk1 hLi hUW
      go_wp2_with fail
      refine (step8_any W qb rb V M L fp fq k id kk HKK.out _ HP.out HLL.out).mono ?_
      rintro e w6 ⟨rfl, M2, L2, fp2, fq2, hP2, -, -, -, hl6, -, -, -⟩
      have HL2 : Hid (L2.length ≤ i + 1) := by unfold Hid; have := HLS.out; omega
      have HP6 := Lib.hid hP2
      clear hP2 hl6
      go_wp2
      exact ⟨⟨i + 1, M2, L2, fp2, fq2, by congr 1, HI1.out, HL2.out, HP6.out⟩, inner_meas HLC.out⟩
    · obtain ⟨ws, rfl⟩ : ∃ ws : World, ws = wr := ⟨_, rfl⟩
      have t1 : Hid (decide (i < m) = true ∧ decide ((i : Int) < 60) = false ∨ decide (i < m) = false) := by
        have := HC.out
        unfold Hid
        by_cases h : i < m
        · left; exact ⟨by simp; omega, by simp; omega⟩
        · right; simp; omega
      have HSM : Hid (L.length < 1000) := by unfold Hid; omega
      have HOK := Lib.hid HP.out.1.ok
      obtain ⟨n, hn⟩ : ∃ n, M.length = n := ⟨_, rfl⟩
      have HN := Lib.hid hn
      have HN16 : Hid (n ≤ 16) := by unfold Hid; rw [← hn]; exact HP.out.1.ok.small
      have HE : Hid (lenTo M n = L.length) := by unfold Hid; rw [← hn, lenTo_all]; exact HOK.out.len
      clear hn hLi
      have h16 := HN16.out
      rcases t1.out with ⟨t2, t3⟩ | t2
      all_goals
        clear t1
        go_wp2_with fail
        go_loopw [12, 13] (fun nv kv w' => RSAt ws M n nv kv w') (fun _ kv _ => n - (intOf kv).toNat)
        case atStart => exact ⟨0, rfl, rfl, Nat.zero_le _, Upd.refl _ _⟩
        case round =>
          obtain ⟨k, rfl, rfl, hk, hU⟩ := hrel
          have HU := Lib.hid hU
          have HPr := Lib.hid (HP.out.upd hU)
          by_cases hkn : k < n
          · have tk : decide (k < n) = true := decide_eq_true hkn
            have bk : (k : Int) < (n : Int) := Int.ofNat_lt.2 hkn
            have bk0 : (0 : Int) ≤ (k : Int) := Int.natCast_nonneg _
            have HKM : Hid (k < M.length) := by unfold Hid; rw [HN.out]; exact hkn
            obtain ⟨sr, cr, sbk, aok, capk, p0, pk, c0, hRk, lq, ls, lb⟩ := HPr.out.2.1.cellk HKM.out
            rw [HN.out] at p0
            have HRk := Lib.hid hRk
            have hle := lenTo_le HOK.out (k + 1)
            rw [lenTo_succ HKM.out] at hle
            have hstep := lenTo_succ HKM.out
            obtain ⟨a, ha⟩ : ∃ a, lenTo M k = a := ⟨_, rfl⟩
            obtain ⟨b, hb⟩ : ∃ b, (shAt M k).2.length = b := ⟨_, rfl⟩
            rw [ha, hb] at hle hstep
            rw [hb] at c0 HRk
            rw [ha]
            have HBB := Lib.hid hb
            have HST := Lib.hid hstep
            have hab := Nat.le_trans hle (Nat.le_of_lt HSM.out)
            have hb1000 := Nat.le_trans (Nat.le_add_left b a) hab
            have HB1000 := Lib.hid hb1000
            obtain ⟨ea1, ea2⟩ := wrap_add (Nat.le_trans hab (by omega))
            obtain ⟨ek1, ek2⟩ := wrap_succ hkn HN16.out
            clear hU hRk hle hstep ha hb hab hb1000
            go_wp2_with fail
            go_region_held3 (fun w2 => Upd [] wr w2 ∧ ∀ (b o : Nat), b < wr.heap.size → b ∉ ([] : List Nat) → w2.cell? ⟨b, o, none⟩ = wr.cell? ⟨b, o, none⟩)
              (first | exact Held.init _ _ | assumption | exact Held.step (by assumption) hBa | exact Held.step (by assumption) hBb)
              (first | (go_at_call 11; refine ((HPr.out.upd (Upd.refl [] wr).drew).1.shard (k : Int)).mono ?_; rintro e w6 ⟨ao1, cap1, rfl, hR1, -, hBa⟩; rw [shOf_in HKM.out, HBB.out] at hR1; rw [shOf_in HKM.out, HBB.out]; have HR1 := Lib.hid hR1; have HUa : Hid (Upd [] wr w6) := (Upd.refl [] wr).drew.trans hBa; clear hR1) | (go_at_call 10; refine (plain_any ao1 aok b cap1 capk (shAt M k).2 _ HBB.out HB1000.out HR1.out (HRk.out.upd HUa.out (by simp))).mono ?_; rintro e w7 ⟨rfl, hBb⟩; have HUb : Hid (Upd [] wr w7) := HUa.out.trans hBb))
            have HP7 := Lib.hid (HPr.out.upd HUb.out)
            go_wp2_with fail
            refine (HP7.out.1.shard (k : Int)).mono ?_
            rintro e w8 ⟨ao2, cap2, rfl, -, -, hU8⟩
            rw [shOf_in HKM.out, HBB.out]
            have HU8 : Hid (Upd [] ws w8) := (HU.out.trans HUb.out).trans hU8
            clear hU8
            go_wp2
            exact ⟨⟨k + 1, by congr 1, by rw [HST.out]; congr 1, hkn, HU8.out⟩, inner_meas hkn⟩
          · have tk : decide (k < n) = false := decide_eq_false hkn
            have ek : k = n := Nat.le_antisymm hk (Nat.not_lt.1 hkn)
            subst ek
            rw [HE.out]
            obtain ⟨sr, cr, r0, lrb⟩ := HPr.out.2.1.cell0
            rw [HN.out] at r0
            by_cases hin : at_ < 0 ∨ (k : Int) ≤ at_
            · have hz : shOf M at_ = [] := shOf_out (by rw [HN.out]; exact hin)
              have HZ := Lib.hid hz
              have hin2 : Hid (decide (at_ < 0) = true ∨ (decide (at_ < 0) = false ∧ decide ((k : Int) ≤ at_) = true)) := by
                rcases hin with h | h
                · exact .inl (decide_eq_true h)
                · by_cases h0 : at_ < 0
                  · exact .inl (decide_eq_true h0)
                  · exact .inr ⟨decide_eq_false h0, decide_eq_true h⟩
              clear hU hin hz
              rcases hin2.out with t7 | ⟨t7, t8⟩
              all_goals
                go_wp2_with fail
                refine (HPr.out.1.shard at_).mono ?_
                rintro e wz ⟨ao2, cap2, rfl, -, -, hUz⟩
                rw [HZ.out]
                have HPZ := Lib.hid (HPr.out.upd hUz)
                clear hUz r0 lrb
                go_wp2_with fail
                refine (HPZ.out.1.len (Nat.le_of_lt (Nat.lt_of_lt_of_le HSM.out (by omega)))).mono ?_
                rintro e wa ⟨rfl, hUa⟩
                have HPa := Lib.hid (HPZ.out.upd hUa)
                clear hUa
                go_wp2_with fail
                refine (HPa.out.1.shard (-1)).mono ?_
                rintro e wb ⟨aob, capb, rfl, -, -, hUb⟩
                rw [shOf_out (.inl (by omega))]
                have HPb := Lib.hid (HPa.out.upd hUb)
                obtain ⟨sr2, cr2, r2, lr2⟩ := HPb.out.2.1.cell0
                rw [HN.out] at r2
                clear hUb
                go_wp2_with fail
                refine (HPb.out.1.shard (k : Int)).mono ?_
                rintro e wc ⟨aoc, capc, rfl, -, -, hUc⟩
                rw [shOf_out (.inr (by rw [HN.out]; exact Int.le_refl _))]
                have HPc := Lib.hid (HPb.out.upd hUc)
                clear hUc
                go_wp2
                go_ret
                exact ⟨rfl, HPc.out.1.updW⟩
            · have t7 : decide (at_ < 0) = false := decide_eq_false (fun h => hin (.inl h))
              have t8 : decide ((k : Int) ≤ at_) = false := decide_eq_false (fun h => hin (.inr h))
              have HPZ := Lib.hid HPr.out
              clear hU hin
              go_wp2_with fail
              refine (HPZ.out.1.len (Nat.le_of_lt (Nat.lt_of_lt_of_le HSM.out (by omega)))).mono ?_
              rintro e wa ⟨rfl, hUa⟩
              have HPa := Lib.hid (HPZ.out.upd hUa)
              clear hUa
              go_wp2_with fail
              refine (HPa.out.1.shard (-1)).mono ?_
              rintro e wb ⟨aob, capb, rfl, -, -, hUb⟩
              rw [shOf_out (.inl (by omega))]
              have HPb := Lib.hid (HPa.out.upd hUb)
              obtain ⟨sr2, cr2, r2, lr2⟩ := HPb.out.2.1.cell0
              rw [HN.out] at r2
              clear hUb
              go_wp2_with fail
              refine (HPb.out.1.shard (k : Int)).mono ?_
              rintro e wc ⟨aoc, capc, rfl, -, -, hUc⟩
              rw [shOf_out (.inr (by rw [HN.out]; exact Int.le_refl _))]
              have HPc := Lib.hid (HPb.out.upd hUc)
              clear hUc
              go_wp2
              go_ret
              exact ⟨rfl, HPc.out.1.updW⟩
end Go.Proofs.YtkepeolbpgnlbaaGreatDoor
