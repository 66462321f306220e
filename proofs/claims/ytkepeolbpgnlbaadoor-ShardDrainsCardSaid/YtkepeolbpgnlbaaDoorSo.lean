/-
  The walk of ShardDrains. Condition: where a table of the library's lies.
-/
import Derived.Test.YtkepeolbpgnlbaaDoorSk
import Derived.Test.YtkepeolbpgnlbaaDoorSq
import Derived.Test.YtkepeolbpgnlbaaDoorPB
import Derived.Test.YtkepeolbpgnlbaaDoorQuiet
import Derived.IntWalk
set_option linter.unusedVariables false
set_option linter.unusedSimpArgs false
namespace Go.Proofs.YtkepeolbpgnlbaaDoor
open Go.RowKit

/-- How far it has been drained. -/
def DrainAt (W : World) (sb b wd : Nat) (L : List It) (aoa : Option Addr) (capa : Nat) (iv : Value) (wr : World) : Prop :=
  ∃ (j bs bx : Nat) (fp fq : List Nat), iv = .int .i64 j ∧ j ≤ L.length ∧ SL W sb bs wd (L.drop j) fp wr ∧ RG W b bx wd true L fq wr ∧ (∀ c ∈ fp, c ∉ fq) ∧ RowO wr 24 2 aoa L.length capa (L.flatMap itVs) ∧ ∀ c ∈ blkO aoa, c ∉ fp
theorem DrainAt.upd {W wr w' : World} {sb b wd : Nat} {L : List It} {aoa : Option Addr} {capa : Nat} {iv : Value} (h : DrainAt W sb b wd L aoa capa iv wr) (hu : Upd [] wr w') : DrainAt W sb b wd L aoa capa iv w' := by
  obtain ⟨j, bs, bx, fp, fq, h1, h2, h3, h4, h5, h6, h7⟩ := h
  exact ⟨j, bs, bx, fp, fq, h1, h2, h3.upd hu, h4.upd hu (by simp), h5, h6.upd hu (by simp), h7⟩
def Drains6At (W : World) (wb b wd c : Nat) (iv : Value) (wr : World) : Prop := ∃ (i base : Nat) (L : List It) (fp fq : List Nat), iv = .int .i64 i ∧ i ≤ c ∧ L.length ≤ i ∧ SR W wb b base wd L fp fq wr
theorem back_eqs {j : Nat} (h : 0 < j) (h2 : j ≤ 60) : ∃ j' : Nat, (j : Int) - 1 = (j' : Int) ∧ IntKind.i64.wrap ((j : Int) - 1) = (j' : Int) ∧ IntKind.i64.wrap (j' : Int) = (j' : Int) ∧ wrap64 (j' : Int) = (j' : Int) ∧ wrap64 ((j : Int) - 1) = (j' : Int) ∧ wrap64 ((j : Int) + 1) = (j : Int) + 1 ∧ IntKind.i64.wrap ((j : Int) + 1) = (j : Int) + 1 ∧ j' + 1 = j := by
  obtain ⟨k, rfl⟩ : ∃ k, j = k + 1 := ⟨j - 1, by omega⟩
  have e : ((k + 1 : Nat) : Int) - 1 = (k : Int) := by omega
  have e2 : IntKind.i64.wrap (k : Int) = (k : Int) := IntWalk.i64_in _ (by omega)
  have e3 : wrap64 (k : Int) = (k : Int) := by unfold wrap64; omega
  exact ⟨k, e, by rw [e]; exact e2, e2, e3, by rw [e]; exact e3, by unfold wrap64; omega, IntWalk.i64_in _ (by omega), rfl⟩
theorem drain_meas {n j : Nat} (h : j < n) : n - (intOf (.int .i64 ((j : Int) + 1))).toNat < n - (intOf (.int .i64 (j : Int))).toNat := by
  simp [intOf]; omega

set_option maxRecDepth 100000 in
set_option maxHeartbeats 32000000 in
theorem sdrains_walk (width : Int) (v : Value) (m : Nat) (D : Nat → Nat → Int) (W : World) (hT : TabAt 0 Lib.deBruijn64tab W) (_ : (Lit.int .i64 width).wf = true) (hv : RowsAt W [.i64, .u64, .i64] v m D) :
    Calls Tryd.prog 5 #[.int .i64 width, v] W (RetUpd [] W (.bool true)) := by
  obtain ⟨ao, cap, rfl, hmm, hD⟩ := deed_cells hv
  unfold maxLen at hmm
  have HD := Lib.hid hD
  have HT := Lib.hid hT
  clear hD hv hT
  obtain ⟨c, hc⟩ : ∃ c : Nat, min m 60 = c := ⟨_, rfl⟩
  have hcm : c ≤ m := by omega
  have hc40 : c ≤ 60 := by omega
  have HC : Hid (min m 60 = c) := hc
  clear hc
  go_enter Tryd.func5, Tryd.ntmps5
  go_wp2_with fail
  refine (smade_any W width W (Upd.refl [] W) HT.out).mono ?_
  rintro e1 w1 ⟨wb, b, wd, fp0, fq0, rfl, hP, -, -, -⟩
  have HP1 := Lib.hid hP
  clear hP
  go_wp2_with fail
  refine (awake6_any _ (tab_upd HT.out HP1.out.1.updW)).mono ?_
  rintro e w2 ⟨rfl, hU⟩
  have HP2 := Lib.hid (HP1.out.upd hU)
  clear hU HP1
  go_wp2
  go_loopw [7] (fun iv wr => Drains6At W wb b wd c iv wr) (fun iv _ => c - (intOf iv).toNat)
  case atStart => exact ⟨0, 0, [], _, _, rfl, by omega, by simp, HP2.out⟩
  case round =>
    clear HP2
    obtain ⟨i, base, L, fp, fq, rfl, hi, hLi, hP⟩ := hrel
    have HP := Lib.hid hP
    clear hP
    by_cases hlt : i < c
    · rcases HD.out with h0 | ⟨bd, off, rfl, hb1, hcc⟩
      · omega
      obtain ⟨c0, c1, c2, hk0, hk1⟩ := hcc i (by omega)
      rw [← HP.out.1.updW.cell hb1 (by simp)] at c0 c1 c2
      have him : i < m := by omega
      have t1 : decide (i < m) = true := by simp; omega
      have t2 : decide ((i : Int) < 60) = true := by simp; omega
      have b1 : (i : Int) < (m : Int) := by omega
      obtain ⟨k, hk⟩ : ∃ k, D i 0 = k := ⟨_, rfl⟩
      obtain ⟨key, hkey⟩ : ∃ k, D i 1 = k := ⟨_, rfl⟩
      obtain ⟨id, hid⟩ : ∃ k, D i 2 = k := ⟨_, rfl⟩
      rw [hk] at c0
      rw [hkey] at c1 hk0 hk1
      rw [hid] at c2
      obtain ⟨kk, rfl⟩ := Int.eq_ofNat_of_zero_le hk0
      clear hcc hb1 hk hkey hid
      go_wp2_with fail
      refine (step6_any W wb b base wd L fp fq k id kk (by omega) _ HP.out (by omega)).mono ?_
      rintro e w6 h6
      obtain ⟨rfl, base6, L6, fp6, fq6, hP6, hl6⟩ := h6.to
      have HP6 := Lib.hid hP6
      clear hP6 h6
      go_wp2
      exact ⟨⟨i + 1, base6, L6, fp6, fq6, by congr 1, by omega, by omega, HP6.out⟩, by first | (simp [intOf]; done) | (simp [intOf]; omega)⟩
    · have t1 : Hid (decide (i < m) = true ∧ decide ((i : Int) < 60) = false ∨ decide (i < m) = false) := by
        have := HC.out
        unfold Hid
        by_cases h : i < m
        · left; exact ⟨by simp; omega, by simp; omega⟩
        · right; simp; omega
      have hL60 : L.length ≤ 60 := by omega
      clear hLi
      rcases t1.out with ⟨t2, t3⟩ | t2
      all_goals
        clear t1
        go_wp2_with fail
        refine HP.out.1.all.mono ?_
        rintro e w6 ⟨aoa, capa, rfl, hRa, hfa, hU6⟩
        have HS0 : Hid (DrainAt W wb b wd L aoa capa (.int .i64 0) w6) := ⟨0, base, base, fp, fq, rfl, by omega, HP.out.1.upd hU6, HP.out.2.1.upd hU6 (by simp), HP.out.2.2.1, hRa, fun c hc e => by have := HP.out.1.lt c e; have := hfa c hc; omega⟩
        obtain ⟨n, hn⟩ : ∃ n, L.length = n := ⟨_, rfl⟩
        rw [hn] at hL60 ⊢
        have HN := Lib.hid hn
        have HKY := Lib.hid HP.out.1.keys
        have HSR := Lib.hid HP.out.1.srt
        have HND := Lib.hid HP.out.1.nd
        clear hRa hfa hU6 hn
        go_wp2
        go_loopw [9] (fun iv wr => DrainAt W wb b wd L aoa capa iv wr) (fun iv _ => n - (intOf iv).toNat)
        case atStart => exact HS0.out
        case round =>
          clear HS0
          obtain ⟨j, bs, bx, fp, fq, rfl, hj, hS, hG, hd, hR, hd2⟩ := hrel
          rw [HN.out] at hj
          have HS := Lib.hid hS
          have HG := Lib.hid hG
          have HD1 := Lib.hid hd
          have HR := Lib.hid hR
          have HD2 := Lib.hid hd2
          clear hS hG hd hR hd2
          by_cases hjn : j < n
          · have u1 : decide (j < n) = true := by simp [hjn]
            have b1 : (j : Int) < (n : Int) := by omega
            have hjL : j < L.length := by rw [HN.out]; exact hjn
            obtain ⟨x, hx⟩ : ∃ x, atI L j = x := ⟨_, rfl⟩
            have hdrop : L.drop j = x :: L.drop (j + 1) := by rw [← hx, atI_get L j hjL]; exact List.drop_eq_getElem_cons hjL
            have HDR := Lib.hid hdrop
            have hxL : x ∈ L := by rw [← hx, atI_get L j hjL]; exact List.getElem_mem _
            obtain ⟨hk1, hk2, hk3⟩ := HKY.out x hxL
            have hno : hasI (L.drop (j + 1)) x.2 = false := by
              have hnd := HS.out.nd
              rw [hdrop] at hnd
              unfold NdI at hnd
              rw [List.map_cons, List.nodup_cons] at hnd
              rw [hasI_no]
              intro y hy e
              exact hnd.1 (by rw [← e]; exact List.mem_map_of_mem hy)
            have HNO := Lib.hid hno
            have HX := Lib.hid hx
            have HK1 := Lib.hid hk1
            clear hdrop hxL hk1 hk2 hk3 hno hx
            go_wp2_with fail
            refine HS.out.pop.mono ?_
            rintro e w7 ⟨rfl, h7⟩
            rw [HDR.out] at h7 ⊢
            unfold firstV itV
            have hpb : popB bs (x :: L.drop (j + 1)) = kn x := rfl
            rw [hpb, List.tail_cons] at h7
            obtain ⟨fp7, hS7, hF7⟩ := h7
            have hR7 := HR.out.upd hF7.2 (fun c hc e => HD2.out c hc e)
            have HG7 := Lib.hid (HG.out.upd hF7.2 (fun c hc e => HD1.out c e hc))
            have HD17 : Hid (∀ c ∈ fp7, c ∉ fq) := fun c hc e => by
              rcases hF7.1 c hc with h | h
              · exact HD1.out c h e
              · have := HG.out.lt c e; omega
            have HD27 : Hid (∀ c ∈ blkO aoa, c ∉ fp7) := fun c hc e => by
              rcases hF7.1 c e with h | h
              · exact HD2.out c hc h
              · have := HR.out.lt c hc; omega
            have HS7 := Lib.hid hS7
            have HR7 := Lib.hid hR7
            obtain ⟨g, hg, hr⟩ := hR7.row (by rw [HN.out]; omega)
            subst hg
            have lg := hr.lt
            obtain ⟨y0, y1⟩ := item_cells hr (i := j) hjL
            rw [HX.out] at y0 y1
            obtain ⟨w8, hw8⟩ : ∃ w8, w8 = w7.alloc (.cells #[.int .u64 x.1, .int .i64 x.2] 24) := ⟨_, rfl⟩
            have hU8 : Upd [] w7 w8 := by rw [hw8]; exact (Upd.refl [] w7).alloc _
            have hB8 : Blk w8 w7.heap.size 24 [.int .u64 x.1, .int .i64 x.2] := by rw [hw8]; exact Blk.new w7 24 [.int .u64 x.1, .int .i64 x.2]
            have a0 := hB8.cell (j := 0) rfl
            have a1 := hB8.cell (j := 1) rfl
            have la := hB8.lt
            have HW8 := Lib.hid hw8
            have HU8 := Lib.hid hU8
            have HS8 := Lib.hid (HS7.out.upd hU8)
            have z0 := (hU8.cell lg (by simp) (j * 2)).trans y0
            have z1 := (hU8.cell lg (by simp) (j * 2 + 1)).trans y1
            have lg8 := Nat.lt_of_lt_of_le lg hU8.size
            have HEND : Hid (DrainAt W wb b wd L (some ⟨g, 0, none⟩) capa (.int .i64 ((j : Int) + 1)) w8) := ⟨j + 1, kn x, bx, fp7, fq, by congr 1, by rw [HN.out]; omega, HS8.out, HG7.out.upd hU8 (by simp), HD17.out, HR7.out.upd hU8 (by simp), HD27.out⟩
            by_cases hj0 : j = 0
            · subst hj0
              rw [Nat.zero_mul] at z0 z1
              clear hS7 hF7 hR7 hr y0 y1 hw8 hU8 hB8
              obtain ⟨TZ, hNE, FZ, hFU, hFS⟩ := upd_fam [] w8
              obtain ⟨HFU, HFS⟩ : Hid (∀ z, Upd [] w8 (FZ z)) ∧ Hid (∀ w, Upd [] w8 w → ∃ z, w = FZ z) := ⟨hFU, hFS⟩
              have fa0 : ∀ z, (FZ z).cell? ⟨w7.heap.size, 0, none⟩ = some (.int .u64 x.1) := fun z => ((hFU z).cell la (by simp) _).trans a0
              have fa1 : ∀ z, (FZ z).cell? ⟨w7.heap.size, 1, none⟩ = some (.int .i64 x.2) := fun z => ((hFU z).cell la (by simp) _).trans a1
              have fz0 := fun z => ((hFU z).cell lg8 (by simp) _).trans z0
              have fz1 := fun z => ((hFU z).cell lg8 (by simp) _).trans z1
              clear hFU hFS
              go_wp2_with fail
              rw [← HW8.out]
              refine wp_region_fam FZ (by kernel_rfl) (by kernel_rfl) (HFS.out _ (Upd.refl [] w8).drew) ?_
              repeat (go_big_quiet_step (first | (go_at_call 22; exact (SL.base_ (HS8.out.upd (HFU.out _))).mono (fun _ _ h => ⟨by rw [h.1, ← HK1.out], ⟨_, h.2.symm⟩⟩)) | (go_at_call 23; exact (SL.has_q (HS8.out.upd (HFU.out _)) x.2).mono (fun _ _ h => ⟨by rw [h.1, HNO.out], ⟨_, h.2.symm⟩⟩))))
              refine wpQuiet_nil ?_
              intro _ hw'
              obtain ⟨nq, hw''⟩ := hw'
              subst hw''
              all_goals
                go_wp2
                exact ⟨HEND.out.upd (HFU.out _), by first | (simp [intOf]; done) | (simp [intOf]; omega)⟩
            · obtain ⟨j', e1, e2, e3, e4, e5, e6, e7, hjj⟩ := back_eqs (j := j) (Nat.pos_of_ne_zero hj0) (Nat.le_trans (Nat.le_of_lt hjn) hL60)
              have hj'j : j' < j := by rw [← hjj]; exact Nat.lt_succ_self _
              have hj'L : j' < L.length := Nat.lt_trans hj'j hjL
              obtain ⟨v0, v1⟩ := item_cells hr (i := j') hj'L
              obtain ⟨x', hx'⟩ : ∃ x', atI L j' = x' := ⟨_, rfl⟩
              have hah : Proofs.YtkepeolbpgnlbaaDoor.ahead x' x = true := by
                have hs := HSR.out
                unfold Srt at hs
                rw [List.pairwise_iff_getElem] at hs
                have := hs j' j hj'L hjL hj'j
                rwa [← atI_get L j' hj'L, ← atI_get L j hjL, hx', HX.out] at this
              have HAH := Lib.hid hah
              rw [hx'] at v0 v1
              have s0 := (hU8.cell lg (by simp) (j' * 2)).trans v0
              have s1 := (hU8.cell lg (by simp) (j' * 2 + 1)).trans v1
              have b2 : (j' : Int) < (n : Int) := Int.ofNat_lt.2 (Nat.lt_trans hj'j hjn)
              have b3 : (0 : Int) ≤ (j' : Int) := Int.natCast_nonneg _
              have b4 : (0 : Int) ≤ (j : Int) := Int.natCast_nonneg _
              have u2 : decide (0 < j) = true := decide_eq_true (Nat.pos_of_ne_zero hj0)
              clear hS7 hF7 hR7 hr y0 y1 hw8 hU8 hB8 v0 v1 hx' hah hjj hj0 hj'j
              obtain ⟨TZ, hNE, FZ, hFU, hFS⟩ := upd_fam [] w8
              obtain ⟨HFU, HFS⟩ : Hid (∀ z, Upd [] w8 (FZ z)) ∧ Hid (∀ w, Upd [] w8 w → ∃ z, w = FZ z) := ⟨hFU, hFS⟩
              have fa0 : ∀ z, (FZ z).cell? ⟨w7.heap.size, 0, none⟩ = some (.int .u64 x.1) := fun z => ((hFU z).cell la (by simp) _).trans a0
              have fa1 : ∀ z, (FZ z).cell? ⟨w7.heap.size, 1, none⟩ = some (.int .i64 x.2) := fun z => ((hFU z).cell la (by simp) _).trans a1
              have fz0 := fun z => ((hFU z).cell lg8 (by simp) _).trans z0
              have fz1 := fun z => ((hFU z).cell lg8 (by simp) _).trans z1
              have fs0 := fun z => ((hFU z).cell lg8 (by simp) _).trans s0
              have fs1 := fun z => ((hFU z).cell lg8 (by simp) _).trans s1
              clear hFU hFS
              go_wp2_with fail
              rw [← HW8.out]
              refine wp_region_fam FZ (by kernel_rfl) (by kernel_rfl) (HFS.out _ (Upd.refl [] w8).drew) ?_
              repeat (go_big_quiet_step (first | (go_at_call 21; exact (rahead_any x' x _).mono (fun _ _ h => ⟨by rw [h.1, HAH.out], HFS.out _ ((HFU.out _).trans h.2)⟩)) | (go_at_call 22; exact (SL.base_ (HS8.out.upd (HFU.out _))).mono (fun _ _ h => ⟨by rw [h.1, ← HK1.out], ⟨_, h.2.symm⟩⟩)) | (go_at_call 23; exact (SL.has_q (HS8.out.upd (HFU.out _)) x.2).mono (fun _ _ h => ⟨by rw [h.1, HNO.out], ⟨_, h.2.symm⟩⟩))))
              refine wpQuiet_nil ?_
              intro _ hw'
              obtain ⟨nq, hw''⟩ := hw'
              subst hw''
              all_goals
                go_wp2
                exact ⟨HEND.out.upd (HFU.out _), drain_meas hjn⟩
          · have u1 : decide (j < n) = false := by simp; omega
            have hjn2 : j = n := by omega
            have hnil : L.drop j = [] := by rw [hjn2, ← HN.out]; exact List.drop_length
            have HNIL := Lib.hid hnil
            clear hnil hjn2
            go_wp2_with fail
            refine HS.out.pop.mono ?_
            rintro e w7 ⟨rfl, h7⟩
            rw [HNIL.out] at h7 ⊢
            unfold firstV itV
            obtain ⟨fp7, hS7, hF7⟩ := h7
            have hG7 := HG.out.upd hF7.2 (fun c hc e => HD1.out c e hc)
            have hU8 := (Upd.refl [] w7).alloc (.cells #[.int .u64 zIt.1, .int .i64 zIt.2] 24)
            obtain ⟨ao6, cap6, hB6, -⟩ := (hG7.upd hU8 (by simp)).cells
            have q0 := hB6.cell (j := 0) rfl
            have lb6 := hB6.lt
            rw [HN.out] at q0
            have HS8 := Lib.hid (hS7.upd hU8)
            clear hS7 hF7 hG7 hU8 hB6
            go_wp2_with fail
            refine HS8.out.over_.mono ?_
            rintro e w9 ⟨rfl, hU9⟩
            rw [show farN (popB bs []) wd [].tail = 0 from rfl]
            have HS9 := Lib.hid (HS8.out.upd hU9)
            clear hU9
            go_wp2_with fail
            refine HS9.out.len.mono ?_
            rintro e w10 ⟨rfl, hU10⟩
            have HS10 := Lib.hid (HS9.out.upd hU10)
            clear hU10
            go_wp2
            go_ret
            exact ⟨rfl, HS10.out.updW⟩
end Go.Proofs.YtkepeolbpgnlbaaDoor
