/-
  Texts of this claim, joined: Oo, Op. No condition.
-/
import Derived.Test.YtfeobcmcellcpaaGreatOn
set_option linter.unusedVariables false
set_option linter.unusedSimpArgs false
/-! Oo -/
namespace Go.Proofs.YtfeobcmcellcpaaGreat
open Go.RowKit

set_option maxHeartbeats 4000000 in
theorem tinverse {unit : Nat} (h1 : 1 ≤ unit) (h2 : unit ≤ 4611686018427387904) (a : Int) (w : World) : Calls Tryz.prog 114 #[.int .u64 unit, .int .i64 a] w (fun e w' => e = .returned (if 1 ≤ a ∧ a ≤ 65536 then .tuple #[.int .u64 (invU unit a), .bool true] else .tuple #[.int .u64 0, .bool false]) ∧ w = w') := by
  have t1 : decide (unit < 1) = false := by simp; omega
  have t1' : decide ((unit : Int) < 1) = false := by simp; omega
  have t2 : decide (4611686018427387904 < unit) = false := by simp; omega
  have t2' : decide ((4611686018427387904 : Int) < (unit : Int)) = false := by simp; omega
  by_cases h3 : 1 ≤ a
  · have t3 : decide (a < 1) = false := by simp; omega
    by_cases h4 : a ≤ 65536
    · have t4 : decide (65536 < a) = false := by simp; omega
      rw [if_pos ⟨h3, h4⟩]
      obtain ⟨n, rfl⟩ : ∃ n : Nat, a = n := ⟨a.toNat, by omega⟩
      have hq : invU unit (n : Int) = max (unit / n) 1 := by unfold invU; rw [Int.toNat_natCast]
      obtain ⟨q, hqq⟩ : ∃ q, max (unit / n) 1 = q := ⟨_, rfl⟩
      rw [hq, hqq]
      have hd : unit / n ≤ unit := Nat.div_le_self _ _
      obtain ⟨dv, hdv⟩ : ∃ y, unit / n = y := ⟨_, rfl⟩
      have hdi : ((unit : Int) / (n : Int)) = (dv : Int) := by rw [← hdv]; simp
      have hm : Max.max (dv : Int) 1 = (q : Int) := by omega
      have hn0 : (1 : Int) ≤ (n : Int) := h3
      have hn1 : (n : Int) < 18446744073709551616 := by omega
      have hu1 : (unit : Int) < 18446744073709551616 := by omega
      have hdl : (dv : Int) < 18446744073709551616 := by omega
      clear hq hqq hd hdv
      go_enter Tryz.func114, Tryz.ntmps114
      go_wp2_with fail
      refine bodyPost_ret (v := .tuple #[.int .u64 q, .bool true]) (by simp [results, Tryz.results114, go_sem]) rfl ?_
      exact ⟨rfl, rfl⟩
    · have t4 : decide (65536 < a) = true := by simp; omega
      rw [if_neg (by omega)]
      go_enter Tryz.func114, Tryz.ntmps114
      go_wp2_with fail
      refine bodyPost_ret (v := .tuple #[.int .u64 0, .bool false]) (by simp [results, Tryz.results114, go_sem]) rfl ?_
      exact ⟨rfl, rfl⟩
  · have t3 : decide (a < 1) = true := by simp; omega
    rw [if_neg (by omega)]
    go_enter Tryz.func114, Tryz.ntmps114
    go_wp2_with fail
    refine bodyPost_ret (v := .tuple #[.int .u64 0, .bool false]) (by simp [results, Tryz.results114, go_sem]) rfl ?_
    exact ⟨rfl, rfl⟩
def cntM (M : AL) (s id : Int) : Nat := M.countP (fun p => decide (p.1 % s = id % s))
theorem cnt_mates {M : AL} {F : List Fl} (h : M.Perm (lenM F)) (s id : Int) : cntM M s id = matesN F s id := by
  unfold cntM matesN
  rw [h.countP_eq]
  unfold lenM
  rw [List.countP_map]
  rfl
def MateAt (w : World) (r lb : Nat) (M : AL) (s id : Int) (nv : Value) (wr : World) : Prop := ∃ (Md Ml : AL), nv = .int .i64 (cntM Md s id : Nat) ∧ (Md ++ Ml).Perm M ∧ IterAt wr r lb Ml ∧ Upd [] w wr

set_option maxRecDepth 100000 in
set_option maxHeartbeats 8000000 in
theorem mmates_any {W w : World} {mb sb lb n : Nat} {c : Cf} {S : Sf} {M : AL} {GS : List Nat} (h : MRaw W w mb sb lb c n S M GS) {id : Nat} (hs : 1 ≤ c.sh ∧ c.sh ≤ 4) (hk : ∀ p ∈ M, 0 ≤ p.1 ∧ p.1 ≤ 1048576) (hid : id ≤ 1048576) (hlen : M.length ≤ 1000) :
    Calls Tryz.prog 120 #[.pointer (some ⟨mb, 0, none⟩), .int .i64 id] w (RetUpd [] w (.int .i64 (cntM M c.sh id : Nat))) := by
  obtain ⟨c0, -, -, -, c6, -, lm⟩ := h.cells
  obtain ⟨w1, hrun, hit, hu1⟩ := h.lens.range (P := Tryz.prog) (T := 119) underlyingIntMap
  obtain ⟨s, hsn⟩ : ∃ s : Nat, c.sh = s := ⟨c.sh.toNat, by omega⟩
  rw [hsn] at c0 ⊢
  have HC := Lib.hid (hu1.cell lm (by simp) 0 ▸ c0)
  have hs0 : (1 : Int) ≤ (s : Int) ∧ (s : Int) ≤ 4 := by omega
  have c0' := (hu1.cell lm (by simp) 0).trans c0
  have lm' := Nat.lt_of_lt_of_le lm hu1.size
  have lfb := h.lens.lt
  have HIT := Lib.hid hit
  have HU1 := Lib.hid hu1
  have HK := Lib.hid hk
  clear h hit hu1 HC hsn
  go_enter Tryz.func120, Tryz.ntmps120
  go_wp2_with fail
  obtain ⟨r0, hr0⟩ : ∃ y, w.heap.size = y := ⟨_, rfl⟩
  rw [hr0] at HIT hrun ⊢
  have HFR : Hid (lb < r0 ∧ w.heap.size ≤ r0) := ⟨by omega, by omega⟩
  have HMB : Hid (mb < w.heap.size) := lm
  have HC0 := Lib.hid c0
  clear hrun hr0 lfb c0 c6 c0' lm lm' hk
  go_loopw [5] (fun nv wr => MateAt w r0 lb M s id nv wr) (fun _ wr => iterN wr r0)
  case atStart => exact ⟨[], M, rfl, by simp, HIT.out, HU1.out⟩
  case round =>
    obtain ⟨Md, Ml, rfl, hperm, hit, hU⟩ := hrel
    have HPERM := Lib.hid hperm
    have HU := Lib.hid hU
    have HIW := Lib.hid hit
    obtain ⟨n9, hn9⟩ : ∃ y, cntM Md s id = y := ⟨_, rfl⟩
    have HN := Lib.hid hn9
    have hle : n9 ≤ 1000 := by
      rw [← hn9]
      have h1 : cntM Md s id ≤ Md.length := List.countP_le_length
      have h2 := hperm.length_eq
      rw [List.length_append] at h2
      omega
    rw [hn9]
    rcases hit.next (P := Tryz.prog) 0 with ⟨h0, hnext⟩ | ⟨A, k, v', B, w2, hsp, hnext, hit2, hu2, hent, -, -⟩
    · have HZP : Hid (Md.Perm M) := by unfold Hid; rw [h0, List.append_nil] at hperm; exact hperm
      have HR : Hid (cntM M s id = n9) := by unfold Hid; rw [← HN.out]; unfold cntM; exact (HZP.out.countP_eq _).symm
      rw [HR.out]
      clear hperm hit hU h0 hn9
      go_wp2_with fail
      go_ret
      exact ⟨by first | rfl | (rw [HR.out]; rfl) | (rw [← HR.out]; rfl), HU.out⟩
    · have hU2 : Upd [] w w2 := HU.out.then hu2 (fun _ _ h => h) (fun a ha hm => by simp only [List.mem_cons, List.not_mem_nil, or_false] at hm; have := HFR.out.2; omega)
      have hkm : (k, v') ∈ M := hperm.mem_iff.1 (by rw [hsp]; simp)
      have hkb := HK.out _ hkm
      obtain ⟨kn, hkn⟩ : ∃ kn : Nat, k = kn := ⟨k.toNat, by simp only at hkb; omega⟩
      have hP2 : ((Md ++ [(k, v')]) ++ (A ++ B)).Perm M := by
        refine List.Perm.trans ?_ hperm
        rw [hsp, List.append_assoc]
        exact List.Perm.append_left Md (show ((k, v') :: (A ++ B)).Perm (A ++ (k, v') :: B) from List.perm_middle.symm)
      have HP2 := Lib.hid hP2
      have HI2 := Lib.hid hit2
      have HUW := Lib.hid hU2
      have hcnt : (A ++ B).length < iterN wr r0 := by rw [HIW.out.count, hsp]; simp
      have HCNT := Lib.hid hcnt
      have HST : Hid (cntM (Md ++ [(k, v')]) s id = n9 + (if k % (s : Int) = (id : Int) % (s : Int) then 1 else 0)) := by
        unfold Hid
        rw [← HN.out]
        unfold cntM
        rw [List.countP_append]
        congr 1
        by_cases h : k % (s : Int) = (id : Int) % (s : Int) <;> simp [h]
      have hkb2 : kn ≤ 1048576 := by simp only at hkb; omega
      rw [hkn] at hnext hent HST HP2
      have c0 := (hU2.cell HMB.out (by simp) 0).trans HC0.out
      have lm := Nat.lt_of_lt_of_le HMB.out hU2.size
      have hsn : (1 : Nat) ≤ s := by omega
      have hs1 : (s : Int) ≠ 0 := by omega
      clear hperm hit hU hsp hU2 hkm hkb hP2 hu2 hcnt hn9 hit2 hkn
      by_cases he : (kn : Int) % (s : Int) = (id : Int) % (s : Int)
      · have t1 : ((kn : Int) % (s : Int) == (id : Int) % (s : Int)) = true := by simp [he]
        have t1' : (kn % s == id % s) = true := by have : kn % s = id % s := by omega
                                                   simp [this]
        have HST2 : Hid (cntM (Md ++ [((kn : Int), v')]) s id = n9 + 1) := by unfold Hid; rw [HST.out, if_pos he]
        clear he HST
        go_wp2_with fail
        go_quiet (fail)
        go_wp2_with fail
        exact ⟨⟨_, _, by rw [HST2.out]; congr 1, HP2.out, HI2.out.upd ((Upd.refl [] w2).drewN _) (by simp) (by simp), HUW.out.trans ((Upd.refl [] w2).drewN _)⟩, by rw [(HI2.out.upd ((Upd.refl [] w2).drewN _) (by simp) (by simp)).count]; exact HCNT.out⟩
      · have t1 : ((kn : Int) % (s : Int) == (id : Int) % (s : Int)) = false := by simp [he]
        have t1' : (kn % s == id % s) = false := by have : ¬ kn % s = id % s := by omega
                                                    simp [this]
        have HST2 : Hid (cntM (Md ++ [((kn : Int), v')]) s id = n9) := by unfold Hid; rw [HST.out, if_neg he, Nat.add_zero]
        clear he HST
        go_wp2_with fail
        go_quiet (fail)
        go_wp2_with fail
        exact ⟨⟨_, _, by rw [HST2.out], HP2.out, HI2.out.upd ((Upd.refl [] w2).drewN _) (by simp) (by simp), HUW.out.trans ((Upd.refl [] w2).drewN _)⟩, by rw [(HI2.out.upd ((Upd.refl [] w2).drewN _) (by simp) (by simp)).count]; exact HCNT.out⟩
end Go.Proofs.YtfeobcmcellcpaaGreat

/-! Op -/
namespace Go.Proofs.YtfeobcmcellcpaaGreat
open Go.RowKit

theorem reg_no {c : Cf} {m : Ms} {k : Cl} {e : Int} (h : regE c m.S k = e) (he : e ≠ 0) : regM c m k = (rtE e, m) := by unfold regM; rw [h, if_neg he]
theorem reg_yes {c : Cf} {m : Ms} {k : Cl} (h : regE c m.S k = 0) : regM c m k = (rtE 0, { m with S := addSf m.S k.flow (invU c.unit k.a) k.b }) := by unfold regM; rw [h, if_pos rfl]
theorem lookLen2 {w : World} {lb : Nat} {M : AL} (h : IMap w lb M) (id : Int) : (Instr.lookup 119 (.map (some lb)) (.int .i64 id) true).run Tryz.prog w = .ok (.tuple #[(lookM M id).getD (.int .i64 0), .bool (lookM M id).isSome]) w := by
  have := h.look underlyingIntMap underlyingIntM zeroIntM id true
  simpa using this
theorem len_there {M : AL} {F : List Fl} (hs : F.Pairwise (fun a b => a.id < b.id)) (h : M.Perm (lenM F)) (id : Int) : ∃ tv : Int, (lookM M id).getD (.int .i64 0) = .int .i64 tv ∧ (lookM M id).isSome = decide (0 ≤ posF F id) := by
  rcases posF_cases F id with ⟨hpos, hno⟩ | ⟨i, f, hpos, hf, hid⟩
  · have hl := lenM_no h hno
    exact ⟨0, by rw [hl]; rfl, by rw [hl, hpos]; rfl⟩
  · have hl := lenM_look hs h hf
    rw [hid] at hl
    exact ⟨_, by rw [hl]; rfl, by rw [hl, hpos]; simp⟩
theorem insF_mates {F : List Fl} {f : Fl} (hn : ∀ g ∈ F, g.id ≠ f.id) (s q : Int) : (insF F f).countP (fun g => decide (g.id % s = q)) = F.countP (fun g => decide (g.id % s = q)) + (if f.id % s = q then 1 else 0) := by
  rw [(insF_perm hn).countP_eq, List.countP_append]
  congr 1
  by_cases h : f.id % s = q <;> simp [h]
theorem MOk.add {c : Cf} {m : Ms} (h : MOk c m) {id : Int} {r : Nat} {most : Int} (hid : 0 ≤ id ∧ id ≤ 1048576) (hno : ∀ g ∈ m.S.F, g.id ≠ id) (hm : (matesN m.S.F c.sh id : Int) < c.sl) {n : Nat} : MOk c ⟨{ m.S with F := insF m.S.F (flNew id r most) }, n⟩ := by
  have hmem : ∀ f ∈ insF m.S.F (flNew id r most), f = flNew id r most ∨ f ∈ m.S.F := fun f hf => by
    have := (insF_perm (f := flNew id r most) hno).mem_iff.1 hf
    rcases List.mem_append.1 this with h | h
    · exact .inr h
    · exact .inl (by simpa using h)
  refine ⟨h.right, fun f hf => ?_, fun q => ?_, fun f hf => ?_⟩
  · rcases hmem f hf with rfl | hf
    · exact hid
    · exact h.ids f hf
  · have e := insF_mates (f := flNew id r most) hno c.sh q
    have h2 := h.mates q
    show ((insF m.S.F (flNew id r most)).countP _ : Int) ≤ _
    rw [e]
    by_cases hq : (flNew id r most).id % c.sh = q
    · rw [if_pos hq]
      have hq' : id % c.sh = q := hq
      unfold matesN at hm
      rw [hq'] at hm
      omega
    · rw [if_neg hq]; omega
  · rcases hmem f hf with rfl | hf
    · intro p hp; cases hp
    · exact h.pk f hf

set_option maxRecDepth 100000 in
set_option maxHeartbeats 16000000 in
theorem mregister_any {W w : World} {mb : Nat} {c : Cf} {m : Ms} {G : List Nat} (h : MG W mb c m G w) (k : Cl) : Calls Tryz.prog 89 #[.pointer (some ⟨mb, 0, none⟩), clV k] w (MTo W mb c (regM c m k) G w) := by
  have HM := Lib.hid h
  obtain ⟨sb, lb, M, GS, h, hGe⟩ := h
  have hd := Deed27.new w k
  obtain ⟨w2, hw2⟩ : ∃ y, (w.alloc (.cells #[.int .i64 k.op, .int .i64 k.flow, .int .i64 k.a, .int .i64 k.b] 46)).alloc (.cells #[.int .i64 0, .slice none 0 0, .int .i64 0, .int .u64 0] 57) = y := ⟨_, rfl⟩
  obtain ⟨b3, hb3⟩ : ∃ y, w.heap.size = y := ⟨_, rfl⟩
  rw [hw2, hb3] at hd
  obtain ⟨b4, hb4⟩ : ∃ y, b3 + 1 = y := ⟨_, rfl⟩
  rw [hb4] at hd
  have HD := Lib.hid hd
  have HGE := Lib.hid hGe
  have H0 := Lib.hid h
  have y1 := hd.box.cell (j := 1) rfl
  have y2 := hd.box.cell (j := 2) rfl
  have y3 := hd.box.cell (j := 3) rfl
  have ly := hd.box.lt
  have hright := rightC_bd h.ok.right
  have HW1 := Lib.hid (fun w' => mwithin_any k.flow 0 1048576 w')
  have HW2 := Lib.hid (fun w' => mwithin_any k.b 1 8 w')
  unfold clV
  clear hd hGe
  by_cases ha : 0 ≤ k.flow ∧ k.flow ≤ 1048576
  · rw [decide_eq_true ha] at HW1
    have hraw := h.raw.upd HD.out.upd
    have HRAW := Lib.hid hraw
    obtain ⟨IS, hIS⟩ : ∃ y, decide (1 ≤ k.a ∧ k.a ≤ 65536) = y := ⟨_, rfl⟩
    obtain ⟨R, hR⟩ : ∃ R : Nat, (if 1 ≤ k.a ∧ k.a ≤ 65536 then invU c.unit k.a else 0) = R := ⟨_, rfl⟩
    have HINV : Hid (∀ w', Calls Tryz.prog 114 #[.int .u64 c.unit, .int .i64 k.a] w' (fun e w2 => e = .returned (.tuple #[.int .u64 R, .bool IS]) ∧ w' = w2)) := fun w' => by
      have := tinverse hright.2.2.2.2.1 hright.2.2.2.2.2 k.a w'
      rw [← hR, ← hIS]
      by_cases h : 1 ≤ k.a ∧ k.a ≤ 65536
      · rw [if_pos h] at this; rw [if_pos h, decide_eq_true h]; exact this
      · rw [if_neg h] at this; rw [if_neg h, decide_eq_false h]; exact this
    obtain ⟨BW, hBW⟩ : ∃ y, decide (1 ≤ k.b ∧ k.b ≤ 8) = y := ⟨_, rfl⟩
    rw [hBW] at HW2
    obtain ⟨tv, htv, hth⟩ := len_there hraw.s.srt h.lm k.flow
    obtain ⟨TH, hTH⟩ : ∃ y, decide (0 ≤ posF m.S.F k.flow) = y := ⟨_, rfl⟩
    rw [hTH] at hth
    obtain ⟨-, c1, c4, c5, c6, -, lm⟩ := hraw.cells
    have HIS := Lib.hid hIS
    have HR := Lib.hid hR
    have HBW := Lib.hid hBW
    have HTH := Lib.hid hTH
    have HFL := Lib.hid ha
    have HTV := Lib.hid htv
    have HTHH := Lib.hid hth
    clear ha h hraw hIS hR hBW hTH htv hth c1 c5
    go_enter Tryz.func89, Tryz.ntmps89
    go_wp2_with fail
    refine (HW1.out _).mono ?_
    rintro e w3 ⟨rfl, rfl⟩
    go_upto_region 3 with (fail)
    go_quiet (first | (go_at_call 114; exact Calls.quiet_of_same ((HINV.out _).mono (fun _ _ h => ⟨h.1, h.2.symm⟩))))
    obtain ⟨wq, hwq⟩ : ∃ y, w2.drewN nq = y := ⟨_, rfl⟩
    have huq : Upd [] w2 wq := by rw [← hwq]; exact (Upd.refl [] w2).drewN _
    have hrq := HRAW.out.upd huq
    have hbq := HD.out.box.upd huq (by simp)
    have HUQ := Lib.hid huq
    rw [hwq]
    clear hwq huq c4 c6 lm y1 y2 y3 ly
    obtain ⟨-, c1, c4, c5, c6, -, lm⟩ := hrq.cells
    have y1 := hbq.cell (j := 1) rfl
    have ly := hbq.lt
    have hlk : ∀ n, (Instr.lookup 119 (.map (some lb)) (.int .i64 k.flow) true).run Tryz.prog (wq.drewN n) = .ok (.tuple #[.int .i64 tv, .bool TH]) (wq.drewN n) := fun n => by
      have := lookLen2 (hrq.lens.upd ((Upd.refl [] wq).drewN n) (by simp)) k.flow
      rw [HTV.out, HTHH.out] at this
      exact this
    clear hrq hbq
    go_upto_region 4 with (fail)
    go_quiet (fail)
    obtain ⟨wv, hwv⟩ : ∃ y, wq.drewN nq = y := ⟨_, rfl⟩
    have huv : Upd [] w2 wv := by rw [← hwv]; exact HUQ.out.trans ((Upd.refl [] wq).drewN _)
    have HUV := Lib.hid huv
    have HRV := Lib.hid (HRAW.out.upd huv)
    have hbv := HD.out.box.upd huv (by simp)
    have HRT := Lib.hid (HD.out.ret.upd huv (by simp))
    rw [hwv]
    clear hwv huv hlk c1 c4 c5 c6 lm y1 ly
    have y1 := hbv.cell (j := 1) rfl
    have y3 := hbv.cell (j := 3) rfl
    have ly := hbv.lt
    have HBV := Lib.hid hbv
    clear hbv
    cases IS with
    | false =>
      have HRG : Hid (regE c m.S k = 4) := by
        have h1 := of_decide_eq_false HIS.out
        have h2 := HFL.out
        unfold Hid regE
        rw [if_neg (by omega), if_pos (by omega)]
      go_wp2_with fail
      refine (mrefused_any _ _).mono ?_
      rintro e9 w9 ⟨rfl, hu9⟩
      have hr9 := HRT.out.upd hu9 (by simp)
      have q0 := hr9.cell (j := 0) rfl
      have q1 := hr9.cell (j := 1) rfl
      have q2 := hr9.cell (j := 2) rfl
      have q3 := hr9.cell (j := 3) rfl
      have f0 := hr9.free 0
      have f1 := hr9.free 1
      have f2 := hr9.free 2
      have f3 := hr9.free 3
      have l9 := hr9.lt
      have HU9 := Lib.hid hu9
      clear hr9 hu9
      go_wp2_with fail
      refine bodyPost_ret (v := .agg #[.int .i64 4, .slice none 0 0, .int .i64 0, .int .u64 0]) (by simp [results, Tryz.results89, go_sem, q0, q1, q2, q3]) rfl ?_
      rw [reg_no (HRG.out) (by decide)]
      exact MTo.keep HM.out (T := [b4]) ((HD.out.upd.trans (HUV.out.trans HU9.out)).nil.trans ((((((Upd.refl [b4] w9).setCell (.inl (by simp)) _).setCell (.inl (by simp)) _).setCell (.inl (by simp)) _).setCell (.inl (by simp)) _))) (fun x hx => by simp only [List.mem_cons, List.not_mem_nil, or_false] at hx; subst hx; have := HD.out.n3; have := HD.out.n4; omega) _ _ _
    | true =>
      have hIS := of_decide_eq_true HIS.out
      go_upto_region 7 with (fail)
      go_wp2_with fail
      refine (HW2.out _).mono ?_
      rintro e w3 ⟨rfl, rfl⟩
      cases BW with
      | false =>
        have HRG : Hid (regE c m.S k = 1) := by
          have h1 := of_decide_eq_false HBW.out
          have h2 := HFL.out
          unfold Hid regE
          rw [if_neg (by omega), if_neg (by omega), if_pos (by omega)]
        clear hIS
        go_wp2_with fail
        refine (mrefused_any _ _).mono ?_
        rintro e9 w9 ⟨rfl, hu9⟩
        have hr9 := HRT.out.upd hu9 (by simp)
        have q0 := hr9.cell (j := 0) rfl
        have q1 := hr9.cell (j := 1) rfl
        have q2 := hr9.cell (j := 2) rfl
        have q3 := hr9.cell (j := 3) rfl
        have f0 := hr9.free 0
        have f1 := hr9.free 1
        have f2 := hr9.free 2
        have f3 := hr9.free 3
        have l9 := hr9.lt
        have HU9 := Lib.hid hu9
        clear hr9 hu9
        go_wp2_with fail
        refine bodyPost_ret (v := .agg #[.int .i64 1, .slice none 0 0, .int .i64 0, .int .u64 0]) (by simp [results, Tryz.results89, go_sem, q0, q1, q2, q3]) rfl ?_
        rw [reg_no (HRG.out) (by decide)]
        exact MTo.keep HM.out (T := [b4]) ((HD.out.upd.trans (HUV.out.trans HU9.out)).nil.trans ((((((Upd.refl [b4] w9).setCell (.inl (by simp)) _).setCell (.inl (by simp)) _).setCell (.inl (by simp)) _).setCell (.inl (by simp)) _))) (fun x hx => by simp only [List.mem_cons, List.not_mem_nil, or_false] at hx; subst hx; have := HD.out.n3; have := HD.out.n4; omega) _ _ _
      | true =>
        have hBW := of_decide_eq_true HBW.out
        cases TH with
        | true =>
          have HRG : Hid (regE c m.S k = 6) := by
            have h1 := of_decide_eq_true HTH.out
            have h2 := HFL.out
            unfold Hid regE
            rw [if_neg (by omega), if_neg (by omega), if_neg (by omega), if_pos h1]
          clear hIS hBW
          go_wp2_with fail
          refine (mrefused_any _ _).mono ?_
          rintro e9 w9 ⟨rfl, hu9⟩
          have hr9 := HRT.out.upd hu9 (by simp)
          have q0 := hr9.cell (j := 0) rfl
          have q1 := hr9.cell (j := 1) rfl
          have q2 := hr9.cell (j := 2) rfl
          have q3 := hr9.cell (j := 3) rfl
          have f0 := hr9.free 0
          have f1 := hr9.free 1
          have f2 := hr9.free 2
          have f3 := hr9.free 3
          have l9 := hr9.lt
          have HU9 := Lib.hid hu9
          clear hr9 hu9
          go_wp2_with fail
          refine bodyPost_ret (v := .agg #[.int .i64 6, .slice none 0 0, .int .i64 0, .int .u64 0]) (by simp [results, Tryz.results89, go_sem, q0, q1, q2, q3]) rfl ?_
          rw [reg_no (HRG.out) (by decide)]
          exact MTo.keep HM.out (T := [b4]) ((HD.out.upd.trans (HUV.out.trans HU9.out)).nil.trans ((((((Upd.refl [b4] w9).setCell (.inl (by simp)) _).setCell (.inl (by simp)) _).setCell (.inl (by simp)) _).setCell (.inl (by simp)) _))) (fun x hx => by simp only [List.mem_cons, List.not_mem_nil, or_false] at hx; subst hx; have := HD.out.n3; have := HD.out.n4; omega) _ _ _
        | false =>
          have hTH := of_decide_eq_false HTH.out
          have hno : ∀ g ∈ m.S.F, g.id ≠ k.flow := by
            rcases posF_cases m.S.F k.flow with ⟨_, h2⟩ | ⟨i, f, hpos, _, _⟩
            · exact h2
            · exfalso; omega
          have HNO := Lib.hid hno
          have hfl := HFL.out
          obtain ⟨fl, hfle⟩ : ∃ fl : Nat, k.flow = fl := ⟨k.flow.toNat, by omega⟩
          have hkeys : ∀ p ∈ M, 0 ≤ p.1 ∧ p.1 ≤ 1048576 := fun p hp => by
            have := H0.out.lm.mem_iff.1 hp
            unfold lenM at this
            obtain ⟨g, hg, rfl⟩ := List.mem_map.1 this
            exact H0.out.ok.ids g hg
          have hml : M.length ≤ 1000 := by
            have h1 := H0.out.lm.length_eq
            have h2 := H0.out.ok.small
            unfold lenM at h1
            rw [List.length_map] at h1
            omega
          have hmat := mmates_any (id := fl) (HRV.out.upd (Upd.refl [] wv).drew) hright.1 hkeys (by omega) hml
          rw [← hfle, cnt_mates H0.out.lm] at hmat
          obtain ⟨nm, hnm⟩ : ∃ y, matesN m.S.F c.sh k.flow = y := ⟨_, rfl⟩
          rw [hnm] at hmat
          have HMAT := Lib.hid hmat
          have HNM := Lib.hid hnm
          obtain ⟨GE, hGE⟩ : ∃ y, decide (c.sl ≤ (nm : Int)) = y := ⟨_, rfl⟩
          have HGEE := Lib.hid hGE
          obtain ⟨-, c1, -, -, -, -, lm⟩ := HRV.out.cells
          clear hfle hkeys hml hmat hnm hno
          go_upto_region 11 with (fail)
          go_region_held3 (fun w' => Upd [] wv w' ∧ ∀ (b o : Nat), b < wv.heap.size → b ∉ ([] : List Nat) → w'.cell? ⟨b, o, none⟩ = wv.cell? ⟨b, o, none⟩)
            (first | exact Held.init _ _ | exact Held.step (by assumption) hB) (first | (go_at_call 120; refine HMAT.out.mono ?_; rintro e w' ⟨rfl, hB⟩))
          have hux : Upd [] w2 w' := HUV.out.trans ((Upd.refl [] wv).drew.trans hB)
          have HUX := Lib.hid hux
          have HRX := Lib.hid (HRAW.out.upd hux)
          have HBX := Lib.hid (HD.out.box.upd hux (by simp))
          have HRTX := Lib.hid (HD.out.ret.upd hux (by simp))
          obtain ⟨wx, hwx⟩ : ∃ y, w' = y := ⟨_, rfl⟩
          subst hwx
          clear hux hB c1 lm y1 y3 ly
          cases GE with
          | true =>
            have HRG : Hid (regE c m.S k = 7) := by
              have h1 := of_decide_eq_true HGEE.out
              have h2 := HFL.out
              unfold Hid regE
              rw [if_neg (by omega), if_neg (by omega), if_neg (by omega), if_neg (by omega), HNM.out, if_pos h1]
            clear hIS hBW hTH hGE
            go_wp2_with fail
            refine (mrefused_any _ _).mono ?_
            rintro e9 w9 ⟨rfl, hu9⟩
            have hr9 := HRTX.out.upd hu9 (by simp)
            have q0 := hr9.cell (j := 0) rfl
            have q1 := hr9.cell (j := 1) rfl
            have q2 := hr9.cell (j := 2) rfl
            have q3 := hr9.cell (j := 3) rfl
            have f0 := hr9.free 0
            have f1 := hr9.free 1
            have f2 := hr9.free 2
            have f3 := hr9.free 3
            have l9 := hr9.lt
            have HU9 := Lib.hid hu9
            clear hr9 hu9
            go_wp2_with fail
            refine bodyPost_ret (v := .agg #[.int .i64 7, .slice none 0 0, .int .i64 0, .int .u64 0]) (by simp [results, Tryz.results89, go_sem, q0, q1, q2, q3]) rfl ?_
            rw [reg_no (HRG.out) (by decide)]
            exact MTo.keep HM.out (T := [b4]) ((HD.out.upd.trans (HUX.out.trans HU9.out)).nil.trans ((((((Upd.refl [b4] w9).setCell (.inl (by simp)) _).setCell (.inl (by simp)) _).setCell (.inl (by simp)) _).setCell (.inl (by simp)) _))) (fun x hx => by simp only [List.mem_cons, List.not_mem_nil, or_false] at hx; subst hx; have := HD.out.n3; have := HD.out.n4; omega) _ _ _
          | false =>
            have hGF := of_decide_eq_false HGEE.out
            have HRG : Hid (regE c m.S k = 0) := by
              have h2 := HFL.out
              unfold Hid regE
              rw [if_neg (by omega), if_neg (by omega), if_neg (by omega), if_neg (by omega), HNM.out, if_neg hGF]
            have hRv : R = invU c.unit k.a := by rw [← HR.out, if_pos hIS]
            have hr64 : R < 18446744073709551616 := by rw [hRv]; unfold invU; have := Nat.div_le_self c.unit k.a.toNat; omega
            have hadd := (HRX.out.upd (Upd.refl [] w').drew).s.add k.flow R hr64 k.b
            have HADD := Lib.hid hadd
            have hrx := HRX.out
            have hbx := HBX.out
            obtain ⟨-, -, -, c5, -, -, lm⟩ := hrx.cells
            have d5 : w'.drew.cell? ⟨mb, 5, none⟩ = some (.pointer (some ⟨sb, 0, none⟩)) := c5
            have ld : mb < w'.drew.heap.size := lm
            have e1 : w'.drew.cell? ⟨b3, 1, none⟩ = some (.int .i64 k.flow) := hbx.cell (j := 1) rfl
            have e3 : w'.drew.cell? ⟨b3, 3, none⟩ = some (.int .i64 k.b) := hbx.cell (j := 3) rfl
            have le : b3 < w'.drew.heap.size := hbx.lt
            have HRV2 := Lib.hid hRv
            clear hadd hrx hbx hRv hIS hBW c5 lm hfl
            go_upto_region 13 with (fail)
            refine wp_region_tail 9 (by kernel_rfl) (by kernel_rfl) ?_
            simp only [List.take_succ_cons, List.take_zero, List.drop_succ_cons, List.drop_zero]
            iterate 9 go_big_quiet_step (fail)
            refine wpQuiet_nil ?_
            go_wp2_with fail
            refine HADD.out.mono ?_
            rintro e w5 ⟨rfl, hT⟩
            obtain ⟨GS', hr5, hf5⟩ := (HRX.out.upd (Upd.refl [] w').drew).pto hT
            have hpos : posF m.S.F k.flow < 0 := by omega
            have hS : addSf m.S k.flow R k.b = { m.S with F := insF m.S.F (flNew k.flow R k.b) } := by unfold addSf; rw [if_pos hpos]
            have hn3 : b3 ∉ mb :: lb :: GS := fun hm => by have := H0.out.lt b3 hm; have := HD.out.n3; omega
            have hn4 : b4 ∉ mb :: lb :: GS := fun hm => by have := H0.out.lt b4 hm; have := HD.out.n3; have := HD.out.n4; omega
            have hb5 := Blk.upd (w := w'.drew) HBX.out hf5.2 hn3
            obtain ⟨w6, hput, hmt⟩ := ((hr5.upd (Upd.refl [] w5).drew).lens).put (P := Tryz.prog) underlyingIntMap underlyingIntM k.flow (.int .i64 0)
            obtain ⟨hr6, hf6⟩ := (hr5.upd (Upd.refl [] w5).drew).map hmt
            have hlm6 : (putM M k.flow (.int .i64 0)).Perm (lenM (addSf m.S k.flow R k.b).F) := by
              rw [hS]
              exact lenM_add (f := flNew k.flow R k.b) HRAW.out.s.srt H0.out.lm HNO.out
            have HLM := Lib.hid hlm6
            have HOK : Hid (MOk c { m with S := addSf m.S k.flow R k.b }) := by rw [hS]; exact H0.out.ok.add HFL.out HNO.out (by rw [HNM.out]; omega)
            have HR6 := Lib.hid hr6
            have HF6 : Hid (Fr (mb :: lb :: GS) (mb :: lb :: GS') w2 w6) := (Fr.of (HUX.out.trans (Upd.refl [] w').drew)).trans ((hf5.up (Upd.refl [] w5).drew).trans hf6)
            have hb6 : Blk w6 b4 57 [.int .i64 0, .slice none 0 0, .int .i64 0, .int .u64 0] := HD.out.ret.upd HF6.out.2 hn4
            have q0 := hb6.cell (j := 0) rfl
            have q1 := hb6.cell (j := 1) rfl
            have q2 := hb6.cell (j := 2) rfl
            have q3 := hb6.cell (j := 3) rfl
            have f0 := hb6.free 0
            have f1 := hb6.free 1
            have f2 := hb6.free 2
            have f3 := hb6.free 3
            have l9 := hb6.lt
            obtain ⟨-, -, -, -, c6, -, lm⟩ := hr5.cells
            have d6 : w5.drew.cell? ⟨mb, 6, none⟩ = some (.map (some lb)) := c6
            have lmd : mb < w5.drew.heap.size := lm
            have g1 : w5.drew.cell? ⟨b3, 1, none⟩ = some (.int .i64 k.flow) := hb5.cell (j := 1) rfl
            have lg : b3 < w5.drew.heap.size := hb5.lt
            clear hr5 hf5 hT hpos hS hr6 hf6 hlm6 hmt hb5 hb6 d5 ld e1 e3 le hTH hGF hGE
            go_upto_region 14 with (fail)
            refine wp_region_tail 6 (by kernel_rfl) (by kernel_rfl) ?_
            simp only [List.take_succ_cons, List.take_zero, List.drop_succ_cons, List.drop_zero]
            iterate 6 go_big_quiet_step (fail)
            refine wpQuiet_nil ?_
            go_wp2_with fail
            refine bodyPost_ret (v := .agg #[.int .i64 0, .slice none 0 0, .int .i64 0, .int .u64 0]) (by simp [results, Tryz.results89, go_sem, q0, q1, q2, q3]) rfl ?_
            have hu5 : Upd [b4] w6 _ := (((((Upd.refl [b4] w6).setCell (p := ⟨b4, 0, none⟩) (.inl (by simp)) (.int .i64 0)).setCell (p := ⟨b4, 1, none⟩) (.inl (by simp)) (.slice none 0 0)).setCell (p := ⟨b4, 2, none⟩) (.inl (by simp)) (.int .i64 0)).setCell (p := ⟨b4, 3, none⟩) (.inl (by simp)) (.int .u64 0))
            obtain ⟨k1, k2⟩ := MRaw.done (m' := { m with S := addSf m.S k.flow R k.b }) H0.out.raw HD.out.upd HF6.out HR6.out HLM.out HOK.out (b4 := b4) (by have := HD.out.n3; have := HD.out.n4; omega) HD.out.ret.lt hu5
            rw [reg_yes HRG.out, ← HRV2.out]
            exact ⟨_, _, rfl, k1, by rw [HGE.out]; exact k2, RtN.none_ _ _ _ _ _ _⟩
  · have HRG : Hid (regE c m.S k = 1) := by unfold Hid regE; rw [if_pos (by omega)]
    rw [decide_eq_false ha] at HW1
    clear ha h
    go_enter Tryz.func89, Tryz.ntmps89
    go_wp2_with fail
    refine (HW1.out _).mono ?_
    rintro e w3 ⟨rfl, rfl⟩
    go_wp2_with fail
    refine (mrefused_any _ _).mono ?_
    rintro e9 w9 ⟨rfl, hu9⟩
    have hr9 := HD.out.ret.upd hu9 (by simp)
    have q0 := hr9.cell (j := 0) rfl
    have q1 := hr9.cell (j := 1) rfl
    have q2 := hr9.cell (j := 2) rfl
    have q3 := hr9.cell (j := 3) rfl
    have f0 := hr9.free 0
    have f1 := hr9.free 1
    have f2 := hr9.free 2
    have f3 := hr9.free 3
    have l9 := hr9.lt
    have HU9 := Lib.hid hu9
    clear hr9 hu9
    go_wp2_with fail
    refine bodyPost_ret (v := .agg #[.int .i64 1, .slice none 0 0, .int .i64 0, .int .u64 0]) (by simp [results, Tryz.results89, go_sem, q0, q1, q2, q3]) rfl ?_
    rw [reg_no (HRG.out) (by decide)]
    exact MTo.keep HM.out (T := [b4]) ((HD.out.upd.trans ((Upd.refl [] w2).trans HU9.out)).nil.trans ((((((Upd.refl [b4] w9).setCell (.inl (by simp)) _).setCell (.inl (by simp)) _).setCell (.inl (by simp)) _).setCell (.inl (by simp)) _))) (fun x hx => by simp only [List.mem_cons, List.not_mem_nil, or_false] at hx; subst hx; have := HD.out.n3; have := HD.out.n4; omega) _ _ _
end Go.Proofs.YtfeobcmcellcpaaGreat
