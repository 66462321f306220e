/-
  The walk of WheelMoves. Condition: where a table of the library's lies.
-/
import Derived.Test.YtbnifhdnpeiheaaDoorRWi
import Derived.Test.YtbnifhdnpeiheaaDoorPR
import Derived.Test.YtbnifhdnpeiheaaDoorPB
import Derived.Test.YtbnifhdnpeiheaaDoorWu
import Derived.Test.YtbnifhdnpeiheaaDoorPS
import Derived.Test.YtbnifhdnpeiheaaDoorHeld
set_option linter.unusedVariables false
set_option linter.unusedSimpArgs false
namespace Go.Proofs.YtbnifhdnpeiheaaDoor
open Go.RowKit

theorem movB_up {base : Nat} {x : It} {r : List It} : movB base (x :: r) (kn x + 1) = false := by
  unfold movB
  rw [Bool.and_eq_false_iff]
  right
  rw [List.all_cons]
  have : decide (kn x + 1 ≤ kn x) = false := by simp
  rw [this]; rfl
theorem movB_down {base b1 : Nat} {L : List It} (h : b1 < base) : movB base L b1 = false := by
  unfold movB
  have : decide (base ≤ b1) = false := by simp; omega
  rw [this]; rfl
theorem movB_mid {base t : Nat} {x : It} {r : List It} (hs : Srt (x :: r)) (hk : ∀ y ∈ x :: r, y.1 = (kn y : Int) ∧ kn y < 18446744073709551616 ∧ base ≤ kn y) (h1 : base ≤ t) (h2 : t ≤ kn x) : movB base (x :: r) t = true := by
  unfold movB
  rw [Bool.and_eq_true, decide_eq_true_iff, List.all_eq_true]
  refine ⟨h1, fun y hy => ?_⟩
  rw [decide_eq_true_iff]
  have k1 := (hk x (by simp)).1
  have k2 := (hk y hy).1
  rcases List.mem_cons.1 hy with rfl | hy
  · exact h2
  · have := (List.pairwise_cons.1 hs).1 y hy
    rw [ahead_iff] at this
    omega
theorem movB_nil (base t : Nat) : movB base [] t = decide (base ≤ t) := by unfold movB; simp
theorem movB_two {base m k : Nat} {L : List It} (h1 : movB base L m = true) (h2 : movB base L k = true) (h : m ≤ k) : movB m L k = true := by
  unfold movB at *
  rw [Bool.and_eq_true] at *
  exact ⟨by simp [h], h2.2⟩
/-- A move that is not taken. -/
theorem WG.move_no {W w : World} {wb base wd : Nat} {L : List It} {fp : List Nat} (h : WG W wb base wd L fp w) (t0 : Nat) (ht : t0 < 18446744073709551616) (hm : movB base L t0 = false) :
    Calls Tryd.prog 38 #[.pointer (some ⟨wb, 0, none⟩), .int .u64 t0] w (fun e w' => e = .returned (.bool false) ∧ WGTo W wb base wd L fp w w') := by
  refine (h.move t0 ht).mono ?_
  rintro e w' ⟨rfl, h1⟩
  rw [hm] at h1 ⊢
  rw [if_neg (by simp)] at h1
  exact ⟨rfl, h1⟩
theorem WG.move_yes {W w : World} {wb base wd : Nat} {L : List It} {fp : List Nat} (h : WG W wb base wd L fp w) (t0 : Nat) (ht : t0 < 18446744073709551616) (hm : movB base L t0 = true) :
    Calls Tryd.prog 38 #[.pointer (some ⟨wb, 0, none⟩), .int .u64 t0] w (fun e w' => e = .returned (.bool true) ∧ WGTo W wb t0 wd L fp w w') := by
  refine (h.move t0 ht).mono ?_
  rintro e w' ⟨rfl, h1⟩
  rw [hm] at h1 ⊢
  rw [if_pos rfl] at h1
  exact ⟨rfl, h1⟩
theorem WG.lenL {W w : World} {wb base wd : Nat} {L : List It} {fp : List Nat} (h : WG W wb base wd L fp w) : L.length ≤ 1000 := by obtain ⟨s, _, h2, _⟩ := h; exact h2.len
/-- A number between two. -/
theorem mid_num {base kx t : Nat} (h : base < kx) (hk : kx < 18446744073709551616) : ∃ d q mid : Nat, (kx : Int) - (base : Int) = d ∧ IntKind.u64.wrap (d : Int) = d ∧ ((d : Int) == 0) = false ∧ (t : Int).tmod d = q ∧ (t : Int) % d = q ∧ IntKind.u64.wrap (q : Int) = q ∧ (base : Int) + (q : Int) = mid ∧ IntKind.u64.wrap (mid : Int) = mid ∧ base ≤ mid ∧ mid ≤ kx ∧ mid < 18446744073709551616 := by
  have hd : 0 < kx - base := by omega
  have hq := Nat.mod_lt t hd
  obtain ⟨q, hqq⟩ : ∃ q, t % (kx - base) = q := ⟨_, rfl⟩
  rw [hqq] at hq
  have e1 : (t : Int) % ((kx - base : Nat) : Int) = (q : Int) := by rw [← Int.natCast_emod, hqq]
  refine ⟨kx - base, q, base + q, by omega, ?_, by simp; omega, ?_, e1, ?_, by omega, ?_, by omega, by omega, by omega⟩
  · rw [IntKind.wrap_u64]; omega
  · rw [Int.tmod_eq_emod_of_nonneg (by omega)]; exact e1
  · rw [IntKind.wrap_u64]; omega
  · rw [IntKind.wrap_u64]; omega

def Moves5At (W : World) (wb b wd c : Nat) (iv : Value) (wr : World) : Prop := ∃ (i base : Nat) (L : List It) (fp fq : List Nat), iv = .int .i64 i ∧ i ≤ c ∧ L.length ≤ i ∧ WR W wb b base wd L fp fq wr

set_option maxRecDepth 100000 in
set_option maxHeartbeats 32000000 in
theorem wmoves_walk (width : Int) (v : Value) (m : Nat) (D : Nat → Nat → Int) (to_ : Int) (W : World) (hT : TabAt 0 Lib.deBruijn64tab W) (_ : (Lit.int .i64 width).wf = true) (hv : RowsAt W [.i64, .u64, .i64] v m D) (h2 : (Lit.int .u64 to_).wf = true) :
    Calls Tryd.prog 8 #[.int .i64 width, v, .int .u64 to_] W (RetUpd [] W (.bool true)) := by
  obtain ⟨ao, cap, rfl, hmm, hD⟩ := deed_cells hv
  unfold maxLen at hmm
  have hto := wf_u64_bd h2
  obtain ⟨t, rfl⟩ := Int.eq_ofNat_of_zero_le hto.1
  have ht64 : t < 18446744073709551616 := by omega
  have HT64 := Lib.hid ht64
  have HD := Lib.hid hD
  have HT := Lib.hid hT
  clear hD hv hT hto h2 ht64
  obtain ⟨c, hc⟩ : ∃ c : Nat, min m 40 = c := ⟨_, rfl⟩
  have hcm : c ≤ m := by omega
  have hc40 : c ≤ 40 := by omega
  have HC : Hid (min m 40 = c) := hc
  clear hc
  go_enter Tryd.func8, Tryd.ntmps8
  go_wp2_with fail
  refine (made_any W width W (Upd.refl [] W) HT.out).mono ?_
  rintro e1 w1 ⟨wb, b, wd, fp0, fq0, rfl, hP, -, -, -⟩
  have HP1 := Lib.hid hP
  clear hP
  go_wp2_with fail
  refine (awake5_any _ (tab_upd HT.out HP1.out.1.updW)).mono ?_
  rintro e w2 ⟨rfl, hU⟩
  have HP2 := Lib.hid (HP1.out.upd hU)
  clear hU HP1
  go_wp2
  go_loopw [9] (fun iv wr => Moves5At W wb b wd c iv wr) (fun iv _ => c - (intOf iv).toNat)
  case atStart => exact ⟨0, 0, [], _, _, rfl, by omega, by simp, HP2.out⟩
  case round =>
    clear HP2
    obtain ⟨i, base, L, fp, fq, rfl, hi, hLi, hP⟩ := hrel
    have HP := Lib.hid hP
    clear hP
    by_cases hlt : i < c
    · rcases HD.out with h0 | ⟨bd, off, rfl, hb1, hcc⟩
      · omega
      obtain ⟨c0, c1, c2, hk0, hk1⟩ := hcc i (by omega)
      rw [← HP.out.1.updW.cell hb1 (by simp)] at c0 c1 c2
      have him : i < m := by omega
      have t1 : decide (i < m) = true := by simp; omega
      have t2 : decide ((i : Int) < 40) = true := by simp; omega
      have b1 : (i : Int) < (m : Int) := by omega
      obtain ⟨k, hk⟩ : ∃ k, D i 0 = k := ⟨_, rfl⟩
      obtain ⟨key, hkey⟩ : ∃ k, D i 1 = k := ⟨_, rfl⟩
      obtain ⟨id, hid⟩ : ∃ k, D i 2 = k := ⟨_, rfl⟩
      rw [hk] at c0
      rw [hkey] at c1 hk0 hk1
      rw [hid] at c2
      obtain ⟨kk, rfl⟩ := Int.eq_ofNat_of_zero_le hk0
      clear hcc hb1 hk hkey hid
      go_wp2_with fail
      refine (step5_any W wb b base wd L fp fq k id kk (by omega) _ HP.out (by omega)).mono ?_
      rintro e w6 h6
      obtain ⟨rfl, base6, L6, fp6, fq6, hP6, hl6⟩ := h6.to
      have HP6 := Lib.hid hP6
      clear hP6 h6
      go_wp2
      exact ⟨⟨i + 1, base6, L6, fp6, fq6, by congr 1, by omega, by omega, HP6.out⟩, by first | (simp [intOf]; done) | (simp [intOf]; omega)⟩
    · have t1 : Hid (decide (i < m) = true ∧ decide ((i : Int) < 40) = false ∨ decide (i < m) = false) := by
        have := HC.out
        unfold Hid
        by_cases h : i < m
        · left; exact ⟨by simp; omega, by simp; omega⟩
        · right; simp; omega
      have hL40 : L.length ≤ 40 := by omega
      have HG := Lib.hid HP.out.1
      have HSR := Lib.hid HP.out.1.srt
      have HKY := Lib.hid HP.out.1.keys
      clear hLi
      rcases t1.out with ⟨t2, t3⟩ | t2
      all_goals
        clear t1
        go_wp2_with fail
        refine HG.out.base.mono ?_
        rintro e w6 ⟨rfl, rfl⟩
        go_wp2_with fail
        refine HG.out.all.mono ?_
        rintro e w6 ⟨aoa, capa, rfl, hRa, hfa, hU6⟩
        have HG6 := Lib.hid (HG.out.upd hU6)
        have HU6 : Hid (Upd [] W w6) := HG.out.updW.trans hU6
        have HFA := Lib.hid hfa
        clear hfa
        cases L with
        | nil =>
          obtain ⟨rd, hrd⟩ : ∃ rd, decide (base ≤ t) = rd := ⟨_, rfl⟩
          have hmv := movB_nil base t
          rw [hrd] at hmv
          have HMV := Lib.hid hmv
          clear hmv hRa hU6
          cases rd with
          | true =>
            have hmax : max (base : Int) (t : Int) = (t : Int) := by simp at hrd; omega
            go_wp2_with fail
            refine (HG6.out.move_yes t HT64.out HMV.out).mono ?_
            rintro e w7 ⟨rfl, fp7, hG7, hF7⟩
            have HG7 := Lib.hid hG7
            clear hG7 hF7
            go_wp2_with fail
            refine HG7.out.base.mono ?_
            rintro e w8 ⟨rfl, rfl⟩
            go_wp2
            go_ret
            exact ⟨rfl, HG7.out.updW⟩
          | false =>
            have hmax : max (base : Int) (t : Int) = (base : Int) := by simp at hrd; omega
            go_wp2_with fail
            refine (HG6.out.move_no t HT64.out HMV.out).mono ?_
            rintro e w7 ⟨rfl, fp7, hG7, hF7⟩
            have HG7 := Lib.hid hG7
            clear hG7 hF7
            go_wp2_with fail
            refine HG7.out.base.mono ?_
            rintro e w8 ⟨rfl, rfl⟩
            go_wp2
            go_ret
            exact ⟨rfl, HG7.out.updW⟩
        | cons x r =>
          obtain ⟨g, hg, hr⟩ := hRa.row (by simp)
          subst hg
          obtain ⟨x0, x1⟩ := item_cells hr (i := 0) (by simp)
          have hxx : atI (x :: r) 0 = x := rfl
          rw [hxx] at x0 x1
          obtain ⟨hk1, hk2, hk3⟩ := HKY.out x (by simp)
          have HMID := Lib.hid (fun t h1 h2 => movB_mid (base := base) (t := t) HSR.out HKY.out h1 h2)
          have HMUP := Lib.hid (movB_up (base := base) (x := x) (r := r))
          obtain ⟨kx, hkx⟩ : ∃ n, kn x = n := ⟨_, rfl⟩
          rw [hkx] at hk1 hk2 hk3 HMID HMUP
          rw [hk1] at x0
          obtain ⟨n, hn⟩ : ∃ n, (x :: r).length = n := ⟨_, rfl⟩
          rw [hn] at hRa hL40 ⊢
          have hn0 : ((n : Int) == 0) = false := by rw [← hn]; first | (simp; done) | (simp; omega)
          have hnp : (0 : Int) < (n : Int) := by rw [← hn]; first | (simp; done) | (simp; omega)
          have hnp2 : 0 < n := by omega
          have HN := Lib.hid hn
          have HRA := Lib.hid hRa
          have v1 : decide (kx < base) = false := by simp; omega
          have HK64 := Lib.hid hk2
          have lg := hr.lt
          clear hr hkx hk1 hk2 hRa hn hU6 x1
          have HGF : Hid (∀ c ∈ fp, c ≠ g) := fun c hc e => by
            have h1 := HG.out.lt c hc
            have h2 := HFA.out g (by simp [blkO])
            omega
          by_cases hTop : kx < 18446744073709551615
          · have v2 : decide ((kx : Int) < 18446744073709551615) = true := by simp; omega
            obtain ⟨k1, e1, e2, hk1⟩ : ∃ k1 : Nat, (kx : Int) + 1 = k1 ∧ IntKind.u64.wrap (k1 : Int) = k1 ∧ k1 < 18446744073709551616 := ⟨kx + 1, by omega, by rw [IntKind.wrap_u64]; omega, by omega⟩
            have HK1 := Lib.hid hk1
            have HMU : Hid (movB base (x :: r) k1 = false) := by unfold Hid; rw [show k1 = kx + 1 by omega]; exact HMUP.out
            clear hTop hk1
            go_wp2_with fail
            refine (HG6.out.move_no k1 HK1.out HMU.out).mono ?_
            rintro e w7 ⟨rfl, fp7, hG7, hF7⟩
            have HG7 := Lib.hid hG7
            have HR7 := Lib.hid (HRA.out.upd hF7.2 (fun c hc e => by simp [blkO] at hc; exact HGF.out c e hc))
            have HGF7 : Hid (∀ c ∈ fp7, c ≠ g) := fun c hc e => by
              rcases hF7.1 c hc with h | h
              · exact HGF.out c h e
              · omega
            have x07 := (hF7.2.cell lg (fun e => HGF.out g e rfl) 0).trans (by simpa using x0)
            have lg7 := Nat.lt_of_lt_of_le lg hF7.2.size
            clear hG7 hF7 x0 e1 e2
            by_cases hb0 : 0 < base
            · have v3 : decide (0 < base) = true := by simp [hb0]
              obtain ⟨b1, g1, g2, hb1⟩ : ∃ b1 : Nat, (base : Int) - 1 = b1 ∧ IntKind.u64.wrap (b1 : Int) = b1 ∧ b1 < base := ⟨base - 1, by omega, by have := HK64.out; rw [IntKind.wrap_u64]; omega, by omega⟩
              have HMD := Lib.hid (movB_down (L := x :: r) hb1)
              have HB1 : Hid (b1 < 18446744073709551616) := by have := HK64.out; unfold Hid; omega
              clear hb0 hb1
              go_wp2_with fail
              refine (HG7.out.move_no b1 HB1.out HMD.out).mono ?_
              rintro e w8 ⟨rfl, fp8, hG8, hF8⟩
              have HG8 := Lib.hid hG8
              have HR8 := Lib.hid (HR7.out.upd hF8.2 (fun c hc e => by simp [blkO] at hc; exact HGF7.out c e hc))
              have HGF8 : Hid (∀ c ∈ fp8, c ≠ g) := fun c hc e => by
                rcases hF8.1 c hc with h | h
                · exact HGF7.out c h e
                · omega
              have x08 := (hF8.2.cell lg7 (fun e => HGF7.out g e rfl) 0).trans x07
              have lg8 := Nat.lt_of_lt_of_le lg7 hF8.2.size
              clear hG8 hF8 x07 g1 g2
              go_wp2_with fail
              refine HG8.out.base.mono ?_
              rintro e w9 ⟨rfl, rfl⟩
              by_cases hkb : base < kx
              · have v4 : decide (base < kx) = true := by simp [hkb]
                obtain ⟨d, q, mid, e1, e2, e3, e4, e5, e6, e7, e8, hm1, hm2, hm3⟩ := mid_num (t := t) hkb HK64.out
                clear e2 e4 e6 e8
                have f1 : (1 : Int) ≤ d := by have := HK64.out; omega
                have f2 : (d : Int) < 18446744073709551616 := by have := HK64.out; omega
                have f3 : (mid : Int) < 18446744073709551616 := by omega
                have f4 : (base : Int) ≤ mid := by omega
                have HM1 := Lib.hid hm1
                have HM2 := Lib.hid hm2
                have HM3 := Lib.hid hm3
                clear hm1 hm2 hm3 hkb
                go_wp2_with fail
                clear e1 e3 e5 e7 f1 f2 f3 f4
                have HV1 : Hid (movB base (x :: r) mid = true) := HMID.out mid HM1.out HM2.out
                have HV2 : Hid (movB mid (x :: r) kx = true) := movB_two HV1.out (HMID.out kx hk3 (Nat.le_refl _)) HM2.out
                have hgn : g ∉ fp8 := fun e => HGF8.out g e rfl
                have HGN := Lib.hid hgn
                have tokA : True := trivial
                have tokB : True := trivial
                have tokC : True := trivial
                have tokP : True := trivial
                go_region_held3 (fun w2 => Upd fp8 w8 w2 ∧ ∀ (b o : Nat), b < w8.heap.size → b ∉ fp8 → w2.cell? ⟨b, o, none⟩ = w8.cell? ⟨b, o, none⟩)
                  (first | exact Held.init _ _ | assumption | exact Held.more (by assumption) hB6 hT6 | exact Held.more (by assumption) hB5 hT5 | exact Held.more (by assumption) hB4 hT4 | exact Held.more (by assumption) hB3 hT3 | exact Held.more (by assumption) hB2 hT2 | exact Held.more (by assumption) hB1 hT1)
                  (first | (go_at_call 38; have tk := tokA; clear tokA; refine ((HG8.out.upd (Upd.refl [] w8).drew).move_yes mid HM3.out HV1.out).mono ?_; rintro e w9 ⟨rfl, fp9, hG9, hF9⟩; have HG9 := Lib.hid hG9; have hB1 := hF9.2; have hT1 : ∀ c ∈ fp8, c ∈ fp8 ∨ w8.heap.size ≤ c := fun c h => .inl h; have HT9 : Hid (∀ c ∈ fp9, c ∈ fp8 ∨ w8.heap.size ≤ c) := hF9.1; have HU9 : Hid (Upd fp8 w8 w9) := ((Upd.refl fp8 w8).drew.trans hF9.2); clear hG9 hF9) | (go_at_call 35; have tk := tokB; clear tokB; refine HG9.out.base.mono ?_; rintro e w10 ⟨rfl, rfl⟩) | (go_at_call 32; have tk := tokC; clear tokC; refine HG9.out.all.mono ?_; rintro e w11 ⟨ao1, cp1, rfl, hR1, -, hB2⟩; rw [HN.out] at hR1 ⊢; have HR1 := Lib.hid hR1; have HG11 := Lib.hid (HG9.out.upd hB2); have hT2 : ∀ c ∈ ([] : List Nat), c ∈ fp8 ∨ w8.heap.size ≤ c := (by simp); have HU11 : Hid (Upd fp8 w8 w11) := HU9.out.trans hB2.nil; clear hR1) | (go_at_call 33; have tk := tokP; clear tokP; refine (plain_any ao1 (some ⟨g, 0, none⟩) n cp1 capa (x :: r) _ HN.out (by omega) HR1.out (HR8.out.upd HU11.out (fun c hc e => by simp [blkO] at hc; subst hc; exact HGN.out e))).mono ?_; rintro e w12 ⟨rfl, hB3⟩; have HG12 := Lib.hid (HG11.out.upd hB3); have hT3 : ∀ c ∈ ([] : List Nat), c ∈ fp8 ∨ w8.heap.size ≤ c := (by simp); have HU12 : Hid (Upd fp8 w8 w12) := HU11.out.trans hB3.nil) | (go_at_call 38; refine (HG12.out.move_yes kx HK64.out HV2.out).mono ?_; rintro e w13 ⟨rfl, fp13, hG13, hF13⟩; have HG13 := Lib.hid hG13; have hB4 := hF13.2; have hT4 := HT9.out; have HU13 : Hid (Upd fp8 w8 w13) := (Held.more ⟨HU12.out, fun b o hb hn => HU12.out.cell hb hn o⟩ hB4 hT4).1; have tok13 : True := trivial; clear hG13 hF13) | (go_at_call 32; have tk := tok13; clear tok13; refine HG13.out.all.mono ?_; rintro e w14 ⟨ao2, cp2, rfl, hR2, -, hB5⟩; rw [HN.out] at hR2 ⊢; have HR2 := Lib.hid hR2; have HG14 := Lib.hid (HG13.out.upd hB5); have hT5 : ∀ c ∈ ([] : List Nat), c ∈ fp8 ∨ w8.heap.size ≤ c := (by simp); have HU14 : Hid (Upd fp8 w8 w14) := HU13.out.trans hB5.nil; clear hR2) | (go_at_call 33; refine (plain_any ao2 (some ⟨g, 0, none⟩) n cp2 capa (x :: r) _ HN.out (by omega) HR2.out (HR8.out.upd HU14.out (fun c hc e => by simp [blkO] at hc; subst hc; exact HGN.out e))).mono ?_; rintro e w15 ⟨rfl, hB6⟩; have HG15 := Lib.hid (HG14.out.upd hB6); have hT6 : ∀ c ∈ ([] : List Nat), c ∈ fp8 ∨ w8.heap.size ≤ c := (by simp)) | (go_at_call 35; refine HG15.out.base.mono ?_; rintro e w16 ⟨rfl, rfl⟩))
                all_goals
                  go_wp2
                  go_ret
                  exact ⟨rfl, HG15.out.updW⟩
              · have v4 : decide (base < kx) = false := by simp [hkb]
                have HM1 : Hid (base ≤ base) := Nat.le_refl _
                have HM2 : Hid (base ≤ kx) := hk3
                have HM3 : Hid (base < 18446744073709551616) := by have := HK64.out; unfold Hid; omega
                clear hkb
                go_wp2_with fail
                have HV1 : Hid (movB base (x :: r) base = true) := HMID.out base HM1.out HM2.out
                have HV2 : Hid (movB base (x :: r) kx = true) := movB_two HV1.out (HMID.out kx hk3 (Nat.le_refl _)) HM2.out
                have hgn : g ∉ fp8 := fun e => HGF8.out g e rfl
                have HGN := Lib.hid hgn
                have tokA : True := trivial
                have tokB : True := trivial
                have tokC : True := trivial
                have tokP : True := trivial
                go_region_held3 (fun w2 => Upd fp8 w8 w2 ∧ ∀ (b o : Nat), b < w8.heap.size → b ∉ fp8 → w2.cell? ⟨b, o, none⟩ = w8.cell? ⟨b, o, none⟩)
                  (first | exact Held.init _ _ | assumption | exact Held.more (by assumption) hB6 hT6 | exact Held.more (by assumption) hB5 hT5 | exact Held.more (by assumption) hB4 hT4 | exact Held.more (by assumption) hB3 hT3 | exact Held.more (by assumption) hB2 hT2 | exact Held.more (by assumption) hB1 hT1)
                  (first | (go_at_call 38; have tk := tokA; clear tokA; refine ((HG8.out.upd (Upd.refl [] w8).drew).move_yes base HM3.out HV1.out).mono ?_; rintro e w9 ⟨rfl, fp9, hG9, hF9⟩; have HG9 := Lib.hid hG9; have hB1 := hF9.2; have hT1 : ∀ c ∈ fp8, c ∈ fp8 ∨ w8.heap.size ≤ c := fun c h => .inl h; have HT9 : Hid (∀ c ∈ fp9, c ∈ fp8 ∨ w8.heap.size ≤ c) := hF9.1; have HU9 : Hid (Upd fp8 w8 w9) := ((Upd.refl fp8 w8).drew.trans hF9.2); clear hG9 hF9) | (go_at_call 35; have tk := tokB; clear tokB; refine HG9.out.base.mono ?_; rintro e w10 ⟨rfl, rfl⟩) | (go_at_call 32; have tk := tokC; clear tokC; refine HG9.out.all.mono ?_; rintro e w11 ⟨ao1, cp1, rfl, hR1, -, hB2⟩; rw [HN.out] at hR1 ⊢; have HR1 := Lib.hid hR1; have HG11 := Lib.hid (HG9.out.upd hB2); have hT2 : ∀ c ∈ ([] : List Nat), c ∈ fp8 ∨ w8.heap.size ≤ c := (by simp); have HU11 : Hid (Upd fp8 w8 w11) := HU9.out.trans hB2.nil; clear hR1) | (go_at_call 33; have tk := tokP; clear tokP; refine (plain_any ao1 (some ⟨g, 0, none⟩) n cp1 capa (x :: r) _ HN.out (by omega) HR1.out (HR8.out.upd HU11.out (fun c hc e => by simp [blkO] at hc; subst hc; exact HGN.out e))).mono ?_; rintro e w12 ⟨rfl, hB3⟩; have HG12 := Lib.hid (HG11.out.upd hB3); have hT3 : ∀ c ∈ ([] : List Nat), c ∈ fp8 ∨ w8.heap.size ≤ c := (by simp); have HU12 : Hid (Upd fp8 w8 w12) := HU11.out.trans hB3.nil) | (go_at_call 38; refine (HG12.out.move_yes kx HK64.out HV2.out).mono ?_; rintro e w13 ⟨rfl, fp13, hG13, hF13⟩; have HG13 := Lib.hid hG13; have hB4 := hF13.2; have hT4 := HT9.out; have HU13 : Hid (Upd fp8 w8 w13) := (Held.more ⟨HU12.out, fun b o hb hn => HU12.out.cell hb hn o⟩ hB4 hT4).1; have tok13 : True := trivial; clear hG13 hF13) | (go_at_call 32; have tk := tok13; clear tok13; refine HG13.out.all.mono ?_; rintro e w14 ⟨ao2, cp2, rfl, hR2, -, hB5⟩; rw [HN.out] at hR2 ⊢; have HR2 := Lib.hid hR2; have HG14 := Lib.hid (HG13.out.upd hB5); have hT5 : ∀ c ∈ ([] : List Nat), c ∈ fp8 ∨ w8.heap.size ≤ c := (by simp); have HU14 : Hid (Upd fp8 w8 w14) := HU13.out.trans hB5.nil; clear hR2) | (go_at_call 33; refine (plain_any ao2 (some ⟨g, 0, none⟩) n cp2 capa (x :: r) _ HN.out (by omega) HR2.out (HR8.out.upd HU14.out (fun c hc e => by simp [blkO] at hc; subst hc; exact HGN.out e))).mono ?_; rintro e w15 ⟨rfl, hB6⟩; have HG15 := Lib.hid (HG14.out.upd hB6); have hT6 : ∀ c ∈ ([] : List Nat), c ∈ fp8 ∨ w8.heap.size ≤ c := (by simp)) | (go_at_call 35; refine HG15.out.base.mono ?_; rintro e w16 ⟨rfl, rfl⟩))
                all_goals
                  go_wp2
                  go_ret
                  exact ⟨rfl, HG15.out.updW⟩
            · have v3 : decide (0 < base) = false := by simp [hb0]
              obtain ⟨w8, rfl⟩ : ∃ w8 : World, w8 = w7 := ⟨_, rfl⟩
              obtain ⟨fp8, rfl⟩ : ∃ f : List Nat, f = fp7 := ⟨_, rfl⟩
              have HG8 := HG7
              have HR8 := HR7
              have HGF8 := HGF7
              have x08 := x07
              have lg8 := lg7
              clear hb0 x07
              go_wp2_with fail
              refine HG8.out.base.mono ?_
              rintro e w9 ⟨rfl, rfl⟩
              by_cases hkb : base < kx
              · have v4 : decide (base < kx) = true := by simp [hkb]
                obtain ⟨d, q, mid, e1, e2, e3, e4, e5, e6, e7, e8, hm1, hm2, hm3⟩ := mid_num (t := t) hkb HK64.out
                clear e2 e4 e6 e8
                have f1 : (1 : Int) ≤ d := by have := HK64.out; omega
                have f2 : (d : Int) < 18446744073709551616 := by have := HK64.out; omega
                have f3 : (mid : Int) < 18446744073709551616 := by omega
                have f4 : (base : Int) ≤ mid := by omega
                have HM1 := Lib.hid hm1
                have HM2 := Lib.hid hm2
                have HM3 := Lib.hid hm3
                clear hm1 hm2 hm3 hkb
                go_wp2_with fail
                clear e1 e3 e5 e7 f1 f2 f3 f4
                have HV1 : Hid (movB base (x :: r) mid = true) := HMID.out mid HM1.out HM2.out
                have HV2 : Hid (movB mid (x :: r) kx = true) := movB_two HV1.out (HMID.out kx hk3 (Nat.le_refl _)) HM2.out
                have hgn : g ∉ fp8 := fun e => HGF8.out g e rfl
                have HGN := Lib.hid hgn
                have tokA : True := trivial
                have tokB : True := trivial
                have tokC : True := trivial
                have tokP : True := trivial
                go_region_held3 (fun w2 => Upd fp8 w8 w2 ∧ ∀ (b o : Nat), b < w8.heap.size → b ∉ fp8 → w2.cell? ⟨b, o, none⟩ = w8.cell? ⟨b, o, none⟩)
                  (first | exact Held.init _ _ | assumption | exact Held.more (by assumption) hB6 hT6 | exact Held.more (by assumption) hB5 hT5 | exact Held.more (by assumption) hB4 hT4 | exact Held.more (by assumption) hB3 hT3 | exact Held.more (by assumption) hB2 hT2 | exact Held.more (by assumption) hB1 hT1)
                  (first | (go_at_call 38; have tk := tokA; clear tokA; refine ((HG8.out.upd (Upd.refl [] w8).drew).move_yes mid HM3.out HV1.out).mono ?_; rintro e w9 ⟨rfl, fp9, hG9, hF9⟩; have HG9 := Lib.hid hG9; have hB1 := hF9.2; have hT1 : ∀ c ∈ fp8, c ∈ fp8 ∨ w8.heap.size ≤ c := fun c h => .inl h; have HT9 : Hid (∀ c ∈ fp9, c ∈ fp8 ∨ w8.heap.size ≤ c) := hF9.1; have HU9 : Hid (Upd fp8 w8 w9) := ((Upd.refl fp8 w8).drew.trans hF9.2); clear hG9 hF9) | (go_at_call 35; have tk := tokB; clear tokB; refine HG9.out.base.mono ?_; rintro e w10 ⟨rfl, rfl⟩) | (go_at_call 32; have tk := tokC; clear tokC; refine HG9.out.all.mono ?_; rintro e w11 ⟨ao1, cp1, rfl, hR1, -, hB2⟩; rw [HN.out] at hR1 ⊢; have HR1 := Lib.hid hR1; have HG11 := Lib.hid (HG9.out.upd hB2); have hT2 : ∀ c ∈ ([] : List Nat), c ∈ fp8 ∨ w8.heap.size ≤ c := (by simp); have HU11 : Hid (Upd fp8 w8 w11) := HU9.out.trans hB2.nil; clear hR1) | (go_at_call 33; have tk := tokP; clear tokP; refine (plain_any ao1 (some ⟨g, 0, none⟩) n cp1 capa (x :: r) _ HN.out (by omega) HR1.out (HR8.out.upd HU11.out (fun c hc e => by simp [blkO] at hc; subst hc; exact HGN.out e))).mono ?_; rintro e w12 ⟨rfl, hB3⟩; have HG12 := Lib.hid (HG11.out.upd hB3); have hT3 : ∀ c ∈ ([] : List Nat), c ∈ fp8 ∨ w8.heap.size ≤ c := (by simp); have HU12 : Hid (Upd fp8 w8 w12) := HU11.out.trans hB3.nil) | (go_at_call 38; refine (HG12.out.move_yes kx HK64.out HV2.out).mono ?_; rintro e w13 ⟨rfl, fp13, hG13, hF13⟩; have HG13 := Lib.hid hG13; have hB4 := hF13.2; have hT4 := HT9.out; have HU13 : Hid (Upd fp8 w8 w13) := (Held.more ⟨HU12.out, fun b o hb hn => HU12.out.cell hb hn o⟩ hB4 hT4).1; have tok13 : True := trivial; clear hG13 hF13) | (go_at_call 32; have tk := tok13; clear tok13; refine HG13.out.all.mono ?_; rintro e w14 ⟨ao2, cp2, rfl, hR2, -, hB5⟩; rw [HN.out] at hR2 ⊢; have HR2 := Lib.hid hR2; have HG14 := Lib.hid (HG13.out.upd hB5); have hT5 : ∀ c ∈ ([] : List Nat), c ∈ fp8 ∨ w8.heap.size ≤ c := (by simp); have HU14 : Hid (Upd fp8 w8 w14) := HU13.out.trans hB5.nil; clear hR2) | (go_at_call 33; refine (plain_any ao2 (some ⟨g, 0, none⟩) n cp2 capa (x :: r) _ HN.out (by omega) HR2.out (HR8.out.upd HU14.out (fun c hc e => by simp [blkO] at hc; subst hc; exact HGN.out e))).mono ?_; rintro e w15 ⟨rfl, hB6⟩; have HG15 := Lib.hid (HG14.out.upd hB6); have hT6 : ∀ c ∈ ([] : List Nat), c ∈ fp8 ∨ w8.heap.size ≤ c := (by simp)) | (go_at_call 35; refine HG15.out.base.mono ?_; rintro e w16 ⟨rfl, rfl⟩))
                all_goals
                  go_wp2
                  go_ret
                  exact ⟨rfl, HG15.out.updW⟩
              · have v4 : decide (base < kx) = false := by simp [hkb]
                have HM1 : Hid (base ≤ base) := Nat.le_refl _
                have HM2 : Hid (base ≤ kx) := hk3
                have HM3 : Hid (base < 18446744073709551616) := by have := HK64.out; unfold Hid; omega
                clear hkb
                go_wp2_with fail
                have HV1 : Hid (movB base (x :: r) base = true) := HMID.out base HM1.out HM2.out
                have HV2 : Hid (movB base (x :: r) kx = true) := movB_two HV1.out (HMID.out kx hk3 (Nat.le_refl _)) HM2.out
                have hgn : g ∉ fp8 := fun e => HGF8.out g e rfl
                have HGN := Lib.hid hgn
                have tokA : True := trivial
                have tokB : True := trivial
                have tokC : True := trivial
                have tokP : True := trivial
                go_region_held3 (fun w2 => Upd fp8 w8 w2 ∧ ∀ (b o : Nat), b < w8.heap.size → b ∉ fp8 → w2.cell? ⟨b, o, none⟩ = w8.cell? ⟨b, o, none⟩)
                  (first | exact Held.init _ _ | assumption | exact Held.more (by assumption) hB6 hT6 | exact Held.more (by assumption) hB5 hT5 | exact Held.more (by assumption) hB4 hT4 | exact Held.more (by assumption) hB3 hT3 | exact Held.more (by assumption) hB2 hT2 | exact Held.more (by assumption) hB1 hT1)
                  (first | (go_at_call 38; have tk := tokA; clear tokA; refine ((HG8.out.upd (Upd.refl [] w8).drew).move_yes base HM3.out HV1.out).mono ?_; rintro e w9 ⟨rfl, fp9, hG9, hF9⟩; have HG9 := Lib.hid hG9; have hB1 := hF9.2; have hT1 : ∀ c ∈ fp8, c ∈ fp8 ∨ w8.heap.size ≤ c := fun c h => .inl h; have HT9 : Hid (∀ c ∈ fp9, c ∈ fp8 ∨ w8.heap.size ≤ c) := hF9.1; have HU9 : Hid (Upd fp8 w8 w9) := ((Upd.refl fp8 w8).drew.trans hF9.2); clear hG9 hF9) | (go_at_call 35; have tk := tokB; clear tokB; refine HG9.out.base.mono ?_; rintro e w10 ⟨rfl, rfl⟩) | (go_at_call 32; have tk := tokC; clear tokC; refine HG9.out.all.mono ?_; rintro e w11 ⟨ao1, cp1, rfl, hR1, -, hB2⟩; rw [HN.out] at hR1 ⊢; have HR1 := Lib.hid hR1; have HG11 := Lib.hid (HG9.out.upd hB2); have hT2 : ∀ c ∈ ([] : List Nat), c ∈ fp8 ∨ w8.heap.size ≤ c := (by simp); have HU11 : Hid (Upd fp8 w8 w11) := HU9.out.trans hB2.nil; clear hR1) | (go_at_call 33; have tk := tokP; clear tokP; refine (plain_any ao1 (some ⟨g, 0, none⟩) n cp1 capa (x :: r) _ HN.out (by omega) HR1.out (HR8.out.upd HU11.out (fun c hc e => by simp [blkO] at hc; subst hc; exact HGN.out e))).mono ?_; rintro e w12 ⟨rfl, hB3⟩; have HG12 := Lib.hid (HG11.out.upd hB3); have hT3 : ∀ c ∈ ([] : List Nat), c ∈ fp8 ∨ w8.heap.size ≤ c := (by simp); have HU12 : Hid (Upd fp8 w8 w12) := HU11.out.trans hB3.nil) | (go_at_call 38; refine (HG12.out.move_yes kx HK64.out HV2.out).mono ?_; rintro e w13 ⟨rfl, fp13, hG13, hF13⟩; have HG13 := Lib.hid hG13; have hB4 := hF13.2; have hT4 := HT9.out; have HU13 : Hid (Upd fp8 w8 w13) := (Held.more ⟨HU12.out, fun b o hb hn => HU12.out.cell hb hn o⟩ hB4 hT4).1; have tok13 : True := trivial; clear hG13 hF13) | (go_at_call 32; have tk := tok13; clear tok13; refine HG13.out.all.mono ?_; rintro e w14 ⟨ao2, cp2, rfl, hR2, -, hB5⟩; rw [HN.out] at hR2 ⊢; have HR2 := Lib.hid hR2; have HG14 := Lib.hid (HG13.out.upd hB5); have hT5 : ∀ c ∈ ([] : List Nat), c ∈ fp8 ∨ w8.heap.size ≤ c := (by simp); have HU14 : Hid (Upd fp8 w8 w14) := HU13.out.trans hB5.nil; clear hR2) | (go_at_call 33; refine (plain_any ao2 (some ⟨g, 0, none⟩) n cp2 capa (x :: r) _ HN.out (by omega) HR2.out (HR8.out.upd HU14.out (fun c hc e => by simp [blkO] at hc; subst hc; exact HGN.out e))).mono ?_; rintro e w15 ⟨rfl, hB6⟩; have HG15 := Lib.hid (HG14.out.upd hB6); have hT6 : ∀ c ∈ ([] : List Nat), c ∈ fp8 ∨ w8.heap.size ≤ c := (by simp)) | (go_at_call 35; refine HG15.out.base.mono ?_; rintro e w16 ⟨rfl, rfl⟩))
                all_goals
                  go_wp2
                  go_ret
                  exact ⟨rfl, HG15.out.updW⟩
          · have v2 : decide ((kx : Int) < 18446744073709551615) = false := by simp; omega
            obtain ⟨w7, rfl⟩ : ∃ w7 : World, w7 = w6 := ⟨_, rfl⟩
            obtain ⟨fp7, rfl⟩ : ∃ f : List Nat, f = fp := ⟨_, rfl⟩
            have HG7 := HG6
            have HR7 := HRA
            have HGF7 := HGF
            have x07 : w7.cell? ⟨g, 0, none⟩ = some (.int .u64 kx) := by simpa using x0
            have lg7 := lg
            clear hTop x0
            by_cases hb0 : 0 < base
            · have v3 : decide (0 < base) = true := by simp [hb0]
              obtain ⟨b1, g1, g2, hb1⟩ : ∃ b1 : Nat, (base : Int) - 1 = b1 ∧ IntKind.u64.wrap (b1 : Int) = b1 ∧ b1 < base := ⟨base - 1, by omega, by have := HK64.out; rw [IntKind.wrap_u64]; omega, by omega⟩
              have HMD := Lib.hid (movB_down (L := x :: r) hb1)
              have HB1 : Hid (b1 < 18446744073709551616) := by have := HK64.out; unfold Hid; omega
              clear hb0 hb1
              go_wp2_with fail
              refine (HG7.out.move_no b1 HB1.out HMD.out).mono ?_
              rintro e w8 ⟨rfl, fp8, hG8, hF8⟩
              have HG8 := Lib.hid hG8
              have HR8 := Lib.hid (HR7.out.upd hF8.2 (fun c hc e => by simp [blkO] at hc; exact HGF7.out c e hc))
              have HGF8 : Hid (∀ c ∈ fp8, c ≠ g) := fun c hc e => by
                rcases hF8.1 c hc with h | h
                · exact HGF7.out c h e
                · omega
              have x08 := (hF8.2.cell lg7 (fun e => HGF7.out g e rfl) 0).trans x07
              have lg8 := Nat.lt_of_lt_of_le lg7 hF8.2.size
              clear hG8 hF8 x07 g1 g2
              go_wp2_with fail
              refine HG8.out.base.mono ?_
              rintro e w9 ⟨rfl, rfl⟩
              by_cases hkb : base < kx
              · have v4 : decide (base < kx) = true := by simp [hkb]
                obtain ⟨d, q, mid, e1, e2, e3, e4, e5, e6, e7, e8, hm1, hm2, hm3⟩ := mid_num (t := t) hkb HK64.out
                clear e2 e4 e6 e8
                have f1 : (1 : Int) ≤ d := by have := HK64.out; omega
                have f2 : (d : Int) < 18446744073709551616 := by have := HK64.out; omega
                have f3 : (mid : Int) < 18446744073709551616 := by omega
                have f4 : (base : Int) ≤ mid := by omega
                have HM1 := Lib.hid hm1
                have HM2 := Lib.hid hm2
                have HM3 := Lib.hid hm3
                clear hm1 hm2 hm3 hkb
                go_wp2_with fail
                clear e1 e3 e5 e7 f1 f2 f3 f4
                have HV1 : Hid (movB base (x :: r) mid = true) := HMID.out mid HM1.out HM2.out
                have HV2 : Hid (movB mid (x :: r) kx = true) := movB_two HV1.out (HMID.out kx hk3 (Nat.le_refl _)) HM2.out
                have hgn : g ∉ fp8 := fun e => HGF8.out g e rfl
                have HGN := Lib.hid hgn
                have tokA : True := trivial
                have tokB : True := trivial
                have tokC : True := trivial
                have tokP : True := trivial
                go_region_held3 (fun w2 => Upd fp8 w8 w2 ∧ ∀ (b o : Nat), b < w8.heap.size → b ∉ fp8 → w2.cell? ⟨b, o, none⟩ = w8.cell? ⟨b, o, none⟩)
                  (first | exact Held.init _ _ | assumption | exact Held.more (by assumption) hB6 hT6 | exact Held.more (by assumption) hB5 hT5 | exact Held.more (by assumption) hB4 hT4 | exact Held.more (by assumption) hB3 hT3 | exact Held.more (by assumption) hB2 hT2 | exact Held.more (by assumption) hB1 hT1)
                  (first | (go_at_call 38; have tk := tokA; clear tokA; refine ((HG8.out.upd (Upd.refl [] w8).drew).move_yes mid HM3.out HV1.out).mono ?_; rintro e w9 ⟨rfl, fp9, hG9, hF9⟩; have HG9 := Lib.hid hG9; have hB1 := hF9.2; have hT1 : ∀ c ∈ fp8, c ∈ fp8 ∨ w8.heap.size ≤ c := fun c h => .inl h; have HT9 : Hid (∀ c ∈ fp9, c ∈ fp8 ∨ w8.heap.size ≤ c) := hF9.1; have HU9 : Hid (Upd fp8 w8 w9) := ((Upd.refl fp8 w8).drew.trans hF9.2); clear hG9 hF9) | (go_at_call 35; have tk := tokB; clear tokB; refine HG9.out.base.mono ?_; rintro e w10 ⟨rfl, rfl⟩) | (go_at_call 32; have tk := tokC; clear tokC; refine HG9.out.all.mono ?_; rintro e w11 ⟨ao1, cp1, rfl, hR1, -, hB2⟩; rw [HN.out] at hR1 ⊢; have HR1 := Lib.hid hR1; have HG11 := Lib.hid (HG9.out.upd hB2); have hT2 : ∀ c ∈ ([] : List Nat), c ∈ fp8 ∨ w8.heap.size ≤ c := (by simp); have HU11 : Hid (Upd fp8 w8 w11) := HU9.out.trans hB2.nil; clear hR1) | (go_at_call 33; have tk := tokP; clear tokP; refine (plain_any ao1 (some ⟨g, 0, none⟩) n cp1 capa (x :: r) _ HN.out (by omega) HR1.out (HR8.out.upd HU11.out (fun c hc e => by simp [blkO] at hc; subst hc; exact HGN.out e))).mono ?_; rintro e w12 ⟨rfl, hB3⟩; have HG12 := Lib.hid (HG11.out.upd hB3); have hT3 : ∀ c ∈ ([] : List Nat), c ∈ fp8 ∨ w8.heap.size ≤ c := (by simp); have HU12 : Hid (Upd fp8 w8 w12) := HU11.out.trans hB3.nil) | (go_at_call 38; refine (HG12.out.move_yes kx HK64.out HV2.out).mono ?_; rintro e w13 ⟨rfl, fp13, hG13, hF13⟩; have HG13 := Lib.hid hG13; have hB4 := hF13.2; have hT4 := HT9.out; have HU13 : Hid (Upd fp8 w8 w13) := (Held.more ⟨HU12.out, fun b o hb hn => HU12.out.cell hb hn o⟩ hB4 hT4).1; have tok13 : True := trivial; clear hG13 hF13) | (go_at_call 32; have tk := tok13; clear tok13; refine HG13.out.all.mono ?_; rintro e w14 ⟨ao2, cp2, rfl, hR2, -, hB5⟩; rw [HN.out] at hR2 ⊢; have HR2 := Lib.hid hR2; have HG14 := Lib.hid (HG13.out.upd hB5); have hT5 : ∀ c ∈ ([] : List Nat), c ∈ fp8 ∨ w8.heap.size ≤ c := (by simp); have HU14 : Hid (Upd fp8 w8 w14) := HU13.out.trans hB5.nil; clear hR2) | (go_at_call 33; refine (plain_any ao2 (some ⟨g, 0, none⟩) n cp2 capa (x :: r) _ HN.out (by omega) HR2.out (HR8.out.upd HU14.out (fun c hc e => by simp [blkO] at hc; subst hc; exact HGN.out e))).mono ?_; rintro e w15 ⟨rfl, hB6⟩; have HG15 := Lib.hid (HG14.out.upd hB6); have hT6 : ∀ c ∈ ([] : List Nat), c ∈ fp8 ∨ w8.heap.size ≤ c := (by simp)) | (go_at_call 35; refine HG15.out.base.mono ?_; rintro e w16 ⟨rfl, rfl⟩))
                all_goals
                  go_wp2
                  go_ret
                  exact ⟨rfl, HG15.out.updW⟩
              · have v4 : decide (base < kx) = false := by simp [hkb]
                have HM1 : Hid (base ≤ base) := Nat.le_refl _
                have HM2 : Hid (base ≤ kx) := hk3
                have HM3 : Hid (base < 18446744073709551616) := by have := HK64.out; unfold Hid; omega
                clear hkb
                go_wp2_with fail
                have HV1 : Hid (movB base (x :: r) base = true) := HMID.out base HM1.out HM2.out
                have HV2 : Hid (movB base (x :: r) kx = true) := movB_two HV1.out (HMID.out kx hk3 (Nat.le_refl _)) HM2.out
                have hgn : g ∉ fp8 := fun e => HGF8.out g e rfl
                have HGN := Lib.hid hgn
                have tokA : True := trivial
                have tokB : True := trivial
                have tokC : True := trivial
                have tokP : True := trivial
                go_region_held3 (fun w2 => Upd fp8 w8 w2 ∧ ∀ (b o : Nat), b < w8.heap.size → b ∉ fp8 → w2.cell? ⟨b, o, none⟩ = w8.cell? ⟨b, o, none⟩)
                  (first | exact Held.init _ _ | assumption | exact Held.more (by assumption) hB6 hT6 | exact Held.more (by assumption) hB5 hT5 | exact Held.more (by assumption) hB4 hT4 | exact Held.more (by assumption) hB3 hT3 | exact Held.more (by assumption) hB2 hT2 | exact Held.more (by assumption) hB1 hT1)
                  (first | (go_at_call 38; have tk := tokA; clear tokA; refine ((HG8.out.upd (Upd.refl [] w8).drew).move_yes base HM3.out HV1.out).mono ?_; rintro e w9 ⟨rfl, fp9, hG9, hF9⟩; have HG9 := Lib.hid hG9; have hB1 := hF9.2; have hT1 : ∀ c ∈ fp8, c ∈ fp8 ∨ w8.heap.size ≤ c := fun c h => .inl h; have HT9 : Hid (∀ c ∈ fp9, c ∈ fp8 ∨ w8.heap.size ≤ c) := hF9.1; have HU9 : Hid (Upd fp8 w8 w9) := ((Upd.refl fp8 w8).drew.trans hF9.2); clear hG9 hF9) | (go_at_call 35; have tk := tokB; clear tokB; refine HG9.out.base.mono ?_; rintro e w10 ⟨rfl, rfl⟩) | (go_at_call 32; have tk := tokC; clear tokC; refine HG9.out.all.mono ?_; rintro e w11 ⟨ao1, cp1, rfl, hR1, -, hB2⟩; rw [HN.out] at hR1 ⊢; have HR1 := Lib.hid hR1; have HG11 := Lib.hid (HG9.out.upd hB2); have hT2 : ∀ c ∈ ([] : List Nat), c ∈ fp8 ∨ w8.heap.size ≤ c := (by simp); have HU11 : Hid (Upd fp8 w8 w11) := HU9.out.trans hB2.nil; clear hR1) | (go_at_call 33; have tk := tokP; clear tokP; refine (plain_any ao1 (some ⟨g, 0, none⟩) n cp1 capa (x :: r) _ HN.out (by omega) HR1.out (HR8.out.upd HU11.out (fun c hc e => by simp [blkO] at hc; subst hc; exact HGN.out e))).mono ?_; rintro e w12 ⟨rfl, hB3⟩; have HG12 := Lib.hid (HG11.out.upd hB3); have hT3 : ∀ c ∈ ([] : List Nat), c ∈ fp8 ∨ w8.heap.size ≤ c := (by simp); have HU12 : Hid (Upd fp8 w8 w12) := HU11.out.trans hB3.nil) | (go_at_call 38; refine (HG12.out.move_yes kx HK64.out HV2.out).mono ?_; rintro e w13 ⟨rfl, fp13, hG13, hF13⟩; have HG13 := Lib.hid hG13; have hB4 := hF13.2; have hT4 := HT9.out; have HU13 : Hid (Upd fp8 w8 w13) := (Held.more ⟨HU12.out, fun b o hb hn => HU12.out.cell hb hn o⟩ hB4 hT4).1; have tok13 : True := trivial; clear hG13 hF13) | (go_at_call 32; have tk := tok13; clear tok13; refine HG13.out.all.mono ?_; rintro e w14 ⟨ao2, cp2, rfl, hR2, -, hB5⟩; rw [HN.out] at hR2 ⊢; have HR2 := Lib.hid hR2; have HG14 := Lib.hid (HG13.out.upd hB5); have hT5 : ∀ c ∈ ([] : List Nat), c ∈ fp8 ∨ w8.heap.size ≤ c := (by simp); have HU14 : Hid (Upd fp8 w8 w14) := HU13.out.trans hB5.nil; clear hR2) | (go_at_call 33; refine (plain_any ao2 (some ⟨g, 0, none⟩) n cp2 capa (x :: r) _ HN.out (by omega) HR2.out (HR8.out.upd HU14.out (fun c hc e => by simp [blkO] at hc; subst hc; exact HGN.out e))).mono ?_; rintro e w15 ⟨rfl, hB6⟩; have HG15 := Lib.hid (HG14.out.upd hB6); have hT6 : ∀ c ∈ ([] : List Nat), c ∈ fp8 ∨ w8.heap.size ≤ c := (by simp)) | (go_at_call 35; refine HG15.out.base.mono ?_; rintro e w16 ⟨rfl, rfl⟩))
                all_goals
                  go_wp2
                  go_ret
                  exact ⟨rfl, HG15.out.updW⟩
            · have v3 : decide (0 < base) = false := by simp [hb0]
              obtain ⟨w8, rfl⟩ : ∃ w8 : World, w8 = w7 := ⟨_, rfl⟩
              obtain ⟨fp8, rfl⟩ : ∃ f : List Nat, f = fp7 := ⟨_, rfl⟩
              have HG8 := HG7
              have HR8 := HR7
              have HGF8 := HGF7
              have x08 := x07
              have lg8 := lg7
              clear hb0 x07
              go_wp2_with fail
              refine HG8.out.base.mono ?_
              rintro e w9 ⟨rfl, rfl⟩
              by_cases hkb : base < kx
              · have v4 : decide (base < kx) = true := by simp [hkb]
                obtain ⟨d, q, mid, e1, e2, e3, e4, e5, e6, e7, e8, hm1, hm2, hm3⟩ := mid_num (t := t) hkb HK64.out
                clear e2 e4 e6 e8
                have f1 : (1 : Int) ≤ d := by have := HK64.out; omega
                have f2 : (d : Int) < 18446744073709551616 := by have := HK64.out; omega
                have f3 : (mid : Int) < 18446744073709551616 := by omega
                have f4 : (base : Int) ≤ mid := by omega
                have HM1 := Lib.hid hm1
                have HM2 := Lib.hid hm2
                have HM3 := Lib.hid hm3
                clear hm1 hm2 hm3 hkb
                go_wp2_with fail
                clear e1 e3 e5 e7 f1 f2 f3 f4
                have HV1 : Hid (movB base (x :: r) mid = true) := HMID.out mid HM1.out HM2.out
                have HV2 : Hid (movB mid (x :: r) kx = true) := movB_two HV1.out (HMID.out kx hk3 (Nat.le_refl _)) HM2.out
                have hgn : g ∉ fp8 := fun e => HGF8.out g e rfl
                have HGN := Lib.hid hgn
                have tokA : True := trivial
                have tokB : True := trivial
                have tokC : True := trivial
                have tokP : True := trivial
                go_region_held3 (fun w2 => Upd fp8 w8 w2 ∧ ∀ (b o : Nat), b < w8.heap.size → b ∉ fp8 → w2.cell? ⟨b, o, none⟩ = w8.cell? ⟨b, o, none⟩)
                  (first | exact Held.init _ _ | assumption | exact Held.more (by assumption) hB6 hT6 | exact Held.more (by assumption) hB5 hT5 | exact Held.more (by assumption) hB4 hT4 | exact Held.more (by assumption) hB3 hT3 | exact Held.more (by assumption) hB2 hT2 | exact Held.more (by assumption) hB1 hT1)
                  (first | (go_at_call 38; have tk := tokA; clear tokA; refine ((HG8.out.upd (Upd.refl [] w8).drew).move_yes mid HM3.out HV1.out).mono ?_; rintro e w9 ⟨rfl, fp9, hG9, hF9⟩; have HG9 := Lib.hid hG9; have hB1 := hF9.2; have hT1 : ∀ c ∈ fp8, c ∈ fp8 ∨ w8.heap.size ≤ c := fun c h => .inl h; have HT9 : Hid (∀ c ∈ fp9, c ∈ fp8 ∨ w8.heap.size ≤ c) := hF9.1; have HU9 : Hid (Upd fp8 w8 w9) := ((Upd.refl fp8 w8).drew.trans hF9.2); clear hG9 hF9) | (go_at_call 35; have tk := tokB; clear tokB; refine HG9.out.base.mono ?_; rintro e w10 ⟨rfl, rfl⟩) | (go_at_call 32; have tk := tokC; clear tokC; refine HG9.out.all.mono ?_; rintro e w11 ⟨ao1, cp1, rfl, hR1, -, hB2⟩; rw [HN.out] at hR1 ⊢; have HR1 := Lib.hid hR1; have HG11 := Lib.hid (HG9.out.upd hB2); have hT2 : ∀ c ∈ ([] : List Nat), c ∈ fp8 ∨ w8.heap.size ≤ c := (by simp); have HU11 : Hid (Upd fp8 w8 w11) := HU9.out.trans hB2.nil; clear hR1) | (go_at_call 33; have tk := tokP; clear tokP; refine (plain_any ao1 (some ⟨g, 0, none⟩) n cp1 capa (x :: r) _ HN.out (by omega) HR1.out (HR8.out.upd HU11.out (fun c hc e => by simp [blkO] at hc; subst hc; exact HGN.out e))).mono ?_; rintro e w12 ⟨rfl, hB3⟩; have HG12 := Lib.hid (HG11.out.upd hB3); have hT3 : ∀ c ∈ ([] : List Nat), c ∈ fp8 ∨ w8.heap.size ≤ c := (by simp); have HU12 : Hid (Upd fp8 w8 w12) := HU11.out.trans hB3.nil) | (go_at_call 38; refine (HG12.out.move_yes kx HK64.out HV2.out).mono ?_; rintro e w13 ⟨rfl, fp13, hG13, hF13⟩; have HG13 := Lib.hid hG13; have hB4 := hF13.2; have hT4 := HT9.out; have HU13 : Hid (Upd fp8 w8 w13) := (Held.more ⟨HU12.out, fun b o hb hn => HU12.out.cell hb hn o⟩ hB4 hT4).1; have tok13 : True := trivial; clear hG13 hF13) | (go_at_call 32; have tk := tok13; clear tok13; refine HG13.out.all.mono ?_; rintro e w14 ⟨ao2, cp2, rfl, hR2, -, hB5⟩; rw [HN.out] at hR2 ⊢; have HR2 := Lib.hid hR2; have HG14 := Lib.hid (HG13.out.upd hB5); have hT5 : ∀ c ∈ ([] : List Nat), c ∈ fp8 ∨ w8.heap.size ≤ c := (by simp); have HU14 : Hid (Upd fp8 w8 w14) := HU13.out.trans hB5.nil; clear hR2) | (go_at_call 33; refine (plain_any ao2 (some ⟨g, 0, none⟩) n cp2 capa (x :: r) _ HN.out (by omega) HR2.out (HR8.out.upd HU14.out (fun c hc e => by simp [blkO] at hc; subst hc; exact HGN.out e))).mono ?_; rintro e w15 ⟨rfl, hB6⟩; have HG15 := Lib.hid (HG14.out.upd hB6); have hT6 : ∀ c ∈ ([] : List Nat), c ∈ fp8 ∨ w8.heap.size ≤ c := (by simp)) | (go_at_call 35; refine HG15.out.base.mono ?_; rintro e w16 ⟨rfl, rfl⟩))
                all_goals
                  go_wp2
                  go_ret
                  exact ⟨rfl, HG15.out.updW⟩
              · have v4 : decide (base < kx) = false := by simp [hkb]
                have HM1 : Hid (base ≤ base) := Nat.le_refl _
                have HM2 : Hid (base ≤ kx) := hk3
                have HM3 : Hid (base < 18446744073709551616) := by have := HK64.out; unfold Hid; omega
                clear hkb
                go_wp2_with fail
                have HV1 : Hid (movB base (x :: r) base = true) := HMID.out base HM1.out HM2.out
                have HV2 : Hid (movB base (x :: r) kx = true) := movB_two HV1.out (HMID.out kx hk3 (Nat.le_refl _)) HM2.out
                have hgn : g ∉ fp8 := fun e => HGF8.out g e rfl
                have HGN := Lib.hid hgn
                have tokA : True := trivial
                have tokB : True := trivial
                have tokC : True := trivial
                have tokP : True := trivial
                go_region_held3 (fun w2 => Upd fp8 w8 w2 ∧ ∀ (b o : Nat), b < w8.heap.size → b ∉ fp8 → w2.cell? ⟨b, o, none⟩ = w8.cell? ⟨b, o, none⟩)
                  (first | exact Held.init _ _ | assumption | exact Held.more (by assumption) hB6 hT6 | exact Held.more (by assumption) hB5 hT5 | exact Held.more (by assumption) hB4 hT4 | exact Held.more (by assumption) hB3 hT3 | exact Held.more (by assumption) hB2 hT2 | exact Held.more (by assumption) hB1 hT1)
                  (first | (go_at_call 38; have tk := tokA; clear tokA; refine ((HG8.out.upd (Upd.refl [] w8).drew).move_yes base HM3.out HV1.out).mono ?_; rintro e w9 ⟨rfl, fp9, hG9, hF9⟩; have HG9 := Lib.hid hG9; have hB1 := hF9.2; have hT1 : ∀ c ∈ fp8, c ∈ fp8 ∨ w8.heap.size ≤ c := fun c h => .inl h; have HT9 : Hid (∀ c ∈ fp9, c ∈ fp8 ∨ w8.heap.size ≤ c) := hF9.1; have HU9 : Hid (Upd fp8 w8 w9) := ((Upd.refl fp8 w8).drew.trans hF9.2); clear hG9 hF9) | (go_at_call 35; have tk := tokB; clear tokB; refine HG9.out.base.mono ?_; rintro e w10 ⟨rfl, rfl⟩) | (go_at_call 32; have tk := tokC; clear tokC; refine HG9.out.all.mono ?_; rintro e w11 ⟨ao1, cp1, rfl, hR1, -, hB2⟩; rw [HN.out] at hR1 ⊢; have HR1 := Lib.hid hR1; have HG11 := Lib.hid (HG9.out.upd hB2); have hT2 : ∀ c ∈ ([] : List Nat), c ∈ fp8 ∨ w8.heap.size ≤ c := (by simp); have HU11 : Hid (Upd fp8 w8 w11) := HU9.out.trans hB2.nil; clear hR1) | (go_at_call 33; have tk := tokP; clear tokP; refine (plain_any ao1 (some ⟨g, 0, none⟩) n cp1 capa (x :: r) _ HN.out (by omega) HR1.out (HR8.out.upd HU11.out (fun c hc e => by simp [blkO] at hc; subst hc; exact HGN.out e))).mono ?_; rintro e w12 ⟨rfl, hB3⟩; have HG12 := Lib.hid (HG11.out.upd hB3); have hT3 : ∀ c ∈ ([] : List Nat), c ∈ fp8 ∨ w8.heap.size ≤ c := (by simp); have HU12 : Hid (Upd fp8 w8 w12) := HU11.out.trans hB3.nil) | (go_at_call 38; refine (HG12.out.move_yes kx HK64.out HV2.out).mono ?_; rintro e w13 ⟨rfl, fp13, hG13, hF13⟩; have HG13 := Lib.hid hG13; have hB4 := hF13.2; have hT4 := HT9.out; have HU13 : Hid (Upd fp8 w8 w13) := (Held.more ⟨HU12.out, fun b o hb hn => HU12.out.cell hb hn o⟩ hB4 hT4).1; have tok13 : True := trivial; clear hG13 hF13) | (go_at_call 32; have tk := tok13; clear tok13; refine HG13.out.all.mono ?_; rintro e w14 ⟨ao2, cp2, rfl, hR2, -, hB5⟩; rw [HN.out] at hR2 ⊢; have HR2 := Lib.hid hR2; have HG14 := Lib.hid (HG13.out.upd hB5); have hT5 : ∀ c ∈ ([] : List Nat), c ∈ fp8 ∨ w8.heap.size ≤ c := (by simp); have HU14 : Hid (Upd fp8 w8 w14) := HU13.out.trans hB5.nil; clear hR2) | (go_at_call 33; refine (plain_any ao2 (some ⟨g, 0, none⟩) n cp2 capa (x :: r) _ HN.out (by omega) HR2.out (HR8.out.upd HU14.out (fun c hc e => by simp [blkO] at hc; subst hc; exact HGN.out e))).mono ?_; rintro e w15 ⟨rfl, hB6⟩; have HG15 := Lib.hid (HG14.out.upd hB6); have hT6 : ∀ c ∈ ([] : List Nat), c ∈ fp8 ∨ w8.heap.size ≤ c := (by simp)) | (go_at_call 35; refine HG15.out.base.mono ?_; rintro e w16 ⟨rfl, rfl⟩))
                all_goals
                  go_wp2
                  go_ret
                  exact ⟨rfl, HG15.out.updW⟩
end Go.Proofs.YtbnifhdnpeiheaaDoor
