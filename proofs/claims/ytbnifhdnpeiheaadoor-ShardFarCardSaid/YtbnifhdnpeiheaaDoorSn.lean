/-
  The walk of ShardFar. Condition: where a table of the library's lies.
-/
import Derived.Test.YtbnifhdnpeiheaaDoorSk
import Derived.Test.YtbnifhdnpeiheaaDoorPB
import Derived.Test.YtbnifhdnpeiheaaDoorPS
set_option linter.unusedVariables false
set_option linter.unusedSimpArgs false
namespace Go.Proofs.YtbnifhdnpeiheaaDoor
open Go.RowKit

theorem key_cells {w : World} {v : Value} {n : Nat} {D : Nat → Nat → Int} (h : RowsAt w [.u64] v n D) : ∃ ao cap, v = .slice ao n cap ∧ n ≤ maxLen ∧ (n = 0 ∨ ∃ b off, ao = some ⟨b, off, none⟩ ∧ b < w.heap.size ∧
    ∀ i, i < n → w.cell? ⟨b, off + i, none⟩ = some (.int .u64 (D i 0)) ∧ 0 ≤ D i 0 ∧ D i 0 < 18446744073709551616) := by
  obtain ⟨ao, cap, hv, hm, h | ⟨b, off, ha, hb, hc⟩⟩ := h
  · exact ⟨ao, cap, hv, hm, .inl h⟩
  · refine ⟨ao, cap, hv, hm, .inr ⟨b, off, ha, hb, fun i hi => ⟨by simpa using (hc i hi 0 .u64 rfl).1, (wf_u64_bd (hc i hi 0 .u64 rfl).2).1, ?_⟩⟩⟩
    have := (wf_u64_bd (hc i hi 0 .u64 rfl).2).2
    omega
/-- All IDs are below i. -/
def IdLt (L : List It) (i : Nat) : Prop := ∀ x ∈ L, 0 ≤ x.2 ∧ x.2 < (i : Int)
theorem IdLt.no {L : List It} {i : Nat} (h : IdLt L i) {j : Int} (hj : j < 0 ∨ (i : Int) ≤ j) : hasI L j = false := by
  rw [hasI_no]; intro x hx e; have := h x hx; omega
theorem IdLt.ins {L : List It} {i k : Nat} {c : Bool} (h : IdLt L i) : IdLt (if c = true then insI ((k : Int), (i : Int)) L else L) (i + 1) := by
  intro x hx
  cases c with
  | false => have := h x (by simpa using hx); omega
  | true =>
    rw [if_pos rfl] at hx
    rcases List.mem_cons.1 ((insI_perm _ L).mem_iff.1 hx) with rfl | hx
    · simp; omega
    · have := h x hx; omega
def Far6At (W : World) (sb b base wd c : Nat) (iv : Value) (wr : World) : Prop := ∃ (i : Nat) (L : List It) (fp fq : List Nat), iv = .int .i64 i ∧ i ≤ c ∧ L.length ≤ i ∧ IdLt L i ∧ SR W sb b base wd L fp fq wr
/-- The shard's deed, then the document's. -/
theorem SR.both {W w w1 w2 w' : World} {sb b base base' wd : Nat} {L L' : List It} {fp fq : List Nat} (h : SR W sb b base wd L fp fq w) (k1 : SLTo W sb base' wd L' fp w w1) (g : Upd [] w1 w2) (k2 : RGTo W b base' wd true L' fq w2 w') :
    ∃ fp' fq', SR W sb b base' wd L' fp' fq' w' := by
  obtain ⟨fp', a1, a2, a3⟩ := k1
  obtain ⟨fq', b1, b2, b3⟩ := k2
  have hq0 := h.2.1.lt
  have hp0 := h.1.lt
  have hs := a3.size
  have hg := g.size
  refine ⟨fp', fq', (a1.upd g).updS b3 (fun c hc e => ?_) (fun c hc => h.2.1.newB c hc), b1, fun c hc e => ?_, a1.keys⟩
  · rcases a2 c hc with h' | h'
    · exact h.2.2.1 c h' e
    · have := hq0 c e; omega
  · rcases b2 c e with h'' | h''
    · rcases a2 c hc with h' | h'
      · exact h.2.2.1 c h' h''
      · have := hq0 c h''; omega
    · have := a1.lt c hc; omega
theorem SR.after1 {W w w1 : World} {sb b base base' wd : Nat} {L L' : List It} {fp fq : List Nat} (h : SR W sb b base wd L fp fq w) (k1 : SLTo W sb base' wd L' fp w w1) : RG W b base wd true L fq w1 :=
  h.2.1.upd k1.up (fun c hc e => h.2.2.1 c e hc)

set_option maxRecDepth 100000 in
set_option maxHeartbeats 32000000 in
theorem sfar_walk (width base_ : Int) (v : Value) (m : Nat) (D : Nat → Nat → Int) (W : World) (hT : TabAt 0 Lib.deBruijn64tab W) (_ : (Lit.int .i64 width).wf = true) (h1 : (Lit.int .u64 base_).wf = true) (hv : RowsAt W [.u64] v m D) :
    Calls Tryd.prog 11 #[.int .i64 width, .int .u64 base_, v] W (RetUpd [] W (.bool true)) := by
  obtain ⟨ao, cap, rfl, hmm, hD⟩ := key_cells hv
  unfold maxLen at hmm
  have hbb := wf_u64_bd h1
  obtain ⟨base, rfl⟩ := Int.eq_ofNat_of_zero_le hbb.1
  have hb64 : base < 18446744073709551616 := by omega
  have HB64 := Lib.hid hb64
  have HD := Lib.hid hD
  have HT := Lib.hid hT
  clear hD hv hT h1 hbb hb64
  obtain ⟨c, hc⟩ : ∃ c : Nat, min m 40 = c := ⟨_, rfl⟩
  have hcm : c ≤ m := by omega
  have hc40 : c ≤ 40 := by omega
  have HC : Hid (min m 40 = c) := hc
  have HM0 : Hid (movB 0 [] base = true) := by unfold Hid movB; simp
  clear hc
  go_enter Tryd.func11, Tryd.ntmps11
  go_wp2_with fail
  refine (smade_any W width W (Upd.refl [] W) HT.out).mono ?_
  rintro e1 w1 ⟨wb, b, wd, fp0, fq0, rfl, hP, -, -, -⟩
  have HP1 := Lib.hid hP
  clear hP
  go_wp2_with fail
  refine (awake6_any _ (tab_upd HT.out HP1.out.1.updW)).mono ?_
  rintro e w2 ⟨rfl, hU⟩
  have HP2 := Lib.hid (HP1.out.upd hU)
  clear hU HP1
  go_wp2_with fail
  refine (HP2.out.1.move base HB64.out).mono ?_
  rintro e w3 ⟨rfl, h3⟩
  rw [HM0.out] at h3 ⊢
  rw [if_pos rfl] at h3
  have H3 := Lib.hid h3
  clear h3
  go_wp2_with fail
  refine ((HP2.out.after1 H3.out).move base HB64.out (by simp)).mono ?_
  rintro e w4 ⟨rfl, h4⟩
  rw [HM0.out] at h4 ⊢
  rw [if_pos rfl] at h4
  obtain ⟨fp4, fq4, hP4⟩ := HP2.out.both H3.out (Upd.refl _ _) h4
  have HP4 := Lib.hid hP4
  clear h4 hP4
  go_wp2
  go_loopw [9] (fun iv wr => Far6At W wb b base wd c iv wr) (fun iv _ => c - (intOf iv).toNat)
  case atStart => exact ⟨0, [], _, _, rfl, by omega, by simp, fun x hx => (by cases hx), HP4.out⟩
  case round =>
    clear HP2 H3 HP4
    obtain ⟨i, L, fp, fq, rfl, hi, hLi, hId, hP⟩ := hrel
    have HP := Lib.hid hP
    have HID := Lib.hid hId
    clear hP hId
    by_cases hlt : i < c
    · rcases HD.out with h0 | ⟨bd, off, rfl, hb1, hcc⟩
      · omega
      obtain ⟨c0, hk0, hk1⟩ := hcc i (by omega)
      rw [← HP.out.1.updW.cell hb1 (by simp)] at c0
      have lbd := Nat.lt_of_lt_of_le hb1 HP.out.1.updW.size
      have him : i < m := by omega
      have t1 : decide (i < m) = true := by simp; omega
      have t2 : decide ((i : Int) < 40) = true := by simp; omega
      have b1 : (i : Int) < (m : Int) := by omega
      obtain ⟨key, hkey⟩ : ∃ k, D i 0 = k := ⟨_, rfl⟩
      rw [hkey] at c0 hk0 hk1
      obtain ⟨kk, rfl⟩ := Int.eq_ofNat_of_zero_le hk0
      have hkk : kk < 18446744073709551616 := by omega
      have HKK := Lib.hid hkk
      clear hcc hb1 hkey hk1 hkk
      go_wp2_with fail
      refine (near_any 0 kk base 0 HKK.out _).mono ?_
      rintro e w5 ⟨nk, hnk, rfl, hU5⟩
      have HNK := Lib.hid hnk
      have HP5 := Lib.hid (HP.out.upd hU5)
      obtain ⟨r, hr⟩ : ∃ r, decide (base ≤ nk) = r := ⟨_, rfl⟩
      have htk : takeS base L nk (i : Int) = r := by unfold takeS; rw [HID.out.no (.inr (Int.le_refl _)), hr]; simp
      have HTK := Lib.hid htk
      have HR := Lib.hid hr
      have hsm : L.length < 1000 := by omega
      clear hU5 htk hr
      go_wp2_with fail
      refine (HP5.out.1.push nk HNK.out (i : Int) hsm).mono ?_
      rintro e w6 ⟨rfl, h6⟩
      rw [HTK.out] at h6 ⊢
      have H6 := Lib.hid h6
      clear h6
      cases r with
      | false =>
        have t3 : decide (base ≤ nk) = false := HR.out
        go_wp2_with fail
        refine ((HP5.out.after1 H6.out).push_all nk HNK.out (i : Int) hsm).mono ?_
        rintro e w7 ⟨rfl, h7⟩
        rw [HTK.out] at h7 ⊢
        obtain ⟨fp7, fq7, hP7⟩ := HP5.out.both H6.out (Upd.refl _ _) h7
        have HP7 := Lib.hid hP7
        obtain ⟨f7, hf7⟩ : ∃ n, farN base wd (if false = true then insI ((nk : Int), (i : Int)) L else L) = n := ⟨_, rfl⟩
        clear h7 hP7
        go_wp2_with fail
        refine HP7.out.1.over_.mono ?_
        rintro e w8 ⟨rfl, hU8⟩
        rw [hf7]
        have HF7 := Lib.hid hf7
        have HP8 := Lib.hid (HP7.out.upd hU8)
        clear hU8 hf7
        go_wp2_with fail
        refine HP8.out.over_.mono ?_
        rintro e w9 ⟨rfl, hU9⟩
        rw [HF7.out]
        have HP9 := Lib.hid (HP8.out.upd hU9)
        clear hU9
        go_wp2
        exact ⟨⟨i + 1, _, fp7, fq7, by congr 1, by omega, by have := len_ins5 false L ((nk : Int), (i : Int)); omega, HID.out.ins (c := false), HP9.out⟩, by first | (simp [intOf]; done) | (simp [intOf]; omega)⟩
      | true =>
        have t3 : decide (base ≤ nk) = true := HR.out
        go_wp2_with fail
        refine ((HP5.out.after1 H6.out).push_all nk HNK.out (i : Int) hsm).mono ?_
        rintro e w7 ⟨rfl, h7⟩
        rw [HTK.out] at h7 ⊢
        obtain ⟨fp7, fq7, hP7⟩ := HP5.out.both H6.out (Upd.refl _ _) h7
        have HP7 := Lib.hid hP7
        obtain ⟨f7, hf7⟩ : ∃ n, farN base wd (if true = true then insI ((nk : Int), (i : Int)) L else L) = n := ⟨_, rfl⟩
        clear h7 hP7
        go_wp2_with fail
        refine HP7.out.1.over_.mono ?_
        rintro e w8 ⟨rfl, hU8⟩
        rw [hf7]
        have HF7 := Lib.hid hf7
        have HP8 := Lib.hid (HP7.out.upd hU8)
        clear hU8 hf7
        go_wp2_with fail
        refine HP8.out.over_.mono ?_
        rintro e w9 ⟨rfl, hU9⟩
        rw [HF7.out]
        have HP9 := Lib.hid (HP8.out.upd hU9)
        clear hU9
        go_wp2
        exact ⟨⟨i + 1, _, fp7, fq7, by congr 1, by omega, by have := len_ins5 true L ((nk : Int), (i : Int)); omega, HID.out.ins (c := true), HP9.out⟩, by first | (simp [intOf]; done) | (simp [intOf]; omega)⟩
    · have t1 : Hid (decide (i < m) = true ∧ decide ((i : Int) < 40) = false ∨ decide (i < m) = false) := by
        have := HC.out
        unfold Hid
        by_cases h : i < m
        · left; exact ⟨by simp; omega, by simp; omega⟩
        · right; simp; omega
      have hL40 : L.length ≤ 40 := by omega
      by_cases hb0 : 0 < base
      · have v3 : decide (0 < base) = true := by simp [hb0]
        obtain ⟨b1, g1, g2, hb1⟩ : ∃ b1 : Nat, (base : Int) - 1 = b1 ∧ IntKind.u64.wrap (b1 : Int) = b1 ∧ b1 < base := ⟨base - 1, by omega, by have := HB64.out; rw [IntKind.wrap_u64]; omega, by omega⟩
        have HTK : Hid (takeS base L b1 (-1) = false) := by
          unfold Hid takeS
          have : decide (base ≤ b1) = false := by simp; omega
          rw [this]; rfl
        have HB1 : Hid (b1 < 18446744073709551616) := by have := HB64.out; unfold Hid; omega
        have hsm : L.length < 1000 := by omega
        clear hb1
        rcases t1.out with ⟨t2, t3⟩ | t2
        all_goals
          clear t1
          go_wp2_with fail
          refine (HP.out.1.push b1 HB1.out (-1) hsm).mono ?_
          rintro e w6 ⟨rfl, h6⟩
          rw [HTK.out] at h6 ⊢
          rw [if_neg (by simp)] at h6
          obtain ⟨fp6, hP6⟩ : ∃ fp6, SR W wb b base wd L fp6 fq w6 := by
            obtain ⟨fp6, a1, a2, a3⟩ := h6
            exact ⟨fp6, a1, HP.out.after1 ⟨fp6, a1, a2, a3⟩, fun c hc e => by
              rcases a2 c hc with h' | h'
              · exact HP.out.2.2.1 c h' e
              · have := HP.out.2.1.lt c e; omega, a1.keys⟩
          have HPF := Lib.hid hP6
          clear h6 hP6 g1 g2
          obtain ⟨ao6, cap6, hB6, hR, -⟩ := HPF.out.2.1.cells
          have q0 := hB6.cell (j := 0) rfl
          have lb6 := hB6.lt
          obtain ⟨n, hn⟩ : ∃ n, L.length = n := ⟨_, rfl⟩
          rw [hn] at q0 hR hL40
          have HN := Lib.hid hn
          have HR := Lib.hid hR
          have hn80 : n ≤ 80 := by omega
          clear hn hR hB6
          go_wp2_with fail
          go_region_held3 (fun w2 => Upd [] w6 w2 ∧ ∀ (b o : Nat), b < w6.heap.size → b ∉ ([] : List Nat) → w2.cell? ⟨b, o, none⟩ = w6.cell? ⟨b, o, none⟩)
            (first | exact Held.init _ _ | assumption | exact Held.step (by assumption) hBb | exact Held.step (by assumption) hBa)
            (first | (go_at_call 47; refine ((HPF.out.upd (Upd.refl [] w6).drew).1.all).mono ?_; rintro e w7 ⟨aoa, capa, rfl, hRa, -, hBa⟩; rw [HN.out] at hRa ⊢; have HRa := Lib.hid hRa; clear hRa) | (go_at_call 33; refine (plain_any aoa ao6 n capa cap6 L _ HN.out (by omega) HRa.out (HR.out.upd ((Upd.refl [] w6).drew.trans hBa) (by simp))).mono ?_; rintro e w8 ⟨rfl, hBb⟩))
          go_wp2
          go_ret
          exact ⟨rfl, ((HPF.out.1.updW.trans ((Upd.refl [] w6).drew.trans hBa)).trans hBb)⟩
      · have v3 : decide (0 < base) = false := by simp [hb0]
        rcases t1.out with ⟨t2, t3⟩ | t2
        all_goals
          clear t1
          have HPF := HP
          go_wp2_with fail
          obtain ⟨ao6, cap6, hB6, hR, -⟩ := HPF.out.2.1.cells
          have q0 := hB6.cell (j := 0) rfl
          have lb6 := hB6.lt
          obtain ⟨n, hn⟩ : ∃ n, L.length = n := ⟨_, rfl⟩
          rw [hn] at q0 hR hL40
          have HN := Lib.hid hn
          have HR := Lib.hid hR
          have hn80 : n ≤ 80 := by omega
          clear hn hR hB6
          go_wp2_with fail
          go_region_held3 (fun w2 => Upd [] wr w2 ∧ ∀ (b o : Nat), b < wr.heap.size → b ∉ ([] : List Nat) → w2.cell? ⟨b, o, none⟩ = wr.cell? ⟨b, o, none⟩)
            (first | exact Held.init _ _ | assumption | exact Held.step (by assumption) hBb | exact Held.step (by assumption) hBa)
            (first | (go_at_call 47; refine ((HPF.out.upd (Upd.refl [] wr).drew).1.all).mono ?_; rintro e w7 ⟨aoa, capa, rfl, hRa, -, hBa⟩; rw [HN.out] at hRa ⊢; have HRa := Lib.hid hRa; clear hRa) | (go_at_call 33; refine (plain_any aoa ao6 n capa cap6 L _ HN.out (by omega) HRa.out (HR.out.upd ((Upd.refl [] wr).drew.trans hBa) (by simp))).mono ?_; rintro e w8 ⟨rfl, hBb⟩))
          go_wp2
          go_ret
          exact ⟨rfl, ((HPF.out.1.updW.trans ((Upd.refl [] wr).drew.trans hBa)).trans hBb)⟩
end Go.Proofs.YtbnifhdnpeiheaaDoor
