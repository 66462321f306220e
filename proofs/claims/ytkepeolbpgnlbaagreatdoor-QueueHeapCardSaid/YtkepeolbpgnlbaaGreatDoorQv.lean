/-
  The walk of QueueHeap. Condition: where a table of the library's lies.
-/
import Derived.Test.YtkepeolbpgnlbaaGreatDoorQu
import Derived.Test.YtkepeolbpgnlbaaGreatDoorIG
import Derived.Test.YtkepeolbpgnlbaaGreatDoorPB
import Derived.Test.YtkepeolbpgnlbaaGreatDoorPS
set_option linter.unusedVariables false
set_option linter.unusedSimpArgs false
namespace Go.Proofs.YtkepeolbpgnlbaaGreatDoor
open Go.RowKit

/-- A queue and a list that hold the same. -/
def HQ (W : World) (sb b last wd : Nat) (L : List It) (fp fq : List Nat) (w : World) : Prop := QH W sb last wd L fp w ∧ IG W b L fq w ∧ ∀ c ∈ fp, c ∉ fq
section
variable {W w w1 w2 w' : World} {sb b last last' wd : Nat} {L L' : List It} {fp fq : List Nat}
theorem HQ.upd (h : HQ W sb b last wd L fp fq w) (hu : Upd [] w w') : HQ W sb b last wd L fp fq w' := ⟨h.1.upd hu, h.2.1.upd hu (by simp), h.2.2⟩
theorem HQ.newq (h : HQ W sb b last wd L fp fq w) : ∀ c ∈ fq, W.heap.size ≤ c := by obtain ⟨_, _, _, _, h3⟩ := h.2.1; exact h3
theorem HQ.after1 (h : HQ W sb b last wd L fp fq w) (k1 : QHTo W sb last' wd L' fp w w1) : IG W b L fq w1 := h.2.1.upd k1.up (fun c hc e => h.2.2 c e hc)
theorem HQ.both (h : HQ W sb b last wd L fp fq w) (k1 : QHTo W sb last' wd L' fp w w1) (g : Upd [] w1 w2) (k2 : IGTo W b L' fq w2 w') : ∃ fp' fq', HQ W sb b last' wd L' fp' fq' w' := by
  obtain ⟨fp', a1, a2, a3⟩ := k1
  obtain ⟨fq', b1, b2, b3⟩ := k2
  have hq0 := h.2.1.lt
  have hs := a3.size
  have hg := g.size
  refine ⟨fp', fq', (a1.upd g).updS b3 (fun c hc e => ?_) (fun c hc => h.newq c hc), b1, fun c hc e => ?_⟩
  · rcases a2 c hc with h' | h'
    · exact h.2.2 c h' e
    · have := hq0 c e; omega
  · rcases b2 c e with h'' | h''
    · rcases a2 c hc with h' | h'
      · exact h.2.2 c h' h''
      · have := hq0 c h''; omega
    · have := a1.lt c hc; omega
end
def ItemQ (w1 : World) (last : Nat) (nm : Int) (s : Value) (wx : World) : Prop := ∃ k : Nat, k < 18446744073709551616 ∧ last ≤ k ∧ ItemVar w1 ((k : Int), nm) s wx
def Heap8At (W : World) (sb b wd c : Nat) (lv iv : Value) (wr : World) : Prop := ∃ (i last : Nat) (L : List It) (fp fq : List Nat), iv = .int .i64 i ∧ lv = .int .u64 last ∧ i ≤ c ∧ L.length ≤ i ∧ HQ W sb b last wd L fp fq wr
theorem max_natq (a b : Nat) (ha : a < 18446744073709551616) (hb : b < 18446744073709551616) : ∃ m : Nat, max (a : Int) (b : Int) = m ∧ b ≤ m ∧ m < 18446744073709551616 := ⟨max a b, by omega, by omega, by omega⟩


set_option maxRecDepth 100000 in
set_option maxHeartbeats 32000000 in
theorem qheap_walk (sh width : Int) (v : Value) (m : Nat) (D : Nat → Nat → Int) (W : World) (hT : TabAt 0 Lib.deBruijn64tab W) (_ : (Lit.int .i64 sh).wf = true) (_ : (Lit.int .i64 width).wf = true) (hv : RowsAt W [.i64, .u64, .i64] v m D) :
    Calls Tryz.prog 4 #[.int .i64 sh, .int .i64 width, v] W (RetUpd [] W (.bool true)) := by
  obtain ⟨ao, cap, rfl, hmm, hD⟩ := deed_cells hv
  unfold maxLen at hmm
  have HD := Lib.hid hD
  have HT := Lib.hid hT
  clear hD hv hT
  obtain ⟨c, hc⟩ : ∃ c : Nat, min m 80 = c := ⟨_, rfl⟩
  have hcm : c ≤ m := by omega
  have hc80 : c ≤ 80 := by omega
  have HC : Hid (min m 80 = c) := hc
  clear hc
  go_enter Tryz.func4, Tryz.ntmps4
  go_wp2_with fail
  refine (qmade_any W sh width W (Upd.refl [] W) HT.out).mono ?_
  rintro e1 w1 ⟨sb, b0, wd, m0, fp0, fq0, rfl, hP, -, -, -⟩
  have HP1 : Hid (HQ W sb w1.heap.size 0 wd [] fp0 [w1.heap.size] (w1.alloc (.cells #[.slice none 0 0] 41))) := ⟨QH.new (hP.1.upd ((Upd.refl [] w1).alloc _)), IG.new (Blk.new w1 41 [.slice none 0 0]) hP.1.updW.size, fun c hc e => by have := hP.1.lt c hc; simp at e; omega⟩
  clear hP
  go_wp2_with fail
  refine (awake8_any _ (tab_upd HT.out HP1.out.1.updW)).mono ?_
  rintro e w2 ⟨rfl, hU⟩
  have HP2 := Lib.hid (HP1.out.upd hU)
  clear hU HP1
  obtain ⟨b, hb1⟩ : ∃ b, w1.heap.size = b := ⟨_, rfl⟩
  rw [hb1] at HP2 ⊢
  clear hb1
  go_wp2
  go_loopw [10, 11] (fun lv iv wr => Heap8At W sb b wd c lv iv wr) (fun _ iv _ => c - (intOf iv).toNat)
  case atStart => exact ⟨0, 0, [], _, _, rfl, rfl, by omega, by simp, HP2.out⟩
  case round =>
    clear HP2
    obtain ⟨i, last, L, fp, fq, rfl, rfl, hi, hLi, hP⟩ := hrel
    have HP := Lib.hid hP
    have HL64 := Lib.hid hP.1.b64
    clear hP
    by_cases hlt : i < c
    · rcases HD.out with h0 | ⟨bd, off, rfl, hb1, hcc⟩
      · omega
      obtain ⟨c0, c1, c2, hk0, hk1⟩ := hcc i (by omega)
      rw [← HP.out.1.updW.cell hb1 (by simp)] at c0 c1 c2
      have lbd := Nat.lt_of_lt_of_le hb1 HP.out.1.updW.size
      have him : i < m := by omega
      have t1 : decide (i < m) = true := by simp; omega
      have t2 : decide ((i : Int) < 80) = true := by simp; omega
      have b1 : (i : Int) < (m : Int) := by omega
      obtain ⟨k, hk⟩ : ∃ k, D i 0 = k := ⟨_, rfl⟩
      obtain ⟨key, hkey⟩ : ∃ k, D i 1 = k := ⟨_, rfl⟩
      obtain ⟨id, hid⟩ : ∃ k, D i 2 = k := ⟨_, rfl⟩
      rw [hk] at c0
      rw [hkey] at c1 hk0 hk1
      rw [hid] at c2
      obtain ⟨kk, rfl⟩ := Int.eq_ofNat_of_zero_le hk0
      have hkk : kk < 18446744073709551616 := by omega
      have HKK := Lib.hid hkk
      obtain ⟨nm, hnm⟩ : ∃ x, modI id 12 = x := ⟨_, rfl⟩
      have HNM := Lib.hid hnm
      have HNN : Hid (0 ≤ nm) := by unfold Hid; rw [← hnm]; exact (modI_bd id 12 (by omega) (by omega)).1
      have hmb := modI_bd k 4 (by omega) (by omega)
      obtain ⟨mm, hm⟩ : ∃ m, modI k 4 = m := ⟨_, rfl⟩
      rw [hm] at hmb
      have HM := Lib.hid hm
      have HMB := Lib.hid hmb
      have hC0 := Lib.hid c0
      have hC1 := Lib.hid c1
      have hC2 := Lib.hid c2
      have hsm : L.length < 1000 := by omega
      clear hcc hb1 hk hkey hid hk1 hkk hnm hm hmb
      go_wp2_with fail
      go_cut [12] (fun s wx => ItemQ wr last nm s wx)
      case first =>
        go_region_held3 (fun w2 => Upd [] wr w2 ∧ ∀ (b o : Nat), b < wr.heap.size → b ∉ ([] : List Nat) → w2.cell? ⟨b, o, none⟩ = wr.cell? ⟨b, o, none⟩)
          (first | exact Held.init _ _ | assumption | exact Held.step (by assumption) hBb | exact Held.step (by assumption) hBa | exact Held.new (by assumption) _ | exact Held.new (Held.init [] wr) _ | exact Held.new (Held.step (Held.step (Held.init [] wr) hBa) hBb) _ | exact Held.new (Held.step (Held.init [] wr) hBa) _ | exact Held.far (Held.far (by assumption) (by first | omega | (simp; done) | (simp; omega)) _) (by first | omega | (simp; done) | (simp; omega)) _)
          (first | (go_at_call 13; refine (near_any _ _ _ _ HKK.out _).mono ?_; rintro e w3 ⟨nk, hnk, rfl, hBa⟩; obtain ⟨mx, hmx, hlm, hmx64⟩ := max_natq nk last hnk HL64.out; have HLM := Lib.hid hlm; have HMX := Lib.hid hmx64; clear hnk hlm hmx64; have hcs := hBa.cells; have hfs := hBa.frozens; have hsz1 := hBa.size; (try simp at hsz1); (try (have q := szero_at hBa; obtain ⟨q0, q1, q2, q3, q4⟩ := q))) | (go_at_call 14; refine (mod_any id 12 (by omega) (by omega) _).mono ?_; rintro e w4 ⟨rfl, rfl⟩; rw [HNM.out]))
        all_goals
          go_wp2_with fail
          go_meet
          refine ⟨mx, HMX.out, HLM.out, _, rfl, ?_, ?_, ?_, ?_, ‹Upd [] wr _ ∧ _›.1⟩
          · first | omega | (simp; done) | (simp; omega)
          · first | omega | (simp; done) | (simp; omega)
          · first | (simp; done) | exact (two_set rfl rfl r0 r1 _ _).1 | exact (two_set rfl rfl q0 q1 _ _).1
          · first | (simp; done) | exact (two_set rfl rfl r0 r1 _ _).2 | exact (two_set rfl rfl q0 q1 _ _).2
      case rest =>
        obtain ⟨mx, hmx, hlm, g, rfl, hg1, hg2, hx0, hx1, hU4⟩ := hcut
        have HMX := Lib.hid hmx
        have HLM := Lib.hid hlm
        have f0 := (hU4.cell lbd (by simp) (off + i * 3)).trans hC0.out
        have f1 := (hU4.cell lbd (by simp) (off + i * 3 + 1)).trans hC1.out
        have f2 := (hU4.cell lbd (by simp) (off + i * 3 + 2)).trans hC2.out
        have lf := Nat.lt_of_lt_of_le lbd hU4.size
        have n1 : g ∉ fp := fun e => by have := HP.out.1.lt g e; omega
        have n2 : g ∉ fq := fun e => by have := HP.out.2.1.lt g e; omega
        have HU4 := Lib.hid hU4
        clear hU4 hmx hlm c0 c1 c2
        go_wp2_with fail
        refine (what_any k kk id 4 (by omega) (by omega) _).mono ?_
        rintro e w5 ⟨rfl, hU5⟩
        rw [HM.out]
        have HU5 : Hid (Upd [] wr w5) := HU4.out.trans hU5
        have HP5 := Lib.hid (HP.out.upd HU5.out)
        have x0 := (hU5.cell hg2 (by simp) 0).trans hx0
        have x1 := (hU5.cell hg2 (by simp) 1).trans hx1
        have lg5 := Nat.lt_of_lt_of_le hg2 hU5.size
        have hm4 : mm = 0 ∨ mm = 1 ∨ mm = 2 ∨ mm = 3 := by have := HMB.out; omega
        clear hU5 hx0 hx1 f0 f1 f2 lf
        rcases hm4 with rfl | rfl | rfl | rfl
        · skip
          cases hx : hasI L nm with
          | true =>
            have HX := Lib.hid hx
            have HTK : Hid (takeS last L mx nm = false) := by unfold Hid takeS; rw [hx]; simp
            clear hx
            go_wp2_with fail
            have HP5d := Lib.hid (HP5.out.upd (Upd.refl [] w5).drew)
            go_region_held3 (fun w2 => Upd (fp ++ fq) w5 w2 ∧ ∀ (b o : Nat), b < w5.heap.size → b ∉ (fp ++ fq) → w2.cell? ⟨b, o, none⟩ = w5.cell? ⟨b, o, none⟩)
              (first | exact Held.init _ _ | exact Held.step (by assumption) hBb | exact Held.step (by assumption) hBa)
              (first | (go_at_call 16; refine (HP5d.out.1.push mx HMX.out nm hsm HLM.out HNN.out).mono ?_; rintro e w6 ⟨rfl, h6⟩; rw [HTK.out] at h6 ⊢; have H6 := Lib.hid h6; have hBa := h6.up.mono (T := fp ++ fq) (fun i _ hm => by simp [hm]); clear h6) | (go_at_call 17; refine ((HP5d.out.after1 H6.out).push (Nat.le_trans HP5d.out.1.updW.size hBa.size) ((mx : Int), nm) hsm).mono ?_; rintro e w7 ⟨he, h7⟩; rw [HX.out] at he h7; subst he; have H7 := Lib.hid h7; have hBb := h7.up.mono (T := fp ++ fq) (fun i _ hm => by simp [hm]); clear h7))
            go_wp2
            obtain ⟨fp7, fq7, hP7⟩ := HP5d.out.both (L' := L) H6.out (Upd.refl _ _) H7.out
            exact ⟨⟨i + 1, last, L, fp7, fq7, by congr 1, rfl, by omega, by omega, hP7⟩, by first | (simp [intOf]; done) | (simp [intOf]; omega)⟩
          | false =>
            have HX := Lib.hid hx
            have HTK : Hid (takeS last L mx nm = true) := by unfold Hid takeS; rw [hx]; simp [HLM.out]
            have HLI : Hid ((insI ((mx : Int), nm) L).length ≤ i + 1) := by unfold Hid; rw [(insI_perm _ L).length_eq, List.length_cons]; omega
            clear hx
            go_wp2_with fail
            have HP5d := Lib.hid (HP5.out.upd (Upd.refl [] w5).drew)
            go_region_held3 (fun w2 => Upd (fp ++ fq) w5 w2 ∧ ∀ (b o : Nat), b < w5.heap.size → b ∉ (fp ++ fq) → w2.cell? ⟨b, o, none⟩ = w5.cell? ⟨b, o, none⟩)
              (first | exact Held.init _ _ | exact Held.step (by assumption) hBb | exact Held.step (by assumption) hBa)
              (first | (go_at_call 16; refine (HP5d.out.1.push mx HMX.out nm hsm HLM.out HNN.out).mono ?_; rintro e w6 ⟨rfl, h6⟩; rw [HTK.out] at h6 ⊢; have H6 := Lib.hid h6; have hBa := h6.up.mono (T := fp ++ fq) (fun i _ hm => by simp [hm]); clear h6) | (go_at_call 17; refine ((HP5d.out.after1 H6.out).push (Nat.le_trans HP5d.out.1.updW.size hBa.size) ((mx : Int), nm) hsm).mono ?_; rintro e w7 ⟨he, h7⟩; rw [HX.out] at he h7; subst he; have H7 := Lib.hid h7; have hBb := h7.up.mono (T := fp ++ fq) (fun i _ hm => by simp [hm]); clear h7))
            go_wp2
            obtain ⟨fp7, fq7, hP7⟩ := HP5d.out.both (L' := (insI ((mx : Int), nm) L)) H6.out (Upd.refl _ _) H7.out
            exact ⟨⟨i + 1, last, (insI ((mx : Int), nm) L), fp7, fq7, by congr 1, rfl, by omega, by (exact HLI.out), hP7⟩, by first | (simp [intOf]; done) | (simp [intOf]; omega)⟩
        · skip
          cases hx : hasI L nm with
          | true =>
            have HX := Lib.hid hx
            have HTK : Hid (takeS last L mx nm = false) := by unfold Hid takeS; rw [hx]; simp
            clear hx
            go_wp2_with fail
            have HP5d := Lib.hid (HP5.out.upd (Upd.refl [] w5).drew)
            go_region_held3 (fun w2 => Upd (fp ++ fq) w5 w2 ∧ ∀ (b o : Nat), b < w5.heap.size → b ∉ (fp ++ fq) → w2.cell? ⟨b, o, none⟩ = w5.cell? ⟨b, o, none⟩)
              (first | exact Held.init _ _ | exact Held.step (by assumption) hBb | exact Held.step (by assumption) hBa)
              (first | (go_at_call 16; refine (HP5d.out.1.push mx HMX.out nm hsm HLM.out HNN.out).mono ?_; rintro e w6 ⟨rfl, h6⟩; rw [HTK.out] at h6 ⊢; have H6 := Lib.hid h6; have hBa := h6.up.mono (T := fp ++ fq) (fun i _ hm => by simp [hm]); clear h6) | (go_at_call 17; refine ((HP5d.out.after1 H6.out).push (Nat.le_trans HP5d.out.1.updW.size hBa.size) ((mx : Int), nm) hsm).mono ?_; rintro e w7 ⟨he, h7⟩; rw [HX.out] at he h7; subst he; have H7 := Lib.hid h7; have hBb := h7.up.mono (T := fp ++ fq) (fun i _ hm => by simp [hm]); clear h7))
            go_wp2
            obtain ⟨fp7, fq7, hP7⟩ := HP5d.out.both (L' := L) H6.out (Upd.refl _ _) H7.out
            exact ⟨⟨i + 1, last, L, fp7, fq7, by congr 1, rfl, by omega, by omega, hP7⟩, by first | (simp [intOf]; done) | (simp [intOf]; omega)⟩
          | false =>
            have HX := Lib.hid hx
            have HTK : Hid (takeS last L mx nm = true) := by unfold Hid takeS; rw [hx]; simp [HLM.out]
            have HLI : Hid ((insI ((mx : Int), nm) L).length ≤ i + 1) := by unfold Hid; rw [(insI_perm _ L).length_eq, List.length_cons]; omega
            clear hx
            go_wp2_with fail
            have HP5d := Lib.hid (HP5.out.upd (Upd.refl [] w5).drew)
            go_region_held3 (fun w2 => Upd (fp ++ fq) w5 w2 ∧ ∀ (b o : Nat), b < w5.heap.size → b ∉ (fp ++ fq) → w2.cell? ⟨b, o, none⟩ = w5.cell? ⟨b, o, none⟩)
              (first | exact Held.init _ _ | exact Held.step (by assumption) hBb | exact Held.step (by assumption) hBa)
              (first | (go_at_call 16; refine (HP5d.out.1.push mx HMX.out nm hsm HLM.out HNN.out).mono ?_; rintro e w6 ⟨rfl, h6⟩; rw [HTK.out] at h6 ⊢; have H6 := Lib.hid h6; have hBa := h6.up.mono (T := fp ++ fq) (fun i _ hm => by simp [hm]); clear h6) | (go_at_call 17; refine ((HP5d.out.after1 H6.out).push (Nat.le_trans HP5d.out.1.updW.size hBa.size) ((mx : Int), nm) hsm).mono ?_; rintro e w7 ⟨he, h7⟩; rw [HX.out] at he h7; subst he; have H7 := Lib.hid h7; have hBb := h7.up.mono (T := fp ++ fq) (fun i _ hm => by simp [hm]); clear h7))
            go_wp2
            obtain ⟨fp7, fq7, hP7⟩ := HP5d.out.both (L' := (insI ((mx : Int), nm) L)) H6.out (Upd.refl _ _) H7.out
            exact ⟨⟨i + 1, last, (insI ((mx : Int), nm) L), fp7, fq7, by congr 1, rfl, by omega, by (exact HLI.out), hP7⟩, by first | (simp [intOf]; done) | (simp [intOf]; omega)⟩
        · cases L with
          | nil =>
            go_wp2_with fail
            refine HP5.out.1.pop.mono ?_
            rintro e w6 ⟨rfl, h6⟩
            have H6 := Lib.hid h6
            clear h6
            unfold firstV itV
            go_wp2_with fail
            have HI6 := Lib.hid ((HP5.out.after1 H6.out).upd ((Upd.refl [] w6).alloc (.cells #[.int .u64 (zIt).1, .int .i64 (zIt).2] 37)) (by simp))
            have hn6 : w6.heap.size ∉ fq := fun e => by have := HP5.out.2.1.lt _ e; have := H6.out.up.size; omega
            have hW6 : W.heap.size ≤ (w6.alloc (.cells #[.int .u64 (zIt).1, .int .i64 (zIt).2] 37)).heap.size := by have := HP5.out.1.updW.size; have := H6.out.up.size; simp; omega
            refine (HI6.out.pop hW6).mono ?_
            rintro e w7 ⟨rfl, h7⟩
            unfold firstV itV
            have H7 := Lib.hid h7
            have hBx := (Blk.new w6 37 [.int .u64 (zIt).1, .int .i64 (zIt).2]).upd h7.up hn6
            have a0 := hBx.cell (j := 0) rfl
            have a1 := hBx.cell (j := 1) rfl
            have lax := hBx.lt
            clear h7 hBx
            obtain ⟨fp8, fq8, hP8⟩ := HP5.out.both H6.out ((Upd.refl _ _).alloc _) H7.out
            have HP8 : Hid (HQ W sb b last wd [] fp8 fq8 w7) := hP8
            clear hP8
            go_wp2
            exact ⟨⟨i + 1, last, [], fp8, fq8, by congr 1, rfl, by omega, by simp, HP8.out.upd ((Upd.refl _ _).alloc _)⟩, by first | (simp [intOf]; done) | (simp [intOf]; omega)⟩
          | cons x r =>
            have hkx := (HP5.out.1.keys x (by simp)).1
            have hlr : r.length ≤ i := by rw [List.length_cons] at hLi; omega
            have HKX := Lib.hid hkx
            clear hkx
            go_wp2_with fail
            refine HP5.out.1.pop.mono ?_
            rintro e w6 ⟨rfl, h6⟩
            have H6 := Lib.hid h6
            clear h6
            unfold firstV itV
            go_wp2_with fail
            have HI6 := Lib.hid ((HP5.out.after1 H6.out).upd ((Upd.refl [] w6).alloc (.cells #[.int .u64 (x).1, .int .i64 (x).2] 37)) (by simp))
            have hn6 : w6.heap.size ∉ fq := fun e => by have := HP5.out.2.1.lt _ e; have := H6.out.up.size; omega
            have hW6 : W.heap.size ≤ (w6.alloc (.cells #[.int .u64 (x).1, .int .i64 (x).2] 37)).heap.size := by have := HP5.out.1.updW.size; have := H6.out.up.size; simp; omega
            refine (HI6.out.pop hW6).mono ?_
            rintro e w7 ⟨rfl, h7⟩
            unfold firstV itV
            have H7 := Lib.hid h7
            have hBx := (Blk.new w6 37 [.int .u64 (x).1, .int .i64 (x).2]).upd h7.up hn6
            have a0 := hBx.cell (j := 0) rfl
            have a1 := hBx.cell (j := 1) rfl
            have lax := hBx.lt
            clear h7 hBx
            obtain ⟨fp8, fq8, hP8⟩ := HP5.out.both H6.out ((Upd.refl _ _).alloc _) H7.out
            have HP8 : Hid (HQ W sb b (kn x) wd r fp8 fq8 w7) := hP8
            clear hP8
            go_wp2
            exact ⟨⟨i + 1, kn x, r, fp8, fq8, by congr 1, by rw [← HKX.out], by omega, by omega, HP8.out.upd ((Upd.refl _ _).alloc _)⟩, by first | (simp [intOf]; done) | (simp [intOf]; omega)⟩
        · obtain ⟨y, ok, hy⟩ := dropVit L nm
          have HY := Lib.hid hy
          clear hy
          go_wp2_with fail
          refine (HP5.out.1.drop nm).mono ?_
          rintro e w6 ⟨rfl, h6⟩
          rw [HY.out]
          unfold itV
          have x6 := (h6.up.cell lg5 n1 1).trans x1
          have lgw := Nat.lt_of_lt_of_le lg5 h6.up.size
          have H6 := Lib.hid h6
          clear h6
          go_wp2_with fail
          have HI6 : Hid (IG W b L fq (w6.alloc (.cells #[.int .u64 y.1, .int .i64 y.2] 37))) := (HP5.out.after1 H6.out).upd ((Upd.refl [] w6).alloc _) (by simp)
          have hn6 : w6.heap.size ∉ fq := fun e => by have := HP5.out.2.1.lt _ e; have := H6.out.up.size; omega
          have hW6 : W.heap.size ≤ (w6.alloc (.cells #[.int .u64 y.1, .int .i64 y.2] 37)).heap.size := by have := HP5.out.1.updW.size; have := H6.out.up.size; simp; omega
          refine (HI6.out.drop hW6 nm).mono ?_
          rintro e w7 ⟨rfl, h7⟩
          rw [HY.out]
          unfold itV
          have H7 := Lib.hid h7
          have hBx := (Blk.new w6 37 [.int .u64 y.1, .int .i64 y.2]).upd h7.up hn6
          have a0 := hBx.cell (j := 0) rfl
          have a1 := hBx.cell (j := 1) rfl
          have lax := hBx.lt
          clear h7 hBx
          obtain ⟨fp8, fq8, hP8⟩ := HP5.out.both H6.out ((Upd.refl _ _).alloc _) H7.out
          have HP8 := Lib.hid hP8
          clear hP8
          go_wp2
          exact ⟨⟨i + 1, last, dropI L nm, fp8, fq8, by congr 1, rfl, by omega, by have := dropI_len5 L nm; omega, HP8.out.upd ((Upd.refl _ _).alloc _)⟩, by first | (simp [intOf]; done) | (simp [intOf]; omega)⟩
    · have t1 : Hid (decide (i < m) = true ∧ decide ((i : Int) < 80) = false ∨ decide (i < m) = false) := by
        have := HC.out
        unfold Hid
        by_cases h : i < m
        · left; exact ⟨by simp; omega, by simp; omega⟩
        · right; simp; omega
      obtain ⟨ao6, cap6, q0, hR, lb6, -⟩ := HP.out.2.1.cell
      obtain ⟨n, hn⟩ : ∃ n, L.length = n := ⟨_, rfl⟩
      rw [hn] at q0 hR
      have HN := Lib.hid hn
      have HR := Lib.hid hR
      have hn80 : n ≤ 80 := by omega
      clear hn hR hLi
      rcases t1.out with ⟨t2, t3⟩ | t2
      all_goals
        clear t1
        go_wp2_with fail
        go_region_held3 (fun w2 => Upd [] wr w2 ∧ ∀ (b o : Nat), b < wr.heap.size → b ∉ ([] : List Nat) → w2.cell? ⟨b, o, none⟩ = wr.cell? ⟨b, o, none⟩)
          (first | exact Held.init _ _ | assumption | exact Held.step (by assumption) hBb | exact Held.step (by assumption) hBa)
          (first | (go_at_call 22; refine ((HP.out.upd (Upd.refl [] wr).drew).1.all (by rw [HN.out]; omega)).mono ?_; rintro e w6 ⟨aoa, capa, rfl, hRa, -, hBa⟩; rw [HN.out] at hRa ⊢; have HRa := Lib.hid hRa; clear hRa) | (go_at_call 10; refine (plain_any aoa ao6 n capa cap6 L _ HN.out (by omega) HRa.out (HR.out.upd ((Upd.refl [] wr).drew.trans hBa) (by simp))).mono ?_; rintro e w7 ⟨rfl, hBb⟩))
        go_wp2
        go_ret
        exact ⟨rfl, ((HP.out.1.updW.trans ((Upd.refl [] wr).drew.trans hBa)).trans hBb)⟩
end Go.Proofs.YtkepeolbpgnlbaaGreatDoor
