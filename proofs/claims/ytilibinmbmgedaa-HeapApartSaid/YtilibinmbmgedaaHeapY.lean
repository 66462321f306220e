/-
  The walk of HeapDrop. No condition.
-/
import Derived.Test.YtilibinmbmgedaaHeapX
namespace Go.Proofs.Ytilibinmbmgedaa
open Go.RowKit

theorem drop_drop (L : List It) (id : Int) : dropI (dropI L id) id = dropI L id := by unfold dropI; rw [List.filter_filter]; simp
theorem has_drop (L : List It) (id : Int) : hasI (dropI L id) id = false := by
  rw [hasI_no]; intro x hx e; unfold dropI at hx; rw [List.mem_filter] at hx; simp [e] at hx
theorem dropV_drop (L : List It) (id : Int) : dropV (dropI L id) id = itV zIt false := by unfold dropV; rw [findI_none.2 (has_drop L id)]
theorem dropV_mem {L : List It} (h : NdI L) {x : It} (hx : x ∈ L) : dropV L x.2 = itV x true := by unfold dropV; rw [findI_of h hx]

/-- A heap and a list, each with its own items. -/
def PR2 (W : World) (hb b : Nat) (L1 L2 : List It) (fp fq : List Nat) (w : World) : Prop := HG W hb L1 fp w ∧ IG W b L2 fq w ∧ ∀ c ∈ fp, c ∉ fq
theorem PR2.upd {W : World} {hb b : Nat} {L1 L2 : List It} {fp fq : List Nat} {w w' : World} (h : PR2 W hb b L1 L2 fp fq w) (hu : Upd [] w w') : PR2 W hb b L1 L2 fp fq w' := ⟨h.1.upd hu, h.2.1.upd hu (by simp), h.2.2⟩
theorem PR2.stepH {W : World} {hb b : Nat} {L1 L1' L2 : List It} {fp fq : List Nat} {w w' : World} (h : PR2 W hb b L1 L2 fp fq w) (k : HGTo W hb L1' fp w w') :
    ∃ fp', PR2 W hb b L1' L2 fp' fq w' ∧ (∀ c ∈ fp', c ∈ fp ∨ w.heap.size ≤ c) ∧ Upd fp w w' := by
  obtain ⟨fp', k1, k2, k3⟩ := k
  refine ⟨fp', ⟨k1, h.2.1.upd k3 (fun c hc e => h.2.2 c e hc), fun c hc e => ?_⟩, k2, k3⟩
  rcases k2 c hc with h' | h'
  · exact h.2.2 c h' e
  · have := h.2.1.lt c e; omega
theorem PR2.stepI {W : World} {hb b : Nat} {L1 L2 L2' : List It} {fp fq : List Nat} {w w' : World} (h : PR2 W hb b L1 L2 fp fq w) (k : IGTo W b L2' fq w w') :
    ∃ fq', PR2 W hb b L1 L2' fp fq' w' ∧ (∀ c ∈ fq', c ∈ fq ∨ w.heap.size ≤ c) ∧ Upd fq w w' := by
  obtain ⟨fq', k1, k2, k3⟩ := k
  have h3 : ∀ c ∈ fq, W.heap.size ≤ c := by obtain ⟨_, _, _, _, h3⟩ := h.2.1; exact h3
  refine ⟨fq', ⟨h.1.updS k3 (fun c hc e => h.2.2 c hc e) h3, k1, fun c hc e => ?_⟩, k2, k3⟩
  rcases k2 c e with h' | h'
  · exact h.2.2 c hc h'
  · have := h.1.1.lt c hc; omega

theorem PR.nd {W w : World} {hb b : Nat} {L : List It} {fp fq : List Nat} (h : PR W hb b L fp fq w) : NdI L := h.1.1.nd

set_option maxRecDepth 100000 in
set_option maxHeartbeats 64000000 in
theorem hdrop_walk (v : Value) (m : Nat) (D : Nat → Nat → Int) (at0 : Int) (W : World) (hv : RowsAt W [.u64, .i64] v m D) (_ : (Lit.int .i64 at0).wf = true) :
    Calls Try.prog 5 #[v, .int .i64 at0] W (RetUpd [] W (.bool true)) := by
  obtain ⟨ao, cap, rfl, hmm, hD⟩ := agg_cells hv
  unfold maxLen at hmm
  have HD := Lib.hid hD
  clear hD hv
  obtain ⟨c, hc⟩ : ∃ c : Nat, min m 60 = c := ⟨_, rfl⟩
  have hcm : c ≤ m := by omega
  have hc60 : c ≤ 60 := by omega
  have HC : Hid (min m 60 = c) := hc
  clear hc
  go_enter Try.func5, Try.ntmps5
  go_wp2_with fail
  refine (HG.new W).mono ?_
  rintro e1 w1 ⟨hb, fp0, rfl, hG, -⟩
  have HG0 := Lib.hid hG
  clear hG
  go_wp2_with fail
  refine (awake4_any _).mono ?_
  rintro e w2 ⟨rfl, hU⟩
  have HP2 : Hid (PR W hb w1.heap.size [] fp0 [w1.heap.size] w2) := (PR.start HG0.out).upd hU
  clear hU HG0
  obtain ⟨b, hb1⟩ : ∃ b, w1.heap.size = b := ⟨_, rfl⟩
  rw [hb1] at HP2 ⊢
  clear hb1
  go_wp2
  go_loopw [7] (fun iv wr => PlaysAt W hb b c iv wr) (fun iv _ => c - (intOf iv).toNat)
  case atStart => exact ⟨0, [], fp0, _, rfl, by omega, by simp, HP2.out⟩
  case round =>
    clear HP2
    obtain ⟨i, L, fp, fq, rfl, hi, hLi, hP⟩ := hrel
    have HP := Lib.hid hP
    clear hP
    by_cases hlt : i < c
    · rcases HD.out with h0 | ⟨bd, off, rfl, hb1, hcc⟩
      · omega
      obtain ⟨c0, c1⟩ := hcc i (by omega)
      have hbw : bd < wr.heap.size := Nat.lt_of_lt_of_le hb1 HP.out.1.2.2.size
      have hnp : bd ∉ fp := fun e => by have := HP.out.1.2.1 bd e; omega
      rw [← HP.out.1.2.2.cell hb1 (by simp)] at c0 c1
      have him : i < m := by omega
      have t1 : decide (i < m) = true := by simp; omega
      have t2 : decide ((i : Int) < 60) = true := by simp; omega
      have b1 : (i : Int) < (m : Int) := by omega
      obtain ⟨x, hx⟩ : ∃ x : It, x = (D i 0, D i 1) := ⟨_, rfl⟩
      have hx0 : D i 0 = x.1 := by rw [hx]
      have hx1 : D i 1 = x.2 := by rw [hx]
      rw [hx0] at c0
      rw [hx1] at c1
      have HC0 := Lib.hid c0
      have HC1 := Lib.hid c1
      clear hcc hb1 hx hx0 hx1
      go_wp2_with fail
      refine (HP.out.1.push x (by omega)).mono ?_
      rintro e w4 ⟨rfl, h4⟩
      have d0 := (h4.up.cell hbw hnp (off + i * 2)).trans c0
      have d1 := (h4.up.cell hbw hnp (off + i * 2 + 1)).trans c1
      have hs4 := h4.up.size
      have lb4 := Nat.lt_of_lt_of_le hbw hs4
      have H4 := Lib.hid h4
      clear h4 c0 c1
      go_wp2_with fail
      refine ((HP.out.after H4.out).push (Nat.le_trans HP.out.1.2.2.size hs4) x (by omega)).mono ?_
      rintro e w5 ⟨rfl, h5⟩
      have HDT : Hid (DeedTo W hb b L fp fq wr (.returned (.bool true)) w5) := pair_done (Upd.refl [] _) HP.out HP.out.1.1.lt HP.out.2.1.lt H4.out (Upd.refl _ _) h5 (Upd.refl _ _) (len_push_le4 L x)
      clear h5
      go_wp2
      obtain ⟨-, L', fp', fq', hp', -, -, -, hl'⟩ := HDT.out
      exact ⟨⟨i + 1, L', fp', fq', by congr 1, by omega, by omega, hp'⟩, by first | (simp [intOf]; done) | (simp [intOf]; omega)⟩
    · have t1 : Hid (decide (i < m) = true ∧ decide ((i : Int) < 60) = false ∨ decide (i < m) = false) := by
        have := HC.out
        unfold Hid
        by_cases h : i < m
        · left; exact ⟨by simp; omega, by simp; omega⟩
        · right; simp; omega
      obtain ⟨ao6, cap6, q0, hR, lb6, -⟩ := HP.out.2.1.cell
      have hL60 : L.length ≤ 60 := by omega
      by_cases hL0 : L = []
      · subst hL0
        have q0' : wr.cell? ⟨b, 0, none⟩ = some (.slice ao6 0 cap6) := q0
        clear q0 hR
        rcases t1.out with ⟨t2, t3⟩ | t2
        all_goals
          clear t1
          go_wp2_with fail
          refine (HP.out.1.drop at0).mono ?_
          rintro e w6 ⟨rfl, h6⟩
          have hdv : dropV [] at0 = itV zIt false := rfl
          rw [hdv]
          unfold itV
          have HU6 : Hid (Upd [] W w6) := by obtain ⟨_, h, _⟩ := h6; exact h.2.2
          clear h6 hdv
          go_wp2
          go_ret
          exact ⟨rfl, HU6.out.alloc _⟩
      · have hpos : 0 < L.length := List.length_pos_iff.2 hL0
        obtain ⟨n, hn⟩ : ∃ n, L.length = n := ⟨_, rfl⟩
        rw [hn] at q0 hR hL60 hpos
        have HN := Lib.hid hn
        have HR := Lib.hid hR
        have u1 : ((n : Int) == 0) = false := by simp; omega
        have hmb := modI_bd at0 n (by omega) (by omega)
        obtain ⟨k, hk⟩ : ∃ k : Nat, modI at0 n = k := ⟨(modI at0 n).toNat, by omega⟩
        rw [hk] at hmb
        have HK := Lib.hid hk
        have hkn : k < n := by omega
        have hkn2 : (k : Int) < (n : Int) := by omega
        obtain ⟨g6, hg6, lg6, x0, x1⟩ := hR.items hn hkn
        subst hg6
        obtain ⟨y, hy⟩ : ∃ y, atI L k = y := ⟨_, rfl⟩
        rw [hy] at x0 x1
        have HY : Hid (y ∈ L) := by unfold Hid; rw [← hy, atI_get L k (by omega)]; exact List.getElem_mem _
        clear hn hR hL0 hk hmb hy hLi
        rcases t1.out with ⟨t2, t3⟩ | t2
        all_goals
          clear t1
          go_wp2_with fail
          go_cut [10] (fun s10 wx => ItemVar wr y s10 wx)
          case first =>
            go_region_held3 (fun w2 => Upd [] wr w2 ∧ ∀ (b o : Nat), b < wr.heap.size → b ∉ ([] : List Nat) → w2.cell? ⟨b, o, none⟩ = wr.cell? ⟨b, o, none⟩)
              (first | exact Held.init _ _ | assumption | exact Held.new (by assumption) _ | exact Held.new (Held.init [] wr) _ | exact Held.far (Held.far (by assumption) (by first | omega | (simp; done) | (simp; omega)) _) (by first | omega | (simp; done) | (simp; omega)) _)
              (first | (go_at_call 14; refine (mod_any at0 n (by omega) (by omega) _).mono ?_; rintro e w2 ⟨rfl, rfl⟩; rw [HK.out]))
            all_goals
              go_wp2_with fail
              go_meet
              refine ⟨_, rfl, ?_, ?_, ?_, ?_, ‹Upd [] wr _ ∧ _›.1⟩
              · first | omega | (simp; done) | (simp; omega)
              · first | omega | (simp; done) | (simp; omega)
              · (simp; done)
              · (simp; done)
          case rest =>
            obtain ⟨g, rfl, hg1, hg2, hx0, hx1, hU4⟩ := hcut
            have HP4 : Hid (PR2 W hb b L L fp fq wc) := HP.out.upd hU4
            have hdv1 : Hid (dropV L y.2 = itV y true) := dropV_mem HP.out.nd HY.out
            have g1 : g ∉ fp := fun e => by have := HP.out.1.1.lt g e; omega
            have g2 : g ∉ fq := fun e => by have := HP.out.2.1.lt g e; omega
            clear hU4 x0 x1 q0
            go_wp2_with fail
            refine (HP4.out.1.drop y.2).mono ?_
            rintro e w6 ⟨rfl, h6⟩
            rw [hdv1.out]
            unfold itV
            obtain ⟨fp6, h6', hf6, hU6⟩ := HP4.out.stepH h6
            have HP6 := Lib.hid h6'
            have g61 : g ∉ fp6 := fun e => by rcases hf6 g e with h | h; exact g1 h; omega
            have d0 := (hU6.cell hg2 g1 0).trans hx0
            have d1 := (hU6.cell hg2 g1 1).trans hx1
            have lg6 := Nat.lt_of_lt_of_le hg2 hU6.size
            have a61 : w6.heap.size ∉ fp6 := fun e => by have := h6'.1.1.lt _ e; omega
            have a62 : w6.heap.size ∉ fq := fun e => by have := h6'.2.1.lt _ e; omega
            clear h6 h6' hf6 hU6 hx0 hx1
            go_wp2_with fail
            have HP6a : Hid (PR2 W hb b (dropI L y.2) L fp6 fq (w6.alloc (.cells #[.int .u64 y.1, .int .i64 y.2] 37))) := HP6.out.upd ((Upd.refl [] _).alloc _)
            refine (HP6a.out.1.drop y.2).mono ?_
            rintro e w7 ⟨rfl, h7⟩
            rw [dropV_drop]
            rw [drop_drop] at h7
            unfold itV
            obtain ⟨fp7, h7', hf7, hU7⟩ := HP6a.out.stepH h7
            have HP7 := Lib.hid h7'
            have hBx := (Blk.new w6 37 [.int .u64 y.1, .int .i64 y.2]).upd hU7 a61
            have la7 := hBx.lt
            have e0 := (hU7.cell (by simp; omega) g61 0).trans ((World.cell?_alloc_past _ _ _ (by simpa using lg6)).trans d0)
            have e1 := (hU7.cell (by simp; omega) g61 1).trans ((World.cell?_alloc_past _ _ _ (by simpa using lg6)).trans d1)
            have HBx := Lib.hid hBx
            have lg7 : g < w7.heap.size := by omega
            clear h7 h7' hf7 hU7 hBx d0 d1
            go_wp2_with fail
            have HP7a : Hid (PR2 W hb b (dropI L y.2) L fp7 fq (w7.alloc (.cells #[.int .u64 zIt.1, .int .i64 zIt.2] 37))) := HP7.out.upd ((Upd.refl [] _).alloc _)
            refine (HP7a.out.2.1.drop HP7a.out.1.2.2.size y.2).mono ?_
            rintro e w8 ⟨rfl, h8⟩
            rw [hdv1.out]
            unfold itV
            obtain ⟨fq8, h8', hf8, hU8⟩ := HP7a.out.stepI h8
            have HP8 := Lib.hid h8'
            have hB8 := (HBx.out.upd ((Upd.refl [] _).alloc (.cells #[.int .u64 zIt.1, .int .i64 zIt.2] 37)) (by simp)).upd hU8 a62
            have m0 := hB8.cell (j := 0) rfl
            have m1 := hB8.cell (j := 1) rfl
            have la8 := hB8.lt
            have n0 := (hU8.cell (by simp; omega) g2 0).trans ((World.cell?_alloc_past _ _ _ (by simpa using lg7)).trans e0)
            have n1 := (hU8.cell (by simp; omega) g2 1).trans ((World.cell?_alloc_past _ _ _ (by simpa using lg7)).trans e1)
            have lg8 : g < w8.heap.size := by have := hU8.size; simp at this; omega
            obtain ⟨ao8, cap8, p0, hR8, lb8, -⟩ := h8'.2.1.cell
            have hns : (dropI L y.2).length ≤ 1000 := by have := dropI_len L y.2; have := HN.out; omega
            obtain ⟨n8, hn8⟩ : ∃ n, (dropI L y.2).length = n := ⟨_, rfl⟩
            rw [hn8] at p0 hR8 hns
            have HN8 := Lib.hid hn8
            have HR8 := Lib.hid hR8
            have hhd : Hid (hasI (dropI L y.2) y.2 = false) := has_drop L y.2
            clear h8 h8' hf8 hU8 hB8 e0 e1 hR8 hn8
            go_wp2_with fail
            go_region_held3 (fun w2 => Upd [] w8 w2 ∧ ∀ (b o : Nat), b < w8.heap.size → b ∉ ([] : List Nat) → w2.cell? ⟨b, o, none⟩ = w8.cell? ⟨b, o, none⟩)
              (first | exact Held.init _ _ | assumption | exact Held.step (by assumption) hBc | exact Held.step (by assumption) hBb | exact Held.step (by assumption) hBa)
              (first | (go_at_call 19; refine ((HP8.out.upd (Upd.refl [] w8).drew).1.has y.2).mono ?_; rintro e wa ⟨rfl, -, hBa⟩; rw [hhd.out]; have HUa : Hid (Upd [] w8 wa) := (Upd.refl [] w8).drew.trans hBa) | (go_at_call 12; refine (heap_all hb (dropI L y.2) fp7 _ (HP8.out.upd HUa.out).1.1 (by have := HN8.out; omega)).mono ?_; rintro e wb ⟨aob, capb, rfl, hRb, -, hBb⟩; rw [HN8.out] at hRb ⊢; have HRb := Lib.hid hRb; have HUb : Hid (Upd [] w8 wb) := HUa.out.trans hBb; clear hRb) | (go_at_call 11; refine (plain_any aob ao8 n8 capb cap8 (dropI L y.2) _ HN8.out (by omega) HRb.out (HR8.out.upd HUb.out (by simp))).mono ?_; rintro e w9 ⟨rfl, hBc⟩))
            all_goals
              go_wp2
              go_ret
              exact ⟨rfl, (HP8.out.1.2.2.trans HUb.out).trans hBc⟩
end Go.Proofs.Ytilibinmbmgedaa
