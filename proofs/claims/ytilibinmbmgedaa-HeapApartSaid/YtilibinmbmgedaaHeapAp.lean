/-
  The walk of HeapApart. No condition.
-/
import Derived.Test.YtilibinmbmgedaaHeapZ
namespace Go.Proofs.Ytilibinmbmgedaa
open Go.RowKit

/-- A heap, a list that holds the same, and a second heap. -/
def AP (W : World) (hb b gb : Nat) (L Lg : List It) (fp fq fg : List Nat) (w : World) : Prop := PR W hb b L fp fq w ∧ HG W gb Lg fg w ∧ ∀ c ∈ fg, c ∉ fp ∧ c ∉ fq
theorem PR.newq {W : World} {hb b : Nat} {L : List It} {fp fq : List Nat} {w : World} (h : PR W hb b L fp fq w) : ∀ c ∈ fq, W.heap.size ≤ c := by obtain ⟨_, _, _, _, h3⟩ := h.2.1; exact h3
theorem AP.updW {W : World} {hb b gb : Nat} {L Lg : List It} {fp fq fg : List Nat} {w : World} (h : AP W hb b gb L Lg fp fq fg w) : Upd [] W w := h.1.1.2.2
theorem AP.updS {W : World} {hb b gb : Nat} {L Lg : List It} {fp fq fg S : List Nat} {w w' : World} (h : AP W hb b gb L Lg fp fq fg w) (hu : Upd S w w') (hS : ∀ c ∈ S, w.heap.size ≤ c) : AP W hb b gb L Lg fp fq fg w' := by
  have hW := h.updW.size
  have hSW : ∀ c ∈ S, W.heap.size ≤ c := fun c hc => by have := hS c hc; omega
  exact ⟨h.1.updS hu (fun c hc e => by have := h.1.1.1.lt c hc; have := hS c e; omega) (fun c hc e => by have := h.1.2.1.lt c hc; have := hS c e; omega) hSW, h.2.1.updS hu (fun c hc e => by have := h.2.1.1.lt c hc; have := hS c e; omega) hSW, h.2.2⟩
theorem AP.upd {W : World} {hb b gb : Nat} {L Lg : List It} {fp fq fg : List Nat} {w w' : World} (h : AP W hb b gb L Lg fp fq fg w) (hu : Upd [] w w') : AP W hb b gb L Lg fp fq fg w' := h.updS hu (by simp)
theorem AP.deed {W : World} {hb b gb : Nat} {L Lg : List It} {fp fq fg : List Nat} {w w' : World} {e : Ending} (h : AP W hb b gb L Lg fp fq fg w) (k : DeedTo W hb b L fp fq w e w') :
    ∃ L' fp' fq', AP W hb b gb L' Lg fp' fq' fg w' ∧ L'.length ≤ L.length + 1 := by
  obtain ⟨_, L', fp', fq', k1, k2, k3, k4, k5⟩ := k
  refine ⟨L', fp', fq', ⟨k1, h.2.1.updS k4 (fun c hc e => ?_) (fun c hc => ?_), fun c hc => ⟨fun e => ?_, fun e => ?_⟩⟩, k5⟩
  · rcases List.mem_append.1 e with e | e
    · exact (h.2.2 c hc).1 e
    · exact (h.2.2 c hc).2 e
  · rcases List.mem_append.1 hc with e | e
    · exact h.1.1.2.1 c e
    · exact h.1.newq c e
  · rcases k2 c e with e | e
    · exact (h.2.2 c hc).1 e
    · have := h.2.1.1.lt c hc; omega
  · rcases k3 c e with e | e
    · exact (h.2.2 c hc).2 e
    · have := h.2.1.1.lt c hc; omega
/-- The second heap beside a list that has just been made. -/
theorem AP.pair {W : World} {hb b gb : Nat} {L Lg : List It} {fp fq fg : List Nat} {w : World} (h : AP W hb b gb L Lg fp fq fg w) : PR2 W gb w.heap.size Lg [] fg [w.heap.size] (w.alloc (.cells #[.slice none 0 0] 28)) :=
  ⟨h.2.1.upd ((Upd.refl [] w).alloc _), IG.new (Blk.new w 28 [.slice none 0 0]) h.updW.size, fun c hc e => by have := h.2.1.1.lt c hc; simp at e; omega⟩
theorem AP.free {W : World} {hb b gb : Nat} {L Lg : List It} {fp fq fg : List Nat} {w w' : World} {e : Ending} (h : AP W hb b gb L Lg fp fq fg w) (k : DeedFree W gb w.heap.size Lg fg [w.heap.size] (w.alloc (.cells #[.slice none 0 0] 28)) e w') :
    ∃ Lg' fg', AP W hb b gb L Lg' fp fq fg' w' ∧ Lg'.length ≤ Lg.length + 1 := by
  obtain ⟨_, _, L1, L2, fp', fq', k1, k2, k3, k4, k5⟩ := k
  have hs : (w.alloc (.cells #[.slice none 0 0] 28)).heap.size = w.heap.size + 1 := by simp
  have hW := h.updW.size
  refine ⟨L1, fp', ⟨(h.1.upd ((Upd.refl [] w).alloc _)).updS k4 (fun c hc e => ?_) (fun c hc e => ?_) (fun c hc => ?_), k1.1, fun c hc => ⟨fun e => ?_, fun e => ?_⟩⟩, k5⟩
  · have := h.1.1.1.lt c hc
    simp at e
    rcases e with e | e
    · exact (h.2.2 c e).1 hc
    · omega
  · have := h.1.2.1.lt c hc
    simp at e
    rcases e with e | e
    · exact (h.2.2 c e).2 hc
    · omega
  · simp at hc
    rcases hc with e | e
    · exact h.2.1.2.1 c e
    · omega
  · have := h.1.1.1.lt c e
    rcases k2 c hc with h' | h'
    · exact (h.2.2 c h').1 e
    · omega
  · have := h.1.2.1.lt c e
    rcases k2 c hc with h' | h'
    · exact (h.2.2 c h').2 e
    · omega
theorem AP.start {W w1 w2 : World} {hb gb : Nat} {fp fg2 : List Nat} (h1 : HG W hb [] fp w1) (k : HeapIs w2 gb [] fg2) (hk : ∀ c ∈ fg2, w1.heap.size ≤ c) (hu : Upd [] w1 w2) : AP W hb w2.heap.size gb [] [] fp [w2.heap.size] fg2 (w2.alloc (.cells #[.slice none 0 0] 28)) := by
  have hW := h1.2.2.size
  have hG : HG W gb [] fg2 w2 := ⟨k, fun c hc => by have := hk c hc; omega, h1.2.2.trans hu⟩
  refine ⟨PR.start (h1.upd hu), hG.upd ((Upd.refl [] w2).alloc _), fun c hc => ⟨fun e => ?_, fun e => ?_⟩⟩
  · have := h1.1.lt c e; have := hk c hc; omega
  · have := k.lt c hc; simp at e; omega

def ApartAt (W : World) (hb b gb c : Nat) (iv : Value) (wr : World) : Prop := ∃ (i : Nat) (L Lg : List It) (fp fq fg : List Nat), iv = .int .i64 i ∧ i ≤ c ∧ L.length ≤ i ∧ Lg.length ≤ i ∧ AP W hb b gb L Lg fp fq fg wr


set_option maxRecDepth 100000 in
set_option maxHeartbeats 64000000 in
theorem hapart_walk (v1 : Value) (m1 : Nat) (D1 : Nat → Nat → Int) (v2 : Value) (m2 : Nat) (D2 : Nat → Nat → Int) (W : World) (hv1 : RowsAt W [.i64, .u64, .i64] v1 m1 D1) (hv2 : RowsAt W [.i64, .u64, .i64] v2 m2 D2) :
    Calls Try.prog 6 #[v1, v2] W (RetUpd [] W (.bool true)) := by
  obtain ⟨ao1, cap1, rfl, hm1, hD1⟩ := deed_cells hv1
  obtain ⟨ao2, cap2, rfl, hm2, hD2⟩ := deed_cells hv2
  unfold maxLen at hm1 hm2
  have HD1 := Lib.hid hD1
  have HD2 := Lib.hid hD2
  clear hD1 hv1 hD2 hv2
  obtain ⟨c, hc⟩ : ∃ c : Nat, min m1 40 = c := ⟨_, rfl⟩
  have hcm : c ≤ m1 := by omega
  have hc40 : c ≤ 40 := by omega
  have HC : Hid (min m1 40 = c) := hc
  clear hc
  go_enter Try.func6, Try.ntmps6
  go_wp2_with fail
  refine (HG.new W).mono ?_
  rintro e1 w1 ⟨hb, fp0, rfl, hG, -⟩
  have HG0 := Lib.hid hG
  clear hG
  go_wp2_with fail
  refine (heap_new w1).mono ?_
  rintro e2 w2 ⟨rfl, hI, hU2⟩
  obtain ⟨gb, hgb⟩ : ∃ gb, w1.heap.size + 1 = gb := ⟨_, rfl⟩
  rw [hgb] at hI ⊢
  have hgb2 : w1.heap.size ≤ gb := by omega
  have HA2 : Hid (AP W hb w2.heap.size gb [] [] fp0 [w2.heap.size] [gb, w1.heap.size] (w2.alloc (.cells #[.slice none 0 0] 28))) := AP.start HG0.out hI (fun c hc => by simp at hc; omega) hU2
  clear hgb hI hU2 hgb2
  go_wp2_with fail
  refine (awake4_any _).mono ?_
  rintro e w3 ⟨rfl, hU⟩
  have HA3 := Lib.hid (HA2.out.upd hU)
  clear hU HA2 HG0
  obtain ⟨b, hb1⟩ : ∃ b, w2.heap.size = b := ⟨_, rfl⟩
  rw [hb1] at HA3 ⊢
  clear hb1
  go_wp2
  go_loopw [8] (fun iv wr => ApartAt W hb b gb c iv wr) (fun iv _ => c - (intOf iv).toNat)
  case atStart => exact ⟨0, [], [], _, _, _, rfl, by omega, by simp, by simp, HA3.out⟩
  case round =>
    clear HA3
    obtain ⟨i, L, Lg, fp, fq, fg, rfl, hi, hLi, hLg, hA⟩ := hrel
    have HA := Lib.hid hA
    clear hA
    by_cases hlt : i < c
    · rcases HD1.out with h0 | ⟨bd, off, rfl, hb1, hcc⟩
      · omega
      obtain ⟨c0, c1, c2, hk0⟩ := hcc i (by omega)
      rw [← HA.out.updW.cell hb1 (by simp)] at c0 c1 c2
      have him : i < m1 := by omega
      have t1 : decide (i < m1) = true := by simp; omega
      have t2 : decide ((i : Int) < 40) = true := by simp; omega
      have b1 : (i : Int) < (m1 : Int) := by omega
      obtain ⟨k, hk⟩ : ∃ k, D1 i 0 = k := ⟨_, rfl⟩
      obtain ⟨key, hkey⟩ : ∃ k, D1 i 1 = k := ⟨_, rfl⟩
      obtain ⟨id, hid⟩ : ∃ k, D1 i 2 = k := ⟨_, rfl⟩
      rw [hk] at c0
      rw [hkey] at c1 hk0
      rw [hid] at c2
      clear hk hkey hid
      clear hcc hb1
      go_wp2_with fail
      refine (step4_any W hb b L fp fq k key id hk0 _ HA.out.1 (by omega)).mono ?_
      rintro e w6 hst
      obtain ⟨L6, fp6, fq6, hA6, hl6⟩ := HA.out.deed hst
      obtain ⟨rfl, -⟩ := hst
      have HA6 := Lib.hid hA6
      clear hA6 c0 c1 c2 hk0
      by_cases hm : i < m2
      · have u1 : decide (i < m2) = true := by simp [hm]
        have b2 : (i : Int) < (m2 : Int) := by omega
        rcases HD2.out with h0 | ⟨bd2, off2, rfl, hb2, hcc⟩
        · omega
        obtain ⟨c0, c1, c2, hk0⟩ := hcc i (by omega)
        rw [← HA6.out.updW.cell hb2 (by simp)] at c0 c1 c2
        have lb2 := Nat.lt_of_lt_of_le hb2 HA6.out.updW.size
        obtain ⟨k, hk⟩ : ∃ k, D2 i 0 = k := ⟨_, rfl⟩
        obtain ⟨key, hkey⟩ : ∃ k, D2 i 1 = k := ⟨_, rfl⟩
        obtain ⟨id, hid⟩ : ∃ k, D2 i 2 = k := ⟨_, rfl⟩
        rw [hk] at c0
        rw [hkey] at c1 hk0
        rw [hid] at c2
        clear hk hkey hid
        clear hcc hb2
        go_wp2_with fail
        refine (step4_free W gb w6.heap.size Lg fg [w6.heap.size] _ _ _ hk0 _ HA6.out.pair (by omega)).mono ?_
        rintro e w7 hst
        obtain ⟨Lg7, fg7, hA7, hl7⟩ := HA6.out.free hst
        obtain ⟨r7, rfl, -⟩ := hst
        have HA7 := Lib.hid hA7
        clear hA7 c0 c1 c2 hk0
        go_wp2_with fail
        refine (heap_all gb Lg7 fg7 _ HA7.out.2.1.1 (by omega)).mono ?_
        rintro e w8 ⟨ao8, cap8, rfl, hR, hF, hU⟩
        obtain ⟨n8, hn⟩ : ∃ n, Lg7.length = n := ⟨_, rfl⟩
        rw [hn] at hR ⊢
        have hn8 : n8 ≤ 1000 := by omega
        have HR8 := Lib.hid hR
        have HF8 := Lib.hid hF
        have HU8 := Lib.hid hU
        clear hn hR hF hU
        go_wp2_with fail
        refine (spoil_any ao8 n8 cap8 _ _ hn8 HR8.out).mono ?_
        rintro e w9 ⟨rfl, hU⟩
        have HA9 := Lib.hid (HA7.out.updS (HU8.out.nil.trans hU) HF8.out)
        clear hU
        go_wp2_with fail
        refine (heap_all hb L6 fp6 _ HA9.out.1.1.1 (by omega)).mono ?_
        rintro e w10 ⟨ao10, cap10, rfl, hR, hF, hU⟩
        obtain ⟨n10, hn⟩ : ∃ n, L6.length = n := ⟨_, rfl⟩
        rw [hn] at hR ⊢
        have hn10 : n10 ≤ 1000 := by omega
        have HR10 := Lib.hid hR
        have HF10 := Lib.hid hF
        have HU10 := Lib.hid hU
        clear hn hR hF hU
        go_wp2_with fail
        refine (spoil_any ao10 n10 cap10 _ _ hn10 HR10.out).mono ?_
        rintro e w11 ⟨rfl, hU⟩
        have HA11 := Lib.hid (HA9.out.updS (HU10.out.nil.trans hU) HF10.out)
        clear hU
        go_wp2
        exact ⟨⟨i + 1, L6, Lg7, fp6, fq6, fg7, by congr 1, by omega, by omega, by omega, HA11.out⟩, by first | (simp [intOf]; done) | (simp [intOf]; omega)⟩
      · have u1 : decide (i < m2) = false := by simp [hm]
        go_wp2_with fail
        refine (heap_all hb L6 fp6 _ HA6.out.1.1.1 (by omega)).mono ?_
        rintro e w10 ⟨ao10, cap10, rfl, hR, hF, hU⟩
        obtain ⟨n10, hn⟩ : ∃ n, L6.length = n := ⟨_, rfl⟩
        rw [hn] at hR ⊢
        have hn10 : n10 ≤ 1000 := by omega
        have HR10 := Lib.hid hR
        have HF10 := Lib.hid hF
        have HU10 := Lib.hid hU
        clear hn hR hF hU
        go_wp2_with fail
        refine (spoil_any ao10 n10 cap10 _ _ hn10 HR10.out).mono ?_
        rintro e w11 ⟨rfl, hU⟩
        have HA11 := Lib.hid (HA6.out.updS (HU10.out.nil.trans hU) HF10.out)
        clear hU
        go_wp2
        exact ⟨⟨i + 1, L6, Lg, fp6, fq6, fg, by congr 1, by omega, by omega, by omega, HA11.out⟩, by first | (simp [intOf]; done) | (simp [intOf]; omega)⟩
    · have t1 : Hid (decide (i < m1) = true ∧ decide ((i : Int) < 40) = false ∨ decide (i < m1) = false) := by
        have := HC.out
        unfold Hid
        by_cases h : i < m1
        · left; exact ⟨by simp; omega, by simp; omega⟩
        · right; simp; omega
      obtain ⟨ao6, cap6, q0, hR, lb6, -⟩ := HA.out.1.2.1.cell
      obtain ⟨n, hn⟩ : ∃ n, L.length = n := ⟨_, rfl⟩
      rw [hn] at q0 hR
      have HN := Lib.hid hn
      have HR := Lib.hid hR
      have hn80 : n ≤ 80 := by omega
      clear hn hR hLi
      rcases t1.out with ⟨t2, t3⟩ | t2
      all_goals
        clear t1
        go_wp2_with fail
        go_region_held3 (fun w2 => Upd [] wr w2 ∧ ∀ (b o : Nat), b < wr.heap.size → b ∉ ([] : List Nat) → w2.cell? ⟨b, o, none⟩ = wr.cell? ⟨b, o, none⟩)
          (first | exact Held.init _ _ | assumption | exact Held.step (by assumption) hBc | exact Held.step (by assumption) hBb | exact Held.step (by assumption) hBa)
          (first | (go_at_call 12; refine (heap_all hb L fp _ (HA.out.upd (Upd.refl [] wr).drew).1.1.1 (by have := HN.out; omega)).mono ?_; rintro e w6 ⟨aoa, capa, rfl, hRa, -, hBa⟩; rw [HN.out] at hRa ⊢; have HRa := Lib.hid hRa; have HUa : Hid (Upd [] wr w6) := (Upd.refl [] wr).drew.trans hBa; clear hRa) | (go_at_call 11; refine (plain_any aoa ao6 n capa cap6 L _ HN.out (by omega) HRa.out (HR.out.upd HUa.out (by simp))).mono ?_; rintro e w7 ⟨rfl, hBb⟩; have HUb : Hid (Upd [] wr w7) := HUa.out.trans hBb) | (go_at_call 10; refine ((HA.out.upd HUb.out).1.1.len).mono ?_; rintro e w8 ⟨rfl, -, hBc⟩; rw [HN.out]))
        all_goals
          go_wp2
          go_ret
          exact ⟨rfl, (HA.out.updW.trans HUb.out).trans hBc⟩
end Go.Proofs.Ytilibinmbmgedaa
