/-
  The walk of WheelWidths. Condition: where a table of the library's lies.
-/
import Derived.Test.YtilibinmbmgedaaDoorWh
namespace Go.Proofs.YtilibinmbmgedaaDoor
open Go.RowKit

def mapN (W k : Nat) : Nat := if lev3 W 0 k = 2 then orB 0 (bucN W k 2) else 0
/-- A wheel of which the third bitmap is known. -/
def NewP (wb mb : Nat) (m : Nat) (B : Nat) (w : World) : Prop := ∃ s, WhAt w wb s ∧ s.mw 2 = m ∧ ∀ c ∈ s.fp wb, c = wb ∨ c = mb ∨ B ≤ c
theorem wpush_new (wb mb k : Nat) (x wd : Int) (hk : k < 18446744073709551616) (w : World) (h : WhAt w wb (newWS wd mb)) :
    Calls Tryd.prog 19 #[.pointer (some ⟨wb, 0, none⟩), .agg #[.int .u64 k, .int .i64 x]] w (fun e w' => e = .returned (.bool (decide (lev3 (heldN wd) 0 k < 3))) ∧ NewP wb mb (mapN (heldN wd) k) w.heap.size w' ∧ Upd [wb, mb] w w') := by
  by_cases hl : lev3 (heldN wd) 0 k < 3
  · obtain ⟨l, hll⟩ : ∃ l, lev3 (heldN wd) 0 k = l := ⟨_, rfl⟩
    rw [hll] at hl
    refine (wpush_yes wb l k x hk (newWS wd mb) w h (by simp [newWS]) hll hl rfl (by simp [newWS, Buc.z]) (by simp [newWS])).mono ?_
    rintro e w' ⟨rfl, ao, cap, h1, h2, h3⟩
    have hn : blkO ((newWS wd mb).bk (l * 64 + bucN (newWS wd mb).wd k l)).ao = [] := rfl
    rw [hn] at h2 h3
    refine ⟨by rw [hll]; simp [hl], ⟨_, h1, ?_, fun c hc => ?_⟩, h3⟩
    · simp only [putS, newWS]
      unfold mapN
      rw [hll]
      by_cases e : l = 2
      · subst e; simp
      · rw [if_neg (fun e' => e e'.symm), if_neg e]
    · rcases WS.mem_fp.1 hc with h | h | ⟨q, hq, h⟩
      · exact .inl h
      · exact .inr (.inl h)
      · simp only [putS] at h
        split at h
        · rcases h2 c h with h' | h'
          · cases h'
          · exact .inr (.inr h')
        · cases h
  · have hf : fits (newWS wd mb) k = false := by
      have h2 : ¬ (lev3 (newWS wd mb).wd (newWS wd mb).base k < 3) := hl
      unfold fits
      rw [decide_eq_false h2, Bool.and_false]
    refine (wpush_no wb k x hk (newWS wd mb) w h (.inl hf)).mono ?_
    rintro e w' ⟨rfl, hU⟩
    refine ⟨by simp [hl], ⟨_, h.up hU, ?_, fun c hc => ?_⟩, hU.nil⟩
    · unfold mapN
      rw [if_neg (by omega)]
      rfl
    · rcases WS.mem_fp.1 hc with h | h | ⟨q, hq, h⟩
      · exact .inl h
      · exact .inr (.inl h)
      · cases h

theorem NewP.upd {wb mb m B : Nat} {S : List Nat} {w w' : World} (h : NewP wb mb m B w) (hu : Upd S w w') (hs : ∀ c ∈ S, c ≠ wb ∧ c ≠ mb ∧ c < B) : NewP wb mb m B w' := by
  obtain ⟨s, h1, h2, h3⟩ := h
  refine ⟨s, h1.upd hu (fun c hc e => ?_), h2, h3⟩
  have := hs c e
  rcases h3 c hc with h | h | h <;> omega
theorem newWS_fp {wd : Int} {wb mb c : Nat} (h : c ∈ (newWS wd mb).fp wb) : c = wb ∨ c = mb := by
  rcases WS.mem_fp.1 h with h | h | ⟨q, hq, h⟩
  · exact .inl h
  · exact .inr h
  · cases h

set_option maxRecDepth 100000 in
set_option maxHeartbeats 16000000 in
theorem wwidths_walk (base key width level : Int) (W : World) (hT : TabAt 0 Lib.deBruijn64tab W) (h0 : (Lit.int .u64 base).wf = true) (h1 : (Lit.int .u64 key).wf = true) (_ : (Lit.int .i64 width).wf = true) (_ : (Lit.int .i64 level).wf = true) :
    Calls Tryd.prog 4 #[.int .u64 base, .int .u64 key, .int .i64 width, .int .i64 level] W (RetUpd [] W (.bool true)) := by
  have hb0 := wf_u64_bd h0
  have hk0 := wf_u64_bd h1
  obtain ⟨b, rfl⟩ := Int.eq_ofNat_of_zero_le hb0.1
  obtain ⟨k, rfl⟩ := Int.eq_ofNat_of_zero_le hk0.1
  have hb : b < 18446744073709551616 := by omega
  have hk : k < 18446744073709551616 := by omega
  have HT := Lib.hid hT
  have HB := Lib.hid hb
  have HK := Lib.hid hk
  obtain ⟨wd, hwd⟩ : ∃ wd, min (max width 0) 40 = wd := ⟨_, rfl⟩
  have HW : Hid (heldN wd = heldN width) := by unfold Hid heldN; omega
  have HWD := Lib.hid hwd
  clear hT h0 h1 hb0 hk0 hb hk hwd
  go_enter Tryd.func4, Tryd.ntmps4
  go_wp2_with fail
  rw [HWD.out]
  refine (wnew_any width W).mono ?_
  rintro e w1 ⟨rfl, hA1, hU1⟩
  have HA1 := Lib.hid hA1
  have HU1 := Lib.hid hU1
  have s1 := hU1.size
  clear hA1 hU1
  go_wp2_with fail
  refine (wnew_any wd w1).mono ?_
  rintro e w2 ⟨rfl, hB2, hU2⟩
  have HB2 := Lib.hid hB2
  have HA2 := Lib.hid (HA1.out.up hU2)
  have HU2 : Hid (Upd [] W w2) := HU1.out.trans hU2
  clear hB2 hU2
  go_wp2_with fail
  refine (awake5_any _ (tab_upd HT.out HU2.out)).mono ?_
  rintro e w3 ⟨rfl, hU3⟩
  have HB3 := Lib.hid (HB2.out.up hU3)
  have HA3 := Lib.hid (HA2.out.up hU3)
  have HU3 : Hid (Upd [] W w3) := HU2.out.trans hU3
  have lA := HA1.out.lt (W.heap.size + 1) (WS.mem_fp.2 (.inl rfl))
  have lB := HB3.out.lt (w1.heap.size + 1) (WS.mem_fp.2 (.inl rfl))
  clear hU3 HA2 HB2
  have hX := Blk.new w3 34 [.int .u64 k, .int .i64 1]
  have HX := Lib.hid hX
  have x0 := hX.cell (j := 0) rfl
  have x1 := hX.cell (j := 1) rfl
  have lx := hX.lt
  obtain ⟨wba, hwba⟩ : ∃ x, W.heap.size + 1 = x := ⟨_, rfl⟩
  obtain ⟨wbb, hwbb⟩ : ∃ x, w1.heap.size + 1 = x := ⟨_, rfl⟩
  have hab : wba < w1.heap.size := by omega
  have hbb : wbb = w1.heap.size + 1 := by omega
  have hba : wba = W.heap.size + 1 := by omega
  rw [hwba] at HA3 lA ⊢
  rw [hwbb] at HB3 lB ⊢
  have HBB := Lib.hid hbb
  have HBA := Lib.hid hba
  clear hwba hwbb hX hbb hba
  go_wp2_with fail
  obtain ⟨w4, hw4⟩ : ∃ w4, w4 = w3.alloc (.cells #[.int .u64 k, .int .i64 1] 34 (0, 0)) := ⟨_, rfl⟩
  rw [← hw4]
  have HA4 : Hid (WhAt w4 wba (newWS width W.heap.size)) := by unfold Hid; rw [hw4]; exact HA3.out.up ((Upd.refl [] w3).alloc _)
  have HB4 : Hid (WhAt w4 wbb (newWS wd w1.heap.size)) := by unfold Hid; rw [hw4]; exact HB3.out.up ((Upd.refl [] w3).alloc _)
  have HU4 : Hid (Upd [] W w4) := by unfold Hid; rw [hw4]; exact HU3.out.alloc _
  rw [← hw4] at x0 x1 lx
  have n1 : w3.heap.size ≠ wba := by have := HBB.out; omega
  have n2 : w3.heap.size ≠ W.heap.size := by have := HBA.out; have := HBB.out; omega
  have n3 : w3.heap.size ≠ wbb := by have := HBB.out; omega
  have n4 : w3.heap.size ≠ w1.heap.size := by have := HBB.out; omega
  clear hw4
  go_region_held3 (fun w2 => Upd [wba, W.heap.size, wbb, w1.heap.size] w4 w2 ∧ ∀ (b o : Nat), b < w4.heap.size → b ∉ [wba, W.heap.size, wbb, w1.heap.size] → w2.cell? ⟨b, o, none⟩ = w4.cell? ⟨b, o, none⟩)
    (first | exact Held.init _ _ | assumption | exact Held.step (by assumption) hBb | exact Held.step (by assumption) hBa)
    (first | (go_at_call 14; refine (level_any b k HB.out HK.out _ _).mono ?_; rintro e w' ⟨rfl, rfl⟩; (try rw [HW.out])) | (go_at_call 16; refine (wbucket_any k _ _ _).mono ?_; rintro e w' ⟨rfl, rfl⟩; (try rw [HW.out])) | (go_at_call_of 19 (Value.pointer (some ⟨wba, 0, none⟩)); refine (wpush_new wba W.heap.size k 1 width HK.out _ (HA4.out.up (Upd.refl [] w4).drew)).mono ?_; rintro e w5 ⟨rfl, hA5, hU5⟩; have y0 := (hU5.cell lx (by simp [n1, n2]) 0).trans x0; have y1 := (hU5.cell lx (by simp [n1, n2]) 1).trans x1; have HA5 := Lib.hid hA5; have HB5 := Lib.hid ((HB4.out.up (Upd.refl [] w4).drew).upd hU5 (fun c hc e => by have := newWS_fp hc; have := HBB.out; have := HBA.out; simp at e; omega)); have HU5 : Hid (Upd [] W w5) := HU4.out.drew.then hU5 (fun _ _ h => h) (fun i hi hm => by have := HBA.out; simp at hm; omega); have s5 := hU5.size; have hBa := hU5.mono (T := [wba, W.heap.size, wbb, w1.heap.size]) (fun i _ hm => by simp at hm ⊢; omega); clear hA5 hU5) | (go_at_call_of 19 (Value.pointer (some ⟨wbb, 0, none⟩)); refine (wpush_new wbb w1.heap.size k 1 wd HK.out _ HB5.out).mono ?_; rintro e w6 ⟨rfl, hB6, hU6⟩; rw [HW.out] at hB6 ⊢; have HB6 := Lib.hid hB6; have HA6 := Lib.hid (HA5.out.upd hU6 (fun c hc => by have := HBB.out; have := HBA.out; simp at hc; simp at s5; have h4 : w4.drew.heap.size = w4.heap.size := rfl; omega)); have HU6 : Hid (Upd [] W w6) := HU5.out.then hU6 (fun _ _ h => h) (fun i hi hm => by have := HBB.out; simp at hm; omega); have hBb := hU6.mono (T := [wba, W.heap.size, wbb, w1.heap.size]) (fun i _ hm => by simp at hm ⊢; omega); clear hB6 hU6) | (go_at_call_of 20 (Value.pointer (some ⟨wba, 0, none⟩)); obtain ⟨sa, hsa, hma, _⟩ := HA6.out; refine (wmap_any wba 2 (by omega) sa _ hsa).mono ?_; rintro e w' ⟨rfl, rfl⟩; rw [hma]; clear hsa hma) | (go_at_call_of 20 (Value.pointer (some ⟨wbb, 0, none⟩)); obtain ⟨sb, hsb, hmb, _⟩ := HB6.out; refine (wmap_any wbb 2 (by omega) sb _ hsb).mono ?_; rintro e w' ⟨rfl, rfl⟩; rw [hmb]; clear hsb hmb))
  all_goals
    go_wp2
    go_ret
    exact ⟨rfl, HU6.out⟩
end Go.Proofs.YtilibinmbmgedaaDoor
