/-
  What the wheel's laws ask first. Condition: where a table of the library's lies.
-/
import Derived.Test.YtbnifhdnpeiheaaDoorWf
set_option linter.unusedVariables false
set_option linter.unusedSimpArgs false
namespace Go.Proofs.YtbnifhdnpeiheaaDoor
open Go.RowKit

def bucI (W k : Nat) (l : Int) : Int := if l < 0 ∨ 3 ≤ l then -1 else (bucN W k l.toNat : Nat)
theorem wbucket_any (k : Nat) (l wd : Int) (w : World) : Calls Tryd.prog 36 #[.int .u64 k, .int .i64 l, .int .i64 wd] w (fun e w' => e = .returned (.int .i64 (bucI (heldN wd) k l)) ∧ w = w') := by
  unfold bucI
  by_cases h : l < 0 ∨ 3 ≤ l
  · rw [if_pos h]; exact bucket_out k l h wd w
  · rw [if_neg h]
    obtain ⟨j, rfl⟩ := Int.eq_ofNat_of_zero_le (show 0 ≤ l by omega)
    exact bucket_any k j (by omega) wd w
theorem rbucketI_any (k : Nat) (hk : k < 18446744073709551616) (l wd : Int) (w : World) : Calls Tryd.prog 74 #[.int .u64 k, .int .i64 l, .int .i64 wd] w (fun e w' => e = .returned (.int .i64 (bucI (heldN wd) k l)) ∧ w = w') := by
  unfold bucI
  by_cases h : l < 0 ∨ 3 ≤ l
  · rw [if_pos h]; exact rbucket_out k l h wd w
  · rw [if_neg h]
    obtain ⟨j, rfl⟩ := Int.eq_ofNat_of_zero_le (show 0 ≤ l by omega)
    exact rbucket_any k j hk (by omega) wd w

theorem lev_one : lev3 0 0 64 = 1 := by decide +kernel
theorem lev_far : lev3 0 0 262144 = 3 := by decide +kernel
theorem buc_one : bucN 0 64 1 = 1 := by decide +kernel
theorem nxt0 : nxtB 0 0 = -1 := by decide +kernel
theorem nxt2 : nxtB (orB 0 1) 0 = 1 := by decide +kernel

set_option maxRecDepth 100000 in
set_option maxHeartbeats 8000000 in
theorem awake5_any (w : World) (hT : TabAt 0 Lib.deBruijn64tab w) : Calls Tryd.prog 17 #[] w (RetUpd [] w (.bool true)) := by
  have HT := Lib.hid hT
  have hl1 := level_any 0 64 (by omega) (by omega) 0
  have hl2 := level_any 0 262144 (by omega) (by omega) 0
  have hb1 := wbucket_any 64 1 0
  have e1 : levN (heldN 0) 0 64 = 1 := by decide +kernel
  have e2 : levN (heldN 0) 0 262144 = 3 := by decide +kernel
  have e3 : bucI (heldN 0) 64 1 = 1 := by decide +kernel
  rw [e1] at hl1
  rw [e2] at hl2
  rw [e3] at hb1
  have HL1 := Lib.hid hl1
  have HL2 := Lib.hid hl2
  have HB1 := Lib.hid hb1
  clear hT hl1 hl2 hb1 e1 e2 e3
  go_enter Tryd.func17, Tryd.ntmps17
  go_wp2_with fail
  refine (wnew_any 0 w).mono ?_
  rintro e w1 ⟨rfl, h1, hU1⟩
  have H1 := Lib.hid h1
  have HU1 := Lib.hid hU1
  clear h1 hU1
  go_wp2_with fail
  refine (wpush_yes (w.heap.size + 1) 1 64 7 (by omega) (newWS 0 w.heap.size) w1 H1.out (by simp [newWS]) lev_one (by omega) rfl (by simp [newWS, Buc.z]) (by simp [newWS])).mono ?_
  rintro e w2 ⟨rfl, ao, cap, h2, hf, hU2⟩
  rw [show bucN (newWS 0 w.heap.size).wd 64 1 = 1 from buc_one] at h2
  have HU2 : Hid (Upd [] w w2) := HU1.out.then hU2 (fun _ _ hm => hm) (fun i hi hm => by
    simp [newWS, Buc.z, blkO] at hm
    omega)
  obtain ⟨s2, hs2⟩ : ∃ s2, putS { newWS 0 w.heap.size with M := putM (newWS 0 w.heap.size).M 7 (.int .u64 64) } 1 1 (64, 7) ao cap = s2 := ⟨_, rfl⟩
  have h2' : WhAt w2 (w.heap.size + 1) s2 := by rw [← hs2]; exact h2
  have H2 := Lib.hid h2'
  have m0 : s2.mw 0 = 0 := by rw [← hs2]; rfl
  have m1 : s2.mw 1 = orB 0 1 := by rw [← hs2]; rfl
  have m2 : s2.mw 2 = 0 := by rw [← hs2]; rfl
  have hbk : (s2.bk 65).L = [(64, 7)] := by rw [← hs2]; rfl
  have hnf : fits s2 262144 = false := by
    have hb2 : s2.base = 0 := by rw [← hs2]; rfl
    have hw2 : s2.wd = 0 := by rw [← hs2]; rfl
    unfold fits
    rw [hb2, hw2, lev_far]
    rfl
  have HNE : Hid (∀ l b : Nat, l < 3 → nxtB (s2.mw l) 0 = b → 0 < (s2.bk (l * 64 + b)).L.length) := by
    intro l b hl hb
    have : l = 0 ∨ l = 1 ∨ l = 2 := by omega
    rcases this with rfl | rfl | rfl
    · rw [m0, nxt0] at hb; omega
    · rw [m1, nxt2] at hb
      obtain rfl : b = 1 := by omega
      show 0 < (s2.bk 65).L.length
      rw [hbk]; simp
    · rw [m2, nxt0] at hb; omega
  have HMIN : Hid (∀ v, MinOf s2 v → v = itV (64, 7) true) := by
    intro v hv
    rcases hv with ⟨hz, _⟩ | ⟨l, b, hl, hj, hb, rfl⟩
    · have := hz 1 (by omega)
      rw [m1, nxt2] at this; omega
    · have : l = 0 ∨ l = 1 ∨ l = 2 := by omega
      rcases this with rfl | rfl | rfl
      · rw [m0, nxt0] at hb; omega
      · rw [m1, nxt2] at hb
        obtain rfl : b = 1 := by omega
        show itV (minI (atI (s2.bk 65).L 0) (s2.bk 65).L) true = _
        rw [hbk]
        rfl
      · rw [m2, nxt0] at hb; omega
  have HM1 : Hid (orB 0 1 = 2) := by unfold Hid; decide +kernel
  have HMW := Lib.hid m1
  have HNF := Lib.hid hnf
  clear h2 h2' hf hU2 hs2 m0 m1 m2 hbk hnf
  go_wp2_with fail
  refine (wpush_no (w.heap.size + 1) 262144 8 (by omega) s2 w2 H2.out (.inl HNF.out)).mono ?_
  rintro e w3 ⟨rfl, hU3⟩
  have HU3 : Hid (Upd [] w w3) := HU2.out.trans hU3
  have H3 := Lib.hid (H2.out.up hU3)
  clear hU3
  go_wp2_with fail
  refine (wmin_any (w.heap.size + 1) s2 w3 H3.out (tab_upd HT.out HU3.out) HNE.out).mono ?_
  rintro e w4 ⟨v, rfl, hv, hU4⟩
  rw [HMIN.out v hv]
  have HU4 : Hid (Upd [] w w4) := HU3.out.trans hU4
  have H4 := Lib.hid (H3.out.up hU4)
  clear hv hU4
  unfold itV
  go_wp2_with fail
  refine (wmap_any (w.heap.size + 1) 1 (by omega) s2 _ (H4.out.up ((Upd.refl [] w4).alloc _))).mono ?_
  rintro e w5 ⟨rfl, rfl⟩
  rw [HMW.out, HM1.out]
  go_wp2_with fail
  refine (HL1.out _).mono ?_
  rintro e w6 ⟨rfl, rfl⟩
  go_wp2_with fail
  refine (HB1.out _).mono ?_
  rintro e w7 ⟨rfl, rfl⟩
  go_wp2_with fail
  refine (HL2.out _).mono ?_
  rintro e w8 ⟨rfl, rfl⟩
  go_wp2
  go_ret
  exact ⟨rfl, HU4.out.alloc _⟩
end Go.Proofs.YtbnifhdnpeiheaaDoor
