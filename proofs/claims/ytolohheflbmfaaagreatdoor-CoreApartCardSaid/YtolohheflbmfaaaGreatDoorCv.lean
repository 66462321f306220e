/-
  The walk of CoreApart. Condition: where a table of the library's lies.
-/
import Derived.Test.YtolohheflbmfaaaGreatDoorCu
set_option linter.unusedVariables false
set_option linter.unusedSimpArgs false
namespace Go.Proofs.YtolohheflbmfaaaGreatDoor
open Go.RowKit

/-- Two pairs side by side. -/
def AK (W : World) (kb xb V n : Nat) (s : CS) (F G : List Nat) (jb yb V2 k : Nat) (t : CS) (F2 G2 : List Nat) (w : World) : Prop :=
  KP W kb xb V n s F G w ∧ KP W jb yb V2 k t F2 G2 w ∧ ∀ c ∈ F2 ++ G2, c ∉ F ++ G
section
variable {W w w' : World} {kb xb V n : Nat} {s : CS} {F G : List Nat} {jb yb V2 k : Nat} {t : CS} {F2 G2 : List Nat}
theorem AK.swap (h : AK W kb xb V n s F G jb yb V2 k t F2 G2 w) : AK W jb yb V2 k t F2 G2 kb xb V n s F G w := ⟨h.2.1, h.1, fun c hc e => h.2.2 c e hc⟩
theorem AK.updS {S : List Nat} (h : AK W kb xb V n s F G jb yb V2 k t F2 G2 w) (hu : Upd S w w') (hS : ∀ c ∈ S, w.heap.size ≤ c) : AK W kb xb V n s F G jb yb V2 k t F2 G2 w' := by
  have hW := h.1.updW.size
  have k1 := h.1.lt
  have k2 := h.2.1.lt
  refine ⟨h.1.updS hu (fun c hc e => ?_) (fun c hc e => ?_) (fun c hc => by have := hS c hc; omega), h.2.1.updS hu (fun c hc e => ?_) (fun c hc e => ?_) (fun c hc => by have := hS c hc; omega), h.2.2⟩
  · have := k1 c (by simp [hc]); have := hS c e; omega
  · have := k1 c (by simp [hc]); have := hS c e; omega
  · have := k2 c (by simp [hc]); have := hS c e; omega
  · have := k2 c (by simp [hc]); have := hS c e; omega
theorem AK.upd (h : AK W kb xb V n s F G jb yb V2 k t F2 G2 w) (hu : Upd [] w w') : AK W kb xb V n s F G jb yb V2 k t F2 G2 w' := h.updS hu (by simp)
theorem AK.deed {e : Ending} (h : AK W kb xb V n s F G jb yb V2 k t F2 G2 w) (hs : Step21To W kb xb V (n + 1) F G w e w') :
    e = .returned (.bool true) ∧ ∃ s' F' G', AK W kb xb V (n + 1) s' F' G' jb yb V2 k t F2 G2 w' := by
  obtain ⟨he, s', F', G', k1, k2, k3, k4⟩ := hs
  have hl := h.2.1.lt
  refine ⟨he, s', F', G', k1, h.2.1.updS k4 (fun c hc e => h.2.2 c (by simp [hc]) e) (fun c hc e => h.2.2 c (by simp [hc]) e) h.1.newB, fun c hc e => ?_⟩
  have h1 := hl c hc
  rcases List.mem_append.1 e with e | e
  · rcases k2 c e with h' | h'
    · exact h.2.2 c hc (by simp [h'])
    · omega
  · rcases k3 c e with h' | h'
    · exact h.2.2 c hc (by simp [h'])
    · omega
theorem AK.mono2 {k' : Nat} (h : AK W kb xb V n s F G jb yb V2 k t F2 G2 w) (hk : k ≤ k') : AK W kb xb V n s F G jb yb V2 k' t F2 G2 w := ⟨h.1, h.2.1.mono hk, h.2.2⟩
end
def CApartAt (W : World) (kb xb V jb yb V2 c : Nat) (iv : Value) (wr : World) : Prop := ∃ (i : Nat) (s t : CS) (F G F2 G2 : List Nat), iv = .int .i64 i ∧ i ≤ c ∧ AK W kb xb V i s F G jb yb V2 i t F2 G2 wr

set_option maxRecDepth 100000 in
set_option maxHeartbeats 64000000 in
theorem capart_walk (sh sl wo wd : Int) (un : Nat) (v : Value) (m : Nat) (D : Nat → Nat → Value) (v2 : Value) (m2 : Nat) (D2 : Nat → Nat → Value) (W : World) (hT : TabAt 0 Lib.deBruijn64tab W) (_ : un < 18446744073709551616) (hv : ActRow W v m D) (hv2 : ActRow W v2 m2 D2) :
    Calls Tryz.prog 8 #[.agg #[.int .i64 sh, .int .i64 sl, .int .i64 wo, .int .i64 wd, .int .u64 un], v, v2] W (RetUpd [] W (.bool true)) := by
  obtain ⟨ao2, cap2, rfl, hmm2, hD2⟩ := act_cells hv2
  unfold maxLen at hmm2
  have HD2 := Lib.hid hD2
  clear hD2 hv2
  obtain ⟨ao, cap, rfl, hmm, hD⟩ := act_cells hv
  unfold maxLen at hmm
  have HD := Lib.hid hD
  have HT := Lib.hid hT
  clear hD hv hT
  obtain ⟨c, hc⟩ : ∃ c : Nat, Min.min m 40 = c := ⟨_, rfl⟩
  have hcm : c ≤ m := by omega
  have hc40 : c ≤ 40 := by omega
  have HC : Hid (Min.min m 40 = c) := hc
  clear hc
  go_enter Tryz.func8, Tryz.ntmps8
  go_wp2_with fail
  refine (made21_any W sh sl wo wd un _ ((Upd.refl [] W).alloc _) HT.out).mono ?_
  rintro e1 w1 ⟨kb, xb, V, m0, F0, G0, rfl, hP, hU1, -⟩
  have hB := (Blk.new W 24 [.int .i64 sh, .int .i64 sl, .int .i64 wo, .int .i64 wd, .int .u64 un]).upd hU1 (by simp)
  have b0 := hB.cell (j := 0) rfl
  have b1 := hB.cell (j := 1) rfl
  have b2 := hB.cell (j := 2) rfl
  have b3 := hB.cell (j := 3) rfl
  have b4 := hB.cell (j := 4) rfl
  have lb := hB.lt
  have HP1 := Lib.hid hP
  clear hP hU1 hB
  go_wp2_with fail
  refine (made21_any W sh sl wo wd un _ HP1.out.updW HT.out).mono ?_
  rintro e1 w2 ⟨jb, yb, V2, m3, F3, G3, rfl, hP, hU2, hn⟩
  have HA2 : Hid (AK W kb xb V 0 (newC m0) F0 G0 jb yb V2 0 (newC m3) F3 G3 w2) := ⟨HP1.out.upd hU2, hP, fun c hc e => by
    have h1 := HP1.out.lt c e
    have := hn c hc; omega⟩
  clear hP hU2 hn HP1 b0 b1 b2 b3 b4 lb
  go_wp2_with fail
  refine (awake21_any _ (tab_upd HT.out HA2.out.1.updW)).mono ?_
  rintro e w3 ⟨rfl, hU⟩
  have HA3 := Lib.hid (HA2.out.upd hU)
  clear hU HA2
  go_wp2_with fail
  go_loopw [11] (fun iv wr => CApartAt W kb xb V jb yb V2 c iv wr) (fun iv _ => c - (intOf iv).toNat)
  case atStart => exact ⟨0, _, _, _, _, _, _, rfl, Nat.zero_le _, HA3.out⟩
  case round =>
    clear HA3
    obtain ⟨i, s, t, F, G, F2, G2, rfl, hi, hA⟩ := hrel
    have HP := Lib.hid hA.1
    have HA := Lib.hid hA
    clear hA
    by_cases hlt : i < c
    · skip
      rcases HD.out with h0 | ⟨bd, off, rfl, hb1, hcc⟩
      · omega
      obtain ⟨k, o, z, f, mo, r, more, c0, c1, c2, c3, c4, c5, c6, hz, hr⟩ := hcc i (by omega)
      have hUW := HP.out.updW
      rw [← hUW.cell hb1 (by simp)] at c0 c1 c2 c3 c4 c5 c6
      have lbd := Nat.lt_of_lt_of_le hb1 hUW.size
      have him : i < m := by omega
      have t1 : decide (i < m) = true := by simp; omega
      have t2 : decide ((i : Int) < 40) = true := by simp; omega
      have b1 : (i : Int) < (m : Int) := by omega
      have HZ := Lib.hid hz
      have HR := Lib.hid hr
      have HLC := Lib.hid hlt
      have HI1 : Hid (i + 1 ≤ c) := hlt
      have HI80 : Hid (i + 1 ≤ 100) := by unfold Hid; omega
      clear hcc hb1 hz hr hUW
      go_wp2_with fail
      refine (step21_any HP.out (by omega) k o z f mo r more HZ.out HR.out).mono ?_
      rintro e w6 hst
      obtain ⟨rfl, s6, F6, G6, hA6⟩ := HA.out.deed hst
      have HA6 := Lib.hid hA6
      clear hA6 hst c0 c1 c2 c3 c4 c5 c6 HZ HR
      by_cases hm : i < m2
      · have u1 : decide (i < m2) = true := by simp [hm]
        have b2 : (i : Int) < (m2 : Int) := by omega
        rcases HD2.out with h0 | ⟨bd2, off2, rfl, hb2, hcc⟩
        · omega
        obtain ⟨k2, o2, z2, f2, mo2, r2, more2, c0, c1, c2, c3, c4, c5, c6, hz, hr⟩ := hcc i (by omega)
        rw [← HA6.out.1.updW.cell hb2 (by simp)] at c0 c1 c2 c3 c4 c5 c6
        have lb2 := Nat.lt_of_lt_of_le hb2 HA6.out.1.updW.size
        have HZ := Lib.hid hz
        have HR := Lib.hid hr
        clear hcc hb2 hz hr
        go_wp2_with fail
        refine (step21_any HA6.out.2.1 (by omega) k2 o2 z2 f2 mo2 r2 more2 HZ.out HR.out).mono ?_
        rintro e w7 hst
        obtain ⟨rfl, s7, F7, G7, hA7⟩ := HA6.out.swap.deed hst
        have HA7 := Lib.hid hA7.swap
        clear hA7 hst c0 c1 c2 c3 c4 c5 c6
        go_wp2_with fail
        refine (HA7.out.1.1.items_ (by have := HA7.out.1.2.2.1.len; omega)).mono ?_
        rintro e wa ⟨aoa, capa, rfl, hR, hF, hU⟩
        have HRa := Lib.hid hR
        have HFa := Lib.hid hF
        have HUa := Lib.hid hU
        have HLN : Hid (s6.L.length ≤ 1000) := by unfold Hid; have := HA7.out.1.2.2.1.len; omega
        clear hR hF hU
        go_wp2_with fail
        refine (spoil_any aoa s6.L.length capa _ _ HLN.out HRa.out).mono ?_
        rintro e wb ⟨rfl, hU⟩
        have HAb := Lib.hid (HA7.out.updS (HUa.out.nil.trans hU) HFa.out)
        clear hU
        go_wp2
        exact ⟨⟨i + 1, s6, s7, F6, G6, F7, G7, by congr 1, HI1.out, HAb.out⟩, inner_measR HLC.out⟩
      · have u1 : decide (i < m2) = false := by simp [hm]
        go_wp2_with fail
        refine (HA6.out.1.1.items_ (by have := HA6.out.1.2.2.1.len; omega)).mono ?_
        rintro e wa ⟨aoa, capa, rfl, hR, hF, hU⟩
        have HRa := Lib.hid hR
        have HFa := Lib.hid hF
        have HUa := Lib.hid hU
        have HLN : Hid (s6.L.length ≤ 1000) := by unfold Hid; have := HA6.out.1.2.2.1.len; omega
        clear hR hF hU
        go_wp2_with fail
        refine (spoil_any aoa s6.L.length capa _ _ HLN.out HRa.out).mono ?_
        rintro e wb ⟨rfl, hU⟩
        have HAb := Lib.hid (HA6.out.updS (HUa.out.nil.trans hU) HFa.out)
        clear hU
        go_wp2
        exact ⟨⟨i + 1, s6, t, F6, G6, F2, G2, by congr 1, HI1.out, HAb.out.mono2 (by omega)⟩, inner_measR HLC.out⟩
    · skip
      have t1 : Hid (decide (i < m) = true ∧ decide ((i : Int) < 40) = false ∨ decide (i < m) = false) := by
        have := HC.out
        unfold Hid
        by_cases h : i < m
        · left; exact ⟨by simp; omega, by simp; omega⟩
        · right; simp; omega
      rcases t1.out with ⟨t2, t3⟩ | t2
      all_goals
        clear t1
        go_wp2_with fail
        refine (looks21_any HA.out.1 (by omega)).mono ?_
        rintro e w7 ⟨rfl, hU7⟩
        have HA7 := Lib.hid (HA.out.upd hU7)
        clear hU7
        go_wp2_with fail
        refine (looks21_any HA7.out.2.1 (by omega)).mono ?_
        rintro e w8 ⟨rfl, hU8⟩
        have HA8 := Lib.hid (HA7.out.upd hU8)
        clear hU8
        go_wp2
        go_ret
        exact ⟨rfl, HA8.out.1.updW⟩
end Go.Proofs.YtolohheflbmfaaaGreatDoor
