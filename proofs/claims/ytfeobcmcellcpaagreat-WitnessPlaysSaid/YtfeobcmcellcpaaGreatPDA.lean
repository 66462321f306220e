/-
  Texts of this claim, joined: Fh, Pa, Pb. No condition.
-/
import Derived.Test.YtfeobcmcellcpaaGreatPM
import Derived.Test.YtfeobcmcellcpaaGreatOr
set_option linter.unusedVariables false
set_option linter.unusedSimpArgs false
/-! Fh -/
namespace Go.Proofs.YtfeobcmcellcpaaGreat
open Go.RowKit

def SfAddAt (Z : List Ent) (id : Int) (w : World) (kv : Value) (wr : World) : Prop := ∃ k : Nat, kv = .int .i64 k ∧ k ≤ Z.length ∧ (∀ j x, j < k → Z[j]? = some x → x.f.id < id) ∧ w = wr
theorem take_all {Z : List Ent} {P : Ent → Prop} {k : Nat} (h : ∀ j x, j < k → Z[j]? = some x → P x) : ∀ x ∈ Z.take k, P x := by
  intro x hx
  obtain ⟨j, hj, e⟩ := List.getElem_of_mem hx
  rw [List.length_take] at hj
  rw [List.getElem_take] at e
  exact h j x (by omega) (by rw [List.getElem?_eq_getElem (by omega), e])
theorem drop_all {Z : List Ent} {k : Nat} {id : Int} (hs : Z.Pairwise (fun a b => a.f.id < b.f.id)) (h : ∀ x, Z[k]? = some x → id < x.f.id) : ∀ x ∈ Z.drop k, id < x.f.id := by
  intro x hx
  obtain ⟨j, hj, e⟩ := List.getElem_of_mem hx
  rw [List.length_drop] at hj
  rw [List.getElem_drop] at e
  have h0 := h (Z[k]'(by omega)) (List.getElem?_eq_getElem _)
  by_cases e0 : j = 0
  · subst e0; rw [← e]; exact h0
  · have := List.pairwise_iff_getElem.1 hs k (k + j) (by omega) (by omega) (by omega)
    rw [e] at this
    omega
theorem add_end {W w w6 w7 : World} {sb : Nat} {S : Sf} {G : List Nat} {ao : Option Addr} {cap : Nat} {Z : List Ent} {k n' : Nat} {nb : Nat} {id : Int} {r : Nat} {most : Int} {ao' : Option Addr} {cap' : Nat} (h : SfAt W w sb ao cap Z S.v S.most) (hF : Z.map (·.f) = S.F) (hG : G = sfB sb ao Z) (hpos : posF S.F id = -1) (hk : k ≤ Z.length) (hU : Upd [] w w6)
    (hE : EntAt w6 ⟨nb, flNew id r most, none, 0⟩) (hnb : w.heap.size ≤ nb) (hrow : RowO w6 124 1 ao' n' cap' ((insZ Z k ⟨nb, flNew id r most, none, 0⟩).map entV)) (hn : n' = Z.length + 1) (hao : ∀ c ∈ blkO ao', w.heap.size ≤ c) (hdis : nb ∉ blkO ao')
    (hlo : ∀ x ∈ Z.take k, x.f.id < id) (hhi : ∀ x ∈ Z.drop k, id < x.f.id) (hsm : Z.length < 1000) (h7 : Upd [] (w6.setCell ⟨sb, 0, none⟩ (.slice ao' n' cap')) w7) : SfTo W sb (addSf S id r most) G w w7 := by
  have hp := h.ins (e := ⟨nb, flNew id r most, none, 0⟩) hk hU hE (fun c hc => by simp only [entB, blkO, List.mem_cons, List.not_mem_nil, or_false] at hc; omega) hrow hn hao (fun c hc => by simp only [entB, blkO, List.mem_cons, List.not_mem_nil, or_false] at hc; subst hc; exact hdis) hlo hhi hsm h7
  have ha : addSf S id r most = { S with F := insF S.F (flNew id r most) } := by unfold addSf; rw [hpos, if_pos (by omega)]
  rw [ha, hG]
  refine ⟨_, ⟨ao', cap', _, hp.1, ?_, rfl⟩, hp.2⟩
  show (insZ Z k _).map (·.f) = insF S.F (flNew id r most)
  rw [← hF, insF_at (k := k) (fun x hx => by rw [← List.map_take] at hx; obtain ⟨y, hy, rfl⟩ := List.mem_map.1 hx; exact hlo y hy) (fun x hx => by rw [← List.map_drop] at hx; obtain ⟨y, hy, rfl⟩ := List.mem_map.1 hx; exact hhi y hy)]
  unfold insZ
  rw [List.map_append, List.map_cons, List.map_take, List.map_drop]

set_option maxRecDepth 100000 in
set_option maxHeartbeats 32000000 in
theorem SfG.add {W w : World} {sb : Nat} {S : Sf} {G : List Nat} (h : SfG W sb S G w) (id : Int) (r : Nat) (hr : r < 18446744073709551616) (most : Int) (hsm : S.F.length < 1000) :
    Calls Tryz.prog 111 #[.pointer (some ⟨sb, 0, none⟩), .int .i64 id, .int .u64 r, .int .i64 most] w (fun e w' => e = .returned (.bool (decide (posF S.F id < 0))) ∧ SfTo W sb (addSf S id r most) G w w') := by
  have HG := Lib.hid h
  rcases posF_cases S.F id with ⟨hpos, hno⟩ | ⟨i, f, hpos, hf, hid⟩
  · have HPO := Lib.hid hpos
    obtain ⟨ao, cap, Z, hz, hF, hGe⟩ := h
    have hZF : Z.length = S.F.length := by rw [← hF, List.length_map]
    obtain ⟨n, hn⟩ : ∃ n, Z.length = n := ⟨_, rfl⟩
    have HNZ := Lib.hid hn
    have hn1000 : n < 1000 := by omega
    obtain ⟨i0, hi0, hz0, hz1, hz2⟩ := info_parts infoFlowP
    have HH := Lib.hid hz
    have HF := Lib.hid hF
    have HGE := Lib.hid hGe
    have HR := Lib.hid hr
    have hno2 : Hid (∀ x ∈ Z, x.f.id ≠ id) := fun x hx => hno x.f (by rw [← hF]; exact List.mem_map_of_mem hx)
    obtain ⟨c0, -, -, lb⟩ := hz.cells
    rw [hn] at c0
    have z0 := hz.blk.free 0
    have hrow := hz.row
    rw [hn] at hrow
    rw [hpos]
    rcases hrow.cases with ⟨rfl, rfl, rfl, -⟩ | ⟨g, rfl, hrg⟩
    · clear hpos hno hz hF hGe hr hrow hZF hn hsm
      have hZ0 : Z = [] := List.eq_nil_of_length_eq_zero HNZ.out
      subst hZ0
      go_enter Tryz.func111, Tryz.ntmps111
      go_wp2_with fail
      refine (HG.out.at_ id).mono ?_
      rintro en w2 ⟨rfl, rfl⟩
      rw [HPO.out]
      go_wp2_with fail
      go_loopw [9] (fun kv wr => SfAddAt [] id w kv wr) (fun kv _ => 0 - (intOf kv).toNat)
      case atStart => exact ⟨0, rfl, Nat.zero_le _, fun j x hj => by omega, rfl⟩
      case round =>
        obtain ⟨k, rfl, hk, -, rfl⟩ := hrel
        obtain rfl : k = 0 := by simpa using hk
        go_wp2_with fail
        go_region_law
          (first
          | (go_simp; go_at_call 131; refine (flnew_any id r HR.out most _).mono ?_; rintro en w4 ⟨rfl, hE4, hU4⟩; have HE4 := Lib.hid hE4; have HU4 : Hid (Upd [] w w4) := (Upd.refl [] w).drew.trans hU4; have e4 := (HU4.out.cell lb (by simp) 0).trans c0; have lb4 := Nat.lt_of_lt_of_le lb HU4.out.size; clear hE4 hU4)
          | (refine step_app2 _ (by rfl) _ _ _ (by rfl) 124 i0 _ 1 8 underlyingFlows hi0 hz0 hz1 hz2 rfl (by omega) none 0 0 [] (by rfl) (RowO.nil _ _ _) (some ⟨w4.heap.size, 0, none⟩) 1 1 [.pointer (some ⟨w.heap.size, 0, none⟩)] (by rfl) (one_src w4 124 [.pointer (some ⟨w.heap.size, 0, none⟩)] (by simp [Value.oneCell']) 1 rfl) (by unfold maxLen; omega) (by omega) ?_; intro ao5 cap5 w5 hA5; have HU5 : Hid (Upd [] w w5) := (HU4.out.alloc _).trans hA5.upd; have e5 := (HU5.out.cell lb (by simp) 0).trans c0; have lb5 := Nat.lt_of_lt_of_le lb HU5.out.size; have HE5 : Hid (EntAt w5 ⟨w.heap.size, flNew id r most, none, 0⟩) := (HE4.out.upd ((Upd.refl [] w4).alloc _) (by simp)).upd hA5.upd (by simp [blkO]); have HD5 : Hid (w.heap.size ∉ blkO ao5) := (fun e => by rcases hA5.at_ _ e with h | h; (cases h); (have := HE4.out.blk.lt; simp at h this; omega)); have HA5 := Lib.hid hA5; clear hA5)
          | (refine step_app2 _ (by rfl) _ _ _ (by rfl) 124 i0 _ 1 8 underlyingFlows hi0 hz0 hz1 hz2 rfl (by omega) ao5 1 cap5 _ (by rfl) HA5.out.row none 0 0 [] (by rfl) ⟨rfl, by simp, .inl ⟨rfl, rfl⟩⟩ (by unfold maxLen; omega) (by omega) ?_; intro ao6 cap6 w6 hA6; have HA6 := Lib.hid hA6; have HU6 : Hid (Upd [] w w6) := HU5.out.then hA6.upd (fun _ _ h => h) (fun i hi hm => by rcases HA5.out.at_ i hm with h | h; (cases h); (have := HU4.out.size; simp at h; omega)); have e6 := (HU6.out.cell lb (by simp) 0).trans c0; have z6 := (HU6.out.frozen lb (by simp) 0).trans z0; have lb6 := Nat.lt_of_lt_of_le lb HU6.out.size; have HE6 : Hid (EntAt w6 ⟨w.heap.size, flNew id r most, none, 0⟩) := HE5.out.upd hA6.upd (fun c hc e => by simp only [entB, blkO, List.mem_cons, List.not_mem_nil, or_false] at hc; rw [hc] at e; exact HD5.out e); have HD6 : Hid (w.heap.size ∉ blkO ao6) := (fun e => by rcases hA6.at_ _ e with h | h; (exact HD5.out h); (have := HE5.out.blk.lt; simp at this; omega)); have HN6 : Hid (∀ c ∈ blkO ao6, w.heap.size ≤ c) := (fun c hc => by rcases hA6.at_ c hc with h | h; (rcases HA5.out.at_ c h with h | h; (cases h); (have := HU4.out.size; simp at h; omega)); (have := HU5.out.size; omega)); clear hA6))
        all_goals
          go_wp2
          go_ret
          refine ⟨rfl, add_end (k := 0) HH.out HF.out HGE.out HPO.out (Nat.zero_le _) HU6.out HE6.out (Nat.le_refl _) ?_ rfl HN6.out HD6.out (fun x hx => (by cases hx)) (fun x hx => (by cases hx)) (by simp) (Upd.refl [] _)⟩
          exact HA6.out.row
    · have hcap := hrow.cap_le.1
      have HSRC : Hid (∀ w' a m off, Upd [] w w' → a + m ≤ n → (off = a * 1 ∨ m = 0) → Src w' 1 (some ⟨g, off, none⟩) m (((Z.drop a).take m).flatMap (fun e => [entV e]))) := fun w' a m off hu ha ho => by
        have h1 := hrow.upd hu (by simp)
        rw [entVs_map] at h1
        exact part_srcG (fun e => [entV e]) 1 entVs_len entVs_one h1 hn a m ha off ho
      clear hpos hno hz hF hGe hr hrow hZF hn hrg hsm
      go_enter Tryz.func111, Tryz.ntmps111
      go_wp2_with fail
      refine (HG.out.at_ id).mono ?_
      rintro en w2 ⟨rfl, rfl⟩
      rw [HPO.out]
      go_wp2_with fail
      go_loopw [9] (fun kv wr => SfAddAt Z id w kv wr) (fun kv _ => n - (intOf kv).toNat)
      case atStart => exact ⟨0, rfl, Nat.zero_le _, fun j x hj => by omega, rfl⟩
      case round =>
        obtain ⟨k, rfl, hk, hj, rfl⟩ := hrel
        rw [HNZ.out] at hk
        have HJ := Lib.hid hj
        clear hj
        by_cases hlt : k < n
        · have t1 : decide (k < n) = true := by simp [hlt]
          have b1 : (k : Int) < (n : Int) := by omega
          obtain ⟨e, he⟩ : ∃ e, Z[k]? = some e := ⟨_, List.getElem?_eq_getElem (by rw [HNZ.out]; exact hlt)⟩
          obtain ⟨g', hg', x0, lg, hE, -⟩ := HH.out.at_ he
          cases hg'
          obtain ⟨y0, -, -, -, -, -, ly⟩ := hE.cells
          obtain ⟨y, hy⟩ : ∃ y, e.f.id = y := ⟨_, rfl⟩
          rw [hy] at y0
          have hnoy : y ≠ id := by rw [← hy]; exact hno2.out e (List.mem_of_getElem? he)
          have HY := Lib.hid hy
          have HEK := Lib.hid he
          clear hE he hy
          by_cases hyl : y < id
          · have t2 : decide (y < id) = true := by simp [hyl]
            have HYL := Lib.hid hyl
            have HLT := Lib.hid hlt
            clear hyl hnoy
            go_wp2
            exact ⟨⟨k + 1, by congr 1, by rw [HNZ.out]; exact HLT.out, fun j x hj2 hx => by
              rcases Nat.lt_or_ge j k with h | h
              · exact HJ.out j x h hx
              · have : j = k := by omega
                subst this
                rw [HEK.out] at hx
                cases hx
                rw [HY.out]; exact HYL.out, rfl⟩, by have := HLT.out; simp [intOf]; omega⟩
          · have t2 : decide (y < id) = false := by simp; omega
            have hyg : Hid (id < y) := by unfold Hid; omega
            clear hyl hnoy
            have hhi := drop_all (k := k) (id := id) HH.out.srt (fun x hx => by rw [HEK.out] at hx; cases hx; rw [HY.out]; exact hyg.out)
            have HHI : Hid (∀ x ∈ Z.drop k, id < x.f.id) := hhi
            clear hhi
            have HLO : Hid (∀ x ∈ Z.take k, x.f.id < id) := take_all HJ.out
            have b2 : k ≤ cap := by omega
            by_cases hce : cap = k
            all_goals (try (exfalso; omega))
            all_goals
              go_wp2_with (at_builtin; go_loud (refine wpList_app2 _ (by rfl) _ _ _ (by rfl) 124 i0 _ 1 8 underlyingFlows hi0 hz0 hz1 hz2 rfl (by omega) none 0 0 [] (by rfl) (RowO.nil _ _ _) (some ⟨g, 0, none⟩) k _ (((Z.drop 0).take k).flatMap (fun e => [entV e])) (by rfl) (HSRC.out _ 0 k 0 (Upd.refl [] w) (by omega) (by left; rfl)) (by unfold maxLen; omega) (by omega) ?_); go_loud (intro ao1 cap1 w3 hA1; have HU3 : Hid (Upd [] w w3) := hA1.upd; have HR1 : Hid (RowO w3 124 1 ao1 k cap1 ((Z.take k).flatMap (fun e => [entV e]))) := (by have := hA1.row; rw [Nat.zero_add, List.nil_append, List.drop_zero] at this; exact this); have HN1 : Hid (∀ c ∈ blkO ao1, w.heap.size ≤ c) := (fun c hc => by rcases hA1.at_ c hc with h | h; (cases h); omega); have e3 := (HU3.out.cell lb (by simp) 0).trans c0; have lb3 := Nat.lt_of_lt_of_le lb HU3.out.size; clear hA1))
              go_region_law
                (first
                | (go_simp; go_at_call 131; refine (flnew_any id r HR.out most _).mono ?_; rintro en w4 ⟨rfl, hE4, hU4⟩; have HE4 := Lib.hid hE4; have HU4 : Hid (Upd [] w3 w4) := (Upd.refl [] w3).drew.trans hU4; have e4 := (HU4.out.cell lb3 (by simp) 0).trans e3; have lb4 := Nat.lt_of_lt_of_le lb3 HU4.out.size; clear hE4 hU4)
                | (refine step_app2 _ (by rfl) _ _ _ (by rfl) 124 i0 _ 1 8 underlyingFlows hi0 hz0 hz1 hz2 rfl (by omega) ao1 k cap1 ((Z.take k).flatMap (fun e => [entV e])) (by rfl) (HR1.out.upd (HU4.out.alloc (.cells #[.pointer (some ⟨w3.heap.size, 0, none⟩)] 124)) (by simp)) (some ⟨w4.heap.size, 0, none⟩) 1 1 [.pointer (some ⟨w3.heap.size, 0, none⟩)] (by rfl) (one_src w4 124 [.pointer (some ⟨w3.heap.size, 0, none⟩)] (by simp [Value.oneCell']) 1 rfl) (by unfold maxLen; omega) (by omega) ?_; intro ao5 cap5 w5 hA5; have HU5 : Hid (Upd [] w w5) := HU3.out.then ((HU4.out.alloc _).nil.trans hA5.upd) (fun _ _ h => h) (fun i hi hm => by have := HN1.out i hm; omega); have e5 := (HU5.out.cell lb (by simp) 0).trans c0; have lb5 := Nat.lt_of_lt_of_le lb HU5.out.size; have hnb1 : w3.heap.size ∉ blkO ao1 := (fun e => by have := HR1.out.lt _ e; omega); have HE5 : Hid (EntAt w5 ⟨w3.heap.size, flNew id r most, none, 0⟩) := (HE4.out.upd ((Upd.refl [] w4).alloc _) (by simp)).upd hA5.upd (fun c hc e => by simp only [entB, blkO, List.mem_cons, List.not_mem_nil, or_false] at hc; rw [hc] at e; exact hnb1 e); have HD5 : Hid (w3.heap.size ∉ blkO ao5) := (fun e => by rcases hA5.at_ _ e with h | h; (exact hnb1 h); (have := HE4.out.blk.lt; simp at h this; omega)); have HA5 := Lib.hid hA5; clear hA5 hnb1)
                | (refine step_app2 _ (by rfl) _ _ _ (by rfl) 124 i0 _ 1 8 underlyingFlows hi0 hz0 hz1 hz2 rfl (by omega) ao5 (k + 1) cap5 _ (by rfl) HA5.out.row (some ⟨g, k, none⟩) (n - k) _ (((Z.drop k).take (n - k)).flatMap (fun e => [entV e])) (by rfl) (HSRC.out _ k (n - k) k HU5.out (by omega) (by left; omega)) (by unfold maxLen; omega) (by omega) ?_; intro ao6 cap6 w6 hA6; have HA6 := Lib.hid hA6; have HU6 : Hid (Upd [] w w6) := HU5.out.then hA6.upd (fun _ _ h => h) (fun i hi hm => by rcases HA5.out.at_ i hm with h | h; (have := HN1.out i h; omega); (have := HU3.out.size; have := HU4.out.size; simp at h; omega)); have e6 := (HU6.out.cell lb (by simp) 0).trans c0; have z6 := (HU6.out.frozen lb (by simp) 0).trans z0; have lb6 := Nat.lt_of_lt_of_le lb HU6.out.size; have HE6 : Hid (EntAt w6 ⟨w3.heap.size, flNew id r most, none, 0⟩) := HE5.out.upd hA6.upd (fun c hc e => by simp only [entB, blkO, List.mem_cons, List.not_mem_nil, or_false] at hc; rw [hc] at e; exact HD5.out e); have HD6 : Hid (w3.heap.size ∉ blkO ao6) := (fun e => by rcases hA6.at_ _ e with h | h; (exact HD5.out h); (have := HE5.out.blk.lt; simp at this; omega)); have HN6 : Hid (∀ c ∈ blkO ao6, w.heap.size ≤ c) := (fun c hc => by rcases hA6.at_ c hc with h | h; (rcases HA5.out.at_ c h with h | h; (exact HN1.out c h); (have := HU3.out.size; have := HU4.out.size; simp at h; omega)); (have := HU5.out.size; omega)); clear hA6)
                | (refine step_app2 _ (by rfl) _ _ _ (by rfl) 124 i0 _ 1 8 underlyingFlows hi0 hz0 hz1 hz2 rfl (by omega) ao5 (k + 1) cap5 _ (by rfl) HA5.out.row (some ⟨g, 0, none⟩) (n - k) _ (((Z.drop k).take (n - k)).flatMap (fun e => [entV e])) (by rfl) (HSRC.out _ k (n - k) 0 HU5.out (by omega) (by right; omega)) (by unfold maxLen; omega) (by omega) ?_; intro ao6 cap6 w6 hA6; have HA6 := Lib.hid hA6; have HU6 : Hid (Upd [] w w6) := HU5.out.then hA6.upd (fun _ _ h => h) (fun i hi hm => by rcases HA5.out.at_ i hm with h | h; (have := HN1.out i h; omega); (have := HU3.out.size; have := HU4.out.size; simp at h; omega)); have e6 := (HU6.out.cell lb (by simp) 0).trans c0; have z6 := (HU6.out.frozen lb (by simp) 0).trans z0; have lb6 := Nat.lt_of_lt_of_le lb HU6.out.size; have HE6 : Hid (EntAt w6 ⟨w3.heap.size, flNew id r most, none, 0⟩) := HE5.out.upd hA6.upd (fun c hc e => by simp only [entB, blkO, List.mem_cons, List.not_mem_nil, or_false] at hc; rw [hc] at e; exact HD5.out e); have HD6 : Hid (w3.heap.size ∉ blkO ao6) := (fun e => by rcases hA6.at_ _ e with h | h; (exact HD5.out h); (have := HE5.out.blk.lt; simp at this; omega)); have HN6 : Hid (∀ c ∈ blkO ao6, w.heap.size ≤ c) := (fun c hc => by rcases hA6.at_ c hc with h | h; (rcases HA5.out.at_ c h with h | h; (exact HN1.out c h); (have := HU3.out.size; have := HU4.out.size; simp at h; omega)); (have := HU5.out.size; omega)); clear hA6))
              all_goals
                go_wp2
                go_ret
                refine ⟨rfl, add_end (k := k) HH.out HF.out HGE.out HPO.out (by rw [HNZ.out]; omega) HU6.out HE6.out HU3.out.size ?_ (by rw [HNZ.out]; omega) HN6.out HD6.out HLO.out HHI.out (by rw [HNZ.out]; omega) (Upd.refl [] _)⟩
                have hr := HA6.out.row
                rw [List.take_of_length_le (l := Z.drop k) (by rw [List.length_drop, HNZ.out]; omega)] at hr
                rw [entVs_map]
                unfold insZ
                rw [List.flatMap_append, List.flatMap_cons, ← List.append_assoc]
                exact hr
        · have t1 : decide (k < n) = false := by simp; omega
          have hhi : ∀ x ∈ Z.drop k, id < x.f.id := fun x hx => by rw [List.drop_eq_nil_of_le (by rw [HNZ.out]; omega)] at hx; cases hx
          have HHI : Hid (∀ x ∈ Z.drop k, id < x.f.id) := hhi
          clear hhi
          have HLO : Hid (∀ x ∈ Z.take k, x.f.id < id) := take_all HJ.out
          have b2 : k ≤ cap := by omega
          by_cases hce : cap = k
          all_goals (try (exfalso; omega))
          all_goals
            go_wp2_with (at_builtin; go_loud (refine wpList_app2 _ (by rfl) _ _ _ (by rfl) 124 i0 _ 1 8 underlyingFlows hi0 hz0 hz1 hz2 rfl (by omega) none 0 0 [] (by rfl) (RowO.nil _ _ _) (some ⟨g, 0, none⟩) k _ (((Z.drop 0).take k).flatMap (fun e => [entV e])) (by rfl) (HSRC.out _ 0 k 0 (Upd.refl [] w) (by omega) (by left; rfl)) (by unfold maxLen; omega) (by omega) ?_); go_loud (intro ao1 cap1 w3 hA1; have HU3 : Hid (Upd [] w w3) := hA1.upd; have HR1 : Hid (RowO w3 124 1 ao1 k cap1 ((Z.take k).flatMap (fun e => [entV e]))) := (by have := hA1.row; rw [Nat.zero_add, List.nil_append, List.drop_zero] at this; exact this); have HN1 : Hid (∀ c ∈ blkO ao1, w.heap.size ≤ c) := (fun c hc => by rcases hA1.at_ c hc with h | h; (cases h); omega); have e3 := (HU3.out.cell lb (by simp) 0).trans c0; have lb3 := Nat.lt_of_lt_of_le lb HU3.out.size; clear hA1))
            go_region_law
              (first
              | (go_simp; go_at_call 131; refine (flnew_any id r HR.out most _).mono ?_; rintro en w4 ⟨rfl, hE4, hU4⟩; have HE4 := Lib.hid hE4; have HU4 : Hid (Upd [] w3 w4) := (Upd.refl [] w3).drew.trans hU4; have e4 := (HU4.out.cell lb3 (by simp) 0).trans e3; have lb4 := Nat.lt_of_lt_of_le lb3 HU4.out.size; clear hE4 hU4)
              | (refine step_app2 _ (by rfl) _ _ _ (by rfl) 124 i0 _ 1 8 underlyingFlows hi0 hz0 hz1 hz2 rfl (by omega) ao1 k cap1 ((Z.take k).flatMap (fun e => [entV e])) (by rfl) (HR1.out.upd (HU4.out.alloc (.cells #[.pointer (some ⟨w3.heap.size, 0, none⟩)] 124)) (by simp)) (some ⟨w4.heap.size, 0, none⟩) 1 1 [.pointer (some ⟨w3.heap.size, 0, none⟩)] (by rfl) (one_src w4 124 [.pointer (some ⟨w3.heap.size, 0, none⟩)] (by simp [Value.oneCell']) 1 rfl) (by unfold maxLen; omega) (by omega) ?_; intro ao5 cap5 w5 hA5; have HU5 : Hid (Upd [] w w5) := HU3.out.then ((HU4.out.alloc _).nil.trans hA5.upd) (fun _ _ h => h) (fun i hi hm => by have := HN1.out i hm; omega); have e5 := (HU5.out.cell lb (by simp) 0).trans c0; have lb5 := Nat.lt_of_lt_of_le lb HU5.out.size; have hnb1 : w3.heap.size ∉ blkO ao1 := (fun e => by have := HR1.out.lt _ e; omega); have HE5 : Hid (EntAt w5 ⟨w3.heap.size, flNew id r most, none, 0⟩) := (HE4.out.upd ((Upd.refl [] w4).alloc _) (by simp)).upd hA5.upd (fun c hc e => by simp only [entB, blkO, List.mem_cons, List.not_mem_nil, or_false] at hc; rw [hc] at e; exact hnb1 e); have HD5 : Hid (w3.heap.size ∉ blkO ao5) := (fun e => by rcases hA5.at_ _ e with h | h; (exact hnb1 h); (have := HE4.out.blk.lt; simp at h this; omega)); have HA5 := Lib.hid hA5; clear hA5 hnb1)
              | (refine step_app2 _ (by rfl) _ _ _ (by rfl) 124 i0 _ 1 8 underlyingFlows hi0 hz0 hz1 hz2 rfl (by omega) ao5 (k + 1) cap5 _ (by rfl) HA5.out.row (some ⟨g, k, none⟩) (n - k) _ (((Z.drop k).take (n - k)).flatMap (fun e => [entV e])) (by rfl) (HSRC.out _ k (n - k) k HU5.out (by omega) (by left; omega)) (by unfold maxLen; omega) (by omega) ?_; intro ao6 cap6 w6 hA6; have HA6 := Lib.hid hA6; have HU6 : Hid (Upd [] w w6) := HU5.out.then hA6.upd (fun _ _ h => h) (fun i hi hm => by rcases HA5.out.at_ i hm with h | h; (have := HN1.out i h; omega); (have := HU3.out.size; have := HU4.out.size; simp at h; omega)); have e6 := (HU6.out.cell lb (by simp) 0).trans c0; have z6 := (HU6.out.frozen lb (by simp) 0).trans z0; have lb6 := Nat.lt_of_lt_of_le lb HU6.out.size; have HE6 : Hid (EntAt w6 ⟨w3.heap.size, flNew id r most, none, 0⟩) := HE5.out.upd hA6.upd (fun c hc e => by simp only [entB, blkO, List.mem_cons, List.not_mem_nil, or_false] at hc; rw [hc] at e; exact HD5.out e); have HD6 : Hid (w3.heap.size ∉ blkO ao6) := (fun e => by rcases hA6.at_ _ e with h | h; (exact HD5.out h); (have := HE5.out.blk.lt; simp at this; omega)); have HN6 : Hid (∀ c ∈ blkO ao6, w.heap.size ≤ c) := (fun c hc => by rcases hA6.at_ c hc with h | h; (rcases HA5.out.at_ c h with h | h; (exact HN1.out c h); (have := HU3.out.size; have := HU4.out.size; simp at h; omega)); (have := HU5.out.size; omega)); clear hA6)
              | (refine step_app2 _ (by rfl) _ _ _ (by rfl) 124 i0 _ 1 8 underlyingFlows hi0 hz0 hz1 hz2 rfl (by omega) ao5 (k + 1) cap5 _ (by rfl) HA5.out.row (some ⟨g, 0, none⟩) (n - k) _ (((Z.drop k).take (n - k)).flatMap (fun e => [entV e])) (by rfl) (HSRC.out _ k (n - k) 0 HU5.out (by omega) (by right; omega)) (by unfold maxLen; omega) (by omega) ?_; intro ao6 cap6 w6 hA6; have HA6 := Lib.hid hA6; have HU6 : Hid (Upd [] w w6) := HU5.out.then hA6.upd (fun _ _ h => h) (fun i hi hm => by rcases HA5.out.at_ i hm with h | h; (have := HN1.out i h; omega); (have := HU3.out.size; have := HU4.out.size; simp at h; omega)); have e6 := (HU6.out.cell lb (by simp) 0).trans c0; have z6 := (HU6.out.frozen lb (by simp) 0).trans z0; have lb6 := Nat.lt_of_lt_of_le lb HU6.out.size; have HE6 : Hid (EntAt w6 ⟨w3.heap.size, flNew id r most, none, 0⟩) := HE5.out.upd hA6.upd (fun c hc e => by simp only [entB, blkO, List.mem_cons, List.not_mem_nil, or_false] at hc; rw [hc] at e; exact HD5.out e); have HD6 : Hid (w3.heap.size ∉ blkO ao6) := (fun e => by rcases hA6.at_ _ e with h | h; (exact HD5.out h); (have := HE5.out.blk.lt; simp at this; omega)); have HN6 : Hid (∀ c ∈ blkO ao6, w.heap.size ≤ c) := (fun c hc => by rcases hA6.at_ c hc with h | h; (rcases HA5.out.at_ c h with h | h; (exact HN1.out c h); (have := HU3.out.size; have := HU4.out.size; simp at h; omega)); (have := HU5.out.size; omega)); clear hA6))
            all_goals
              go_wp2
              go_ret
              refine ⟨rfl, add_end (k := k) HH.out HF.out HGE.out HPO.out (by rw [HNZ.out]; omega) HU6.out HE6.out HU3.out.size ?_ (by rw [HNZ.out]; omega) HN6.out HD6.out HLO.out HHI.out (by rw [HNZ.out]; omega) (Upd.refl [] _)⟩
              have hr := HA6.out.row
              rw [List.take_of_length_le (l := Z.drop k) (by rw [List.length_drop, HNZ.out]; omega)] at hr
              rw [entVs_map]
              unfold insZ
              rw [List.flatMap_append, List.flatMap_cons, ← List.append_assoc]
              exact hr
  · have HPO := Lib.hid hpos
    have HA : Hid (addSf S id r most = S) := by unfold Hid addSf; rw [hpos, if_neg (by omega)]
    have b0 : decide ((0 : Int) ≤ (i : Int)) = true := by simp
    have b1 : decide ((i : Int) < 0) = false := by simp
    rw [hpos, HA.out]
    clear h hr hpos hf hid
    go_enter Tryz.func111, Tryz.ntmps111
    go_wp2_with fail
    refine (HG.out.at_ id).mono ?_
    rintro en w2 ⟨rfl, rfl⟩
    rw [HPO.out]
    go_wp2
    go_ret
    exact ⟨by rw [b1]; rfl, SfTo.same HG.out (Upd.refl _ _)⟩
end Go.Proofs.YtfeobcmcellcpaaGreat

/-! Pa -/
namespace Go.Proofs.YtfeobcmcellcpaaGreat
open Go.RowKit

set_option maxRecDepth 100000 in
set_option maxHeartbeats 16000000 in
theorem SfG.remove {W w : World} {sb : Nat} {S : Sf} {G : List Nat} (h : SfG W sb S G w) (id : Int) :
    Calls Tryz.prog 75 #[.pointer (some ⟨sb, 0, none⟩), .int .i64 id] w (fun e w' => e = .returned (.int .i64 (delE S id)) ∧ SfTo W sb (delS S id) G w w') := by
  have HG := Lib.hid h
  rcases posF_cases S.F id with ⟨hpos, hno⟩ | ⟨i, f, hpos, hf, hid⟩
  · have HPO := Lib.hid hpos
    have HC : Hid (delE S id = 5 ∧ delS S id = S) := by
      have h1 : delE S id = 5 := by unfold delE; rw [hpos]; rfl
      exact ⟨h1, by unfold delS; rw [h1]; rfl⟩
    rw [HC.out.1, HC.out.2]
    clear h hpos hno
    go_enter Tryz.func75, Tryz.ntmps75
    go_wp2_with fail
    refine (HG.out.at_ id).mono ?_
    rintro en w2 ⟨rfl, rfl⟩
    rw [HPO.out]
    go_wp2
    go_ret
    exact ⟨rfl, SfTo.same HG.out (Upd.refl _ _)⟩
  · obtain ⟨ao, cap, Z, hz, hF, hGe⟩ := h
    obtain ⟨e, he, hef⟩ := map_at hF hf
    obtain ⟨g, hg, x0, lg, hE, hi⟩ := hz.at_ he
    subst hg
    obtain ⟨n, hn⟩ : ∃ n, Z.length = n := ⟨_, rfl⟩
    obtain ⟨c0, -, -, lb⟩ := hz.cells
    rw [hn] at c0 hi
    have hsm := hz.small
    rw [hn] at hsm
    obtain ⟨-, -, -, y3, -, -, ly⟩ := hE.cells
    obtain ⟨q, hq⟩ : ∃ q, e.f.L.length = q := ⟨_, rfl⟩
    rw [hq] at y3
    have hia : flAt S.F (posF S.F id) = e.f := by rw [hpos, hef]; exact flAt_get hf
    have b1 : (i : Int) < (n : Int) := by omega
    have b0 : decide ((i : Int) < 0) = false := by simp
    have HPO := Lib.hid hpos
    have HZ := Lib.hid hz
    have HF := Lib.hid hF
    have HGE := Lib.hid hGe
    have HN := Lib.hid hn
    by_cases hq0 : 0 < q
    · have HC : Hid (delE S id = 8 ∧ delS S id = S) := by
        have h1 : delE S id = 8 := by unfold delE; rw [hia, hpos, if_neg (by omega), hq, if_pos hq0]
        exact ⟨h1, by unfold delS; rw [h1]; rfl⟩
      rw [HC.out.1, HC.out.2]
      have t1 : decide (0 < q) = true := by simp [hq0]
      have t2 : decide ((0 : Int) < (q : Int)) = true := by simp [hq0]
      clear hpos hf hid hz hF hGe hn hE he hef hia hq hq0
      go_enter Tryz.func75, Tryz.ntmps75
      go_wp2_with fail
      refine (HG.out.at_ id).mono ?_
      rintro en w2 ⟨rfl, rfl⟩
      rw [HPO.out]
      go_wp2_with fail
      go_ret
      exact ⟨rfl, SfTo.same HG.out (Upd.refl _ _)⟩
    · have HC : Hid (delE S id = 0 ∧ delS S id = { S with F := S.F.eraseIdx i }) := by
        have h1 : delE S id = 0 := by unfold delE; rw [hia, hpos, if_neg (by omega), hq, if_neg hq0]
        exact ⟨h1, by unfold delS; rw [h1, hpos, Int.toNat_natCast]; rfl⟩
      rw [HC.out.1, HC.out.2]
      have t1 : decide (0 < q) = false := by simp; omega
      have t2 : decide ((0 : Int) < (q : Int)) = false := by simp; omega
      obtain ⟨i0, hi0, hz0, hz1, hz2⟩ := info_parts infoFlowP
      have hrow := hz.row
      rw [hn] at hrow
      have hcap := hrow.cap_le
      have HSRC : Hid (∀ w' a m off, Upd [] w w' → a + m ≤ n → (off = a * 1 ∨ m = 0) → Src w' 1 (some ⟨g, off, none⟩) m (((Z.drop a).take m).flatMap (fun e => [entV e]))) := fun w' a m off hu ha ho => by
        have h1 := hrow.upd hu (by simp)
        rw [entVs_map] at h1
        exact part_srcG (fun e => [entV e]) 1 entVs_len entVs_one h1 hn a m ha off ho
      have b2 : (i : Int) + 1 ≤ (n : Int) := by omega
      have b3 : (i : Int) ≤ (cap : Int) := by omega
      have b4 : i ≤ cap := by omega
      have b5 : i + 1 ≤ cap := by omega
      have b6 : i + 1 ≤ n := by omega
      obtain ⟨m, hm⟩ : ∃ m, n - (i + 1) = m := ⟨_, rfl⟩
      clear hpos hf hid hz hF hGe hn hE he hef hia hq hq0 hrow
      go_enter Tryz.func75, Tryz.ntmps75
      go_wp2_with fail
      refine (HG.out.at_ id).mono ?_
      rintro en w2 ⟨rfl, rfl⟩
      rw [HPO.out]
      go_upto_region 6 with (fail)
      have cw := c0
      have lbw := lb
      have zw := HZ.out.blk.free 0
      have HG1 : Hid (0 + i ≤ maxLen ∧ (0 + i) * 8 ≤ 140737488355328) := ⟨by unfold maxLen; omega, by omega⟩
      have HG2 : Hid (i + m ≤ maxLen ∧ (i + m) * 8 ≤ 140737488355328) := ⟨by unfold maxLen; omega, by omega⟩
      have HS0 := Lib.hid (HSRC.out w 0 i 0 (Upd.refl _ _) (by omega) (by left; rfl))
      go_upto_region 7 with (at_builtin; (refine wpList_app2 _ (by rfl) _ _ _ (by rfl) 124 i0 _ 1 8 underlyingFlows hi0 hz0 hz1 hz2 rfl (by omega) none 0 0 [] (by rfl) (RowO.nil _ _ _) (some ⟨g, 0, none⟩) i _ (((Z.drop 0).take i).flatMap (fun e => [entV e])) (by rfl) HS0.out HG1.out.1 HG1.out.2 ?_); (intro ao1 cap1 w5 hA1; have HA1 := Lib.hid hA1; clear hA1))
      have HU5 : Hid (Upd [] w w5) := HA1.out.upd
      have HR1 : Hid (RowO w5 124 1 ao1 i cap1 (((Z.drop 0).take i).flatMap (fun e => [entV e]))) := by have := HA1.out.row; rw [Nat.zero_add, List.nil_append] at this; exact this
      have HN1 : Hid (∀ c ∈ blkO ao1, w.heap.size ≤ c) := fun c hc => by rcases HA1.out.at_ c hc with h | h; (cases h); omega
      by_cases hce : cap = i + 1
      · have hm0 : m = 0 := by omega
        have t5 : (cap == i + 1) = true := by simp [hce]
        have t6 : cap - (i + 1) = 0 := by omega
        subst hm0
        have c0 := (HU5.out.cell lb (by simp) 0).trans c0
        have lb := Nat.lt_of_lt_of_le lb HU5.out.size
        have z0 := (HU5.out.frozen lbw (by simp) 0).trans zw
        have HS5 := Lib.hid (HSRC.out w5 (i + 1) 0 0 HU5.out (by omega) (by (right; rfl)))
        go_wp2_with (at_builtin; (refine wpList_app2 _ (by rfl) _ _ _ (by rfl) 124 i0 _ 1 8 underlyingFlows hi0 hz0 hz1 hz2 rfl (by omega) ao1 i cap1 (((Z.drop 0).take i).flatMap (fun e => [entV e])) (by rfl) HR1.out (some ⟨g, 0, none⟩) 0 _ (((Z.drop (i + 1)).take 0).flatMap (fun e => [entV e])) (by rfl) HS5.out HG2.out.1 HG2.out.2 ?_); (intro ao2 cap2 w6 hA2; have HA2 := Lib.hid hA2; have HU6 : Hid (Upd [] w w6) := HU5.out.then hA2.upd (fun _ _ h => h) (fun a ha hm => by have := HN1.out a hm; omega); have e6 := (HU6.out.cell lbw (by simp) 0).trans cw; have f6 := (HU6.out.frozen lbw (by simp) 0).trans zw; have l6 := Nat.lt_of_lt_of_le lbw HU6.out.size; clear hA2))
        go_ret
        have hrow6 : RowO w6 124 1 ao2 (i + 0) cap2 ((Z.eraseIdx i).map entV) := by
          have := HA2.out.row
          rw [← List.flatMap_append, ← entVs_map] at this
          rw [show (Z.eraseIdx i) = (Z.drop 0).take i ++ (Z.drop (i + 1)).take 0 by
            rw [List.drop_zero, List.take_of_length_le (l := Z.drop (i + 1)) (by rw [List.length_drop, HN.out]; omega)]
            exact List.eraseIdx_eq_take_drop_succ Z i]
          exact this
        obtain ⟨k1, k2⟩ := HZ.out.del (i := i) (by rw [HN.out]; omega) HU6.out hrow6 (by rw [HN.out]; omega) (fun c hc => by rcases HA2.out.at_ c hc with h | h; (exact HN1.out c h); (have := HU5.out.size; omega)) (Upd.refl [] _)
        refine ⟨rfl, _, ⟨_, _, _, k1, ?_, rfl⟩, by rw [HGE.out]; exact k2⟩
        rw [map_erase, HF.out]
      · have t5 : (cap == i + 1) = false := by simp [hce]
        have c0 := (HU5.out.cell lb (by simp) 0).trans c0
        have lb := Nat.lt_of_lt_of_le lb HU5.out.size
        have z0 := (HU5.out.frozen lbw (by simp) 0).trans zw
        have HS5 := Lib.hid (HSRC.out w5 (i + 1) m (i + 1) HU5.out (by omega) (by (left; simp)))
        go_wp2_with (at_builtin; (refine wpList_app2 _ (by rfl) _ _ _ (by rfl) 124 i0 _ 1 8 underlyingFlows hi0 hz0 hz1 hz2 rfl (by omega) ao1 i cap1 (((Z.drop 0).take i).flatMap (fun e => [entV e])) (by rfl) HR1.out (some ⟨g, (i + 1), none⟩) m _ (((Z.drop (i + 1)).take m).flatMap (fun e => [entV e])) (by rfl) HS5.out HG2.out.1 HG2.out.2 ?_); (intro ao2 cap2 w6 hA2; have HA2 := Lib.hid hA2; have HU6 : Hid (Upd [] w w6) := HU5.out.then hA2.upd (fun _ _ h => h) (fun a ha hm => by have := HN1.out a hm; omega); have e6 := (HU6.out.cell lbw (by simp) 0).trans cw; have f6 := (HU6.out.frozen lbw (by simp) 0).trans zw; have l6 := Nat.lt_of_lt_of_le lbw HU6.out.size; clear hA2))
        go_ret
        have hrow6 : RowO w6 124 1 ao2 (i + m) cap2 ((Z.eraseIdx i).map entV) := by
          have := HA2.out.row
          rw [← List.flatMap_append, ← entVs_map] at this
          rw [show (Z.eraseIdx i) = (Z.drop 0).take i ++ (Z.drop (i + 1)).take m by
            rw [List.drop_zero, List.take_of_length_le (l := Z.drop (i + 1)) (by rw [List.length_drop, HN.out]; omega)]
            exact List.eraseIdx_eq_take_drop_succ Z i]
          exact this
        obtain ⟨k1, k2⟩ := HZ.out.del (i := i) (by rw [HN.out]; omega) HU6.out hrow6 (by rw [HN.out]; omega) (fun c hc => by rcases HA2.out.at_ c hc with h | h; (exact HN1.out c h); (have := HU5.out.size; omega)) (Upd.refl [] _)
        refine ⟨rfl, _, ⟨_, _, _, k1, ?_, rfl⟩, by rw [HGE.out]; exact k2⟩
        rw [map_erase, HF.out]
end Go.Proofs.YtfeobcmcellcpaaGreat

/-! Pb -/
namespace Go.Proofs.YtfeobcmcellcpaaGreat
open Go.RowKit

structure DRaw (W w : World) (mb sb : Nat) (c : Cf) (n : Nat) (S : Sf) (GS : List Nat) : Prop where
  blk : Blk w mb 70 [.int .i64 c.sh, .int .i64 c.sl, .int .i64 c.wo, .int .i64 c.wd, .int .u64 c.unit, .pointer (some ⟨sb, 0, none⟩), .int .i64 n]
  s : SfG W sb S GS w
  far : mb ∉ GS
  new : W.heap.size ≤ mb
def DG (W : World) (mb : Nat) (c : Cf) (m : Ms) (G : List Nat) (w : World) : Prop := ∃ sb GS, DRaw W w mb sb c m.n m.S GS ∧ MOk c m ∧ G = mb :: GS
section
variable {W w w0 w1 w' : World} {mb sb n : Nat} {c : Cf} {m : Ms} {S S' : Sf} {GS GS' G : List Nat}
theorem DRaw.lt (h : DRaw W w mb sb c n S GS) : ∀ x ∈ mb :: GS, x < w.heap.size := by
  intro x hx
  rcases List.mem_cons.1 hx with rfl | hx
  · exact h.blk.lt
  · exact h.s.lt x hx
theorem DRaw.updS {T : List Nat} (h : DRaw W w mb sb c n S GS) (hu : Upd T w w') (hs : ∀ x ∈ mb :: GS, x ∉ T) : DRaw W w' mb sb c n S GS :=
  { h with
    blk := h.blk.upd hu (hs mb (by simp))
    s := h.s.updS hu (fun x hx => hs x (by simp [hx])) }
theorem DRaw.upd (h : DRaw W w mb sb c n S GS) (hu : Upd [] w w') : DRaw W w' mb sb c n S GS := h.updS hu (by simp)
theorem DRaw.cells (h : DRaw W w mb sb c n S GS) : w.cell? ⟨mb, 0, none⟩ = some (.int .i64 c.sh) ∧ w.cell? ⟨mb, 1, none⟩ = some (.int .i64 c.sl) ∧ w.cell? ⟨mb, 4, none⟩ = some (.int .u64 c.unit) ∧ w.cell? ⟨mb, 5, none⟩ = some (.pointer (some ⟨sb, 0, none⟩)) ∧ w.cell? ⟨mb, 6, none⟩ = some (.int .i64 n) ∧ mb < w.heap.size :=
  ⟨h.blk.cell (j := 0) rfl, h.blk.cell (j := 1) rfl, h.blk.cell (j := 4) rfl, h.blk.cell (j := 5) rfl, h.blk.cell (j := 6) rfl, h.blk.lt⟩
theorem DRaw.sto (h : DRaw W w mb sb c n S GS) (hT : SfTo W sb S' GS w w1) : ∃ GS', DRaw W w1 mb sb c n S' GS' ∧ Fr (mb :: GS) (mb :: GS') w w1 := by
  obtain ⟨GS', hP, hF⟩ := hT
  refine ⟨GS', { h with blk := h.blk.upd hF.2 h.far, s := hP, far := fun hc => ?_ }, fun x hx => ?_, hF.2.mono (fun i _ hi => by simp [hi])⟩
  · rcases hF.1 _ hc with k | k
    · exact h.far k
    · have := h.blk.lt; omega
  · rcases List.mem_cons.1 hx with rfl | hx
    · exact .inl (by simp)
    · exact (hF.1 x hx).imp (fun k => by simp [k]) id
theorem DRaw.num (h : DRaw W w mb sb c n S GS) (n' : Nat) : DRaw W (w.setCell ⟨mb, 6, none⟩ (.int .i64 n')) mb sb c n' S GS ∧ Fr (mb :: GS) (mb :: GS) w (w.setCell ⟨mb, 6, none⟩ (.int .i64 n')) := by
  have hu : Upd [mb] w (w.setCell ⟨mb, 6, none⟩ (.int .i64 n')) := (Upd.refl [mb] w).setCell (.inl (by simp)) _
  exact ⟨{ h with blk := h.blk.set 6 _, s := h.s.updS hu (fun x hx e => by simp only [List.mem_cons, List.not_mem_nil, or_false] at e; exact h.far (e ▸ hx)) }, fun x hx => .inl hx, hu.mono (fun i _ hi => by simp only [List.mem_cons, List.not_mem_nil, or_false] at hi; simp [hi])⟩
theorem DG.lt (h : DG W mb c m G w) : ∀ x ∈ G, x < w.heap.size := by obtain ⟨_, _, h, _, rfl⟩ := h; exact h.lt
theorem DG.updS {T : List Nat} (h : DG W mb c m G w) (hu : Upd T w w') (hs : ∀ x ∈ G, x ∉ T) : DG W mb c m G w' := by obtain ⟨sb, GS, h, h2, rfl⟩ := h; exact ⟨sb, GS, h.updS hu hs, h2, rfl⟩
theorem DG.upd (h : DG W mb c m G w) (hu : Upd [] w w') : DG W mb c m G w' := h.updS hu (by simp)
theorem DG.ok (h : DG W mb c m G w) : MOk c m := by obtain ⟨_, _, _, h, _⟩ := h; exact h
def DTo (W : World) (mb : Nat) (c : Cf) (r : Rt × Ms) (G : List Nat) (w : World) (e : Ending) (w' : World) : Prop := ∃ v G', e = .returned v ∧ DG W mb c r.2 G' w' ∧ Fr G G' w w' ∧ RtN w w' G' v r.1
theorem DRaw.done {w2 w4 w5 : World} {n b4 : Nat} {m' : Ms} (h0 : DRaw W w mb sb c n S GS) (hU2 : Upd [] w w2) (hfr : Fr (mb :: GS) (mb :: GS') w2 w4) (h4 : DRaw W w4 mb sb c m'.n m'.S GS') (ok : MOk c m')
    (hb1 : w.heap.size ≤ b4) (hb2 : b4 < w2.heap.size) (hu : Upd [b4] w4 w5) : DG W mb c m' (mb :: GS') w5 ∧ Fr (mb :: GS) (mb :: GS') w w5 := by
  have hbn : ∀ x ∈ mb :: GS', x ∉ [b4] := fun x hx e => by
    simp only [List.mem_cons, List.not_mem_nil, or_false] at e
    subst e
    rcases hfr.1 x hx with k | k
    · have := h0.lt x k; omega
    · omega
  refine ⟨⟨sb, GS', h4.updS hu hbn, ok, rfl⟩, ((Fr.of hU2).trans hfr).thenT hu (fun x hx => ?_)⟩
  simp only [List.mem_cons, List.not_mem_nil, or_false] at hx
  exact .inr (by omega)
theorem DTo.keep (h : DG W mb c m G w) {T : List Nat} (hu : Upd T w w') (ht : ∀ x ∈ T, w.heap.size ≤ x) (e n : Int) (v : Nat) : DTo W mb c (⟨e, [], n, v⟩, m) G w (.returned (.agg #[.int .i64 e, .slice none 0 0, .int .i64 n, .int .u64 v])) w' :=
  ⟨_, G, rfl, h.updS hu (fun x hx hc => by have := ht x hc; have := h.lt x hx; omega), ⟨fun x hx => .inl hx, hu.then (Upd.refl [] w') (fun i hi hm => by have := ht i hm; omega) (fun i hi hm => by cases hm)⟩, RtN.none_ _ _ _ _ _ _⟩
end
set_option maxHeartbeats 400000 in
theorem dcode_any (e : Int) (w : World) : Calls Tryz.prog 73 #[.int .i64 e] w (RetUpd [] w (.agg #[.int .i64 e, .slice none 0 0, .int .i64 0, .int .u64 0])) := by
  go_enter Tryz.func73, Tryz.ntmps73
  go_wp2_with fail
  refine bodyPost_ret (v := .agg #[.int .i64 e, .slice none 0 0, .int .i64 0, .int .u64 0]) (by simp [results, Tryz.results73, go_sem]) rfl ?_
  exact ⟨rfl, by
    first
    | exact (Upd.refl [] w).alloc _
    | exact ((((((Upd.refl [] w).alloc _).setCell (.inr (by simp)) _).setCell (.inr (by simp)) _).setCell (.inr (by simp)) _).setCell (.inr (by simp)) _)⟩

set_option maxRecDepth 100000 in
set_option maxHeartbeats 16000000 in
theorem done_any {W w : World} {mb : Nat} {c : Cf} {m : Ms} {G : List Nat} (h : DG W mb c m G w) (hn : m.n ≤ 9223372036854775806) : Calls Tryz.prog 77 #[.pointer (some ⟨mb, 0, none⟩)] w (DTo W mb c (oneM m) G w) := by
  have HM := Lib.hid h
  obtain ⟨sb, GS, h, hok, hGe⟩ := h
  have hu2 : Upd [] w (w.alloc (.cells #[.int .i64 0, .slice none 0 0, .int .i64 0, .int .u64 0] 57)) := (Upd.refl [] w).alloc _
  have hb2 := Blk.new w 57 [.int .i64 0, .slice none 0 0, .int .i64 0, .int .u64 0]
  obtain ⟨w2, hw2⟩ : ∃ y, w.alloc (.cells #[.int .i64 0, .slice none 0 0, .int .i64 0, .int .u64 0] 57) = y := ⟨_, rfl⟩
  obtain ⟨b4, hb4⟩ : ∃ y, w.heap.size = y := ⟨_, rfl⟩
  rw [hw2] at hu2 hb2
  rw [hb4] at hb2
  have HU2 := Lib.hid hu2
  have HB2 := Lib.hid hb2
  have HB4E := Lib.hid hb4
  have HGE := Lib.hid hGe
  have HOK0 := Lib.hid hok
  have H0 := Lib.hid h
  clear hGe hb2
  have hraw := h.upd hu2
  obtain ⟨-, -, -, c5, -, lm⟩ := hraw.cells
  have HSRV := Lib.hid (hraw.s.serve)
  have HRAW := Lib.hid hraw
  have hn4 : b4 ∉ mb :: GS := fun hm => by have := H0.out.lt b4 hm; omega
  clear h hraw hu2 hok
  rcases serv_cases m.S with ⟨hsp, hbe⟩ | ⟨bb, f, p, l, hbe, hfb, hL, hsp⟩
  · have HE : Hid (oneM m = (rtE 10, { m with S := servS m.S })) := by unfold Hid oneM; rw [hsp]
    have hv := servV_no hbe
    rw [hv.1] at HSRV
    have HS : Hid ((servS m.S).F = m.S.F) := by unfold Hid; rw [hv.2]
    clear hsp hbe hv
    go_enter Tryz.func77, Tryz.ntmps77
    go_wp2_with fail
    refine HSRV.out.mono ?_
    rintro e w3 ⟨rfl, hT⟩
    obtain ⟨GS', hr3, hf3⟩ := HRAW.out.sto hT
    have HR3 := Lib.hid hr3
    have HF3 := Lib.hid hf3
    have hb4' := HB2.out.upd hf3.2 hn4
    have HB4 := Lib.hid (hb4'.alloc (.cells #[.int .i64 0, .int .i64 0, .int .i64 0] 54))
    clear hT hr3 hf3 hb4' c5 lm
    go_wp2_with fail
    refine (dcode_any _ _).mono ?_
    rintro e9 w9 ⟨rfl, hu9⟩
    have hr9 := HB4.out.upd hu9 (by simp)
    have q0 := hr9.cell (j := 0) rfl
    have q1 := hr9.cell (j := 1) rfl
    have q2 := hr9.cell (j := 2) rfl
    have q3 := hr9.cell (j := 3) rfl
    have f0 := hr9.free 0
    have f1 := hr9.free 1
    have f2 := hr9.free 2
    have f3 := hr9.free 3
    have l9 := hr9.lt
    have HU9 := Lib.hid hu9
    clear hr9 hu9
    go_wp2_with fail
    refine bodyPost_ret (v := .agg #[.int .i64 10, .slice none 0 0, .int .i64 0, .int .u64 0]) (by simp [results, Tryz.results77, go_sem, q0, q1, q2, q3]) rfl ?_
    have hu5 : Upd [b4] w9 _ := (((((Upd.refl [b4] w9).setCell (p := ⟨b4, 0, none⟩) (.inl (by simp)) (.int .i64 10)).setCell (p := ⟨b4, 1, none⟩) (.inl (by simp)) (.slice none 0 0)).setCell (p := ⟨b4, 2, none⟩) (.inl (by simp)) (.int .i64 0)).setCell (p := ⟨b4, 3, none⟩) (.inl (by simp)) (.int .u64 0))
    have hr := (HR3.out.upd ((Upd.refl [] w3).alloc (.cells #[.int .i64 0, .int .i64 0, .int .i64 0] 54))).upd HU9.out
    obtain ⟨k1, k2⟩ := DRaw.done (m' := { m with S := servS m.S }) H0.out HU2.out ((HF3.out.up ((Upd.refl [] w3).alloc (.cells #[.int .i64 0, .int .i64 0, .int .i64 0] 54))).up HU9.out) hr (HOK0.out.ids_ (by rw [HS.out]) (by rw [HS.out]; exact HOK0.out.pk)) (b4 := b4) (Nat.le_of_eq HB4E.out) HB2.out.lt hu5
    rw [HE.out]
    exact ⟨_, _, rfl, k1, by rw [HGE.out]; exact k2, RtN.none_ _ _ _ _ _ _⟩
  · have HE : Hid (oneM m = (⟨0, [p], 0, 0⟩, ⟨servS m.S, m.n + 1⟩)) := by unfold Hid oneM; rw [hsp]
    have hv := servV_yes hbe hfb hL
    rw [hv.1] at HSRV
    have HFB := Lib.hid hfb
    have HS : Hid ((servS m.S).F = m.S.F.set bb (flTake f p)) := by unfold Hid; rw [hv.2]
    have HOK : Hid (MOk c ⟨servS m.S, m.n + 1⟩) := HOK0.out.ids_ (by rw [HS.out]; exact ids_setF hfb rfl) (by rw [HS.out]; exact pk_set HOK0.out.pk (fun q hq => HOK0.out.pk f (List.mem_of_getElem? hfb) q (List.mem_of_mem_tail hq)))
    clear hsp hbe hv hfb hL
    go_enter Tryz.func77, Tryz.ntmps77
    go_wp2_with fail
    refine HSRV.out.mono ?_
    rintro e w3 ⟨rfl, hT⟩
    obtain ⟨GS', hr3, hf3⟩ := HRAW.out.sto hT
    clear hT c5 lm
    go_upto_region 4 with (fail)
    obtain ⟨w4, hw4⟩ : ∃ y, w3.alloc (.cells #[.int .i64 p.flow, .int .i64 p.len, .int .i64 p.mark] 54) = y := ⟨_, rfl⟩
    obtain ⟨bp, hbp⟩ : ∃ y, w3.heap.size = y := ⟨_, rfl⟩
    have hu4 : Upd [] w3 w4 := by rw [← hw4]; exact (Upd.refl [] w3).alloc _
    have hp4 : Blk w4 bp 54 (pkVs p) := by rw [← hw4, ← hbp]; exact Blk.new w3 54 (pkVs p)
    have hr4 := hr3.upd hu4
    have hnp : bp ∉ mb :: GS' := fun hm => by have := hr3.lt bp hm; omega
    rw [hw4, hbp]
    obtain ⟨hr6, hf6⟩ := hr4.num (m.n + 1)
    have HR6 := Lib.hid hr6
    have HF6 : Hid (Fr (mb :: GS) (mb :: GS') w2 (w4.setCell ⟨mb, 6, none⟩ (.int .i64 ((m.n + 1 : Nat) : Int)))) := (hf3.up hu4).trans hf6
    have HB6 : Hid (Blk (w4.setCell ⟨mb, 6, none⟩ (.int .i64 ((m.n + 1 : Nat) : Int))) b4 57 [.int .i64 0, .slice none 0 0, .int .i64 0, .int .u64 0]) := HB2.out.upd HF6.out.2 hn4
    have HP6 : Hid (Blk (w4.setCell ⟨mb, 6, none⟩ (.int .i64 ((m.n + 1 : Nat) : Int))) bp 54 (pkVs p)) := hp4.upd hf6.2 hnp
    obtain ⟨-, -, -, -, g7, lg⟩ := hr4.cells
    have z7 := hr4.blk.free 6
    clear hw4 hu4 hr4 hnp hr6 hf6 hp4 hr3 hf3
    go_upto_region 5 with (fail)
    obtain ⟨w6, hw6⟩ : ∃ y, w4.setCell ⟨mb, 6, none⟩ (.int .i64 ((m.n : Int) + 1)) = y := ⟨_, rfl⟩
    have e6 : w4.setCell ⟨mb, 6, none⟩ (.int .i64 ((m.n + 1 : Nat) : Int)) = w6 := by rw [show ((m.n + 1 : Nat) : Int) = (m.n : Int) + 1 by omega]; exact hw6
    rw [e6] at HR6 HF6 HB6 HP6
    rw [hw6]
    clear hw6 e6 g7 lg z7
    have v0 := HP6.out.cell (j := 0) rfl
    have v1 := HP6.out.cell (j := 1) rfl
    have v2 := HP6.out.cell (j := 2) rfl
    have lv := HP6.out.lt
    have q0 := HB6.out.cell (j := 0) rfl
    have q1 := HB6.out.cell (j := 1) rfl
    have q2 := HB6.out.cell (j := 2) rfl
    have q3 := HB6.out.cell (j := 3) rfl
    have f0 := HB6.out.free 0
    have f1 := HB6.out.free 1
    have f2 := HB6.out.free 2
    have f3 := HB6.out.free 3
    have l9 := HB6.out.lt
    go_wp2_with fail
    refine bodyPost_ret (v := .agg #[.int .i64 0, .slice (some ⟨w6.heap.size, 0, none⟩) 1 1, .int .i64 0, .int .u64 0]) (by simp [results, Tryz.results77, go_sem, q0, q1, q2, q3, l9]) rfl ?_
    obtain ⟨wq, hwq⟩ : ∃ y, (((w6.setCell ⟨b4, 0, none⟩ (.int .i64 0)).setCell ⟨b4, 1, none⟩ (.slice (some ⟨w6.heap.size, 0, none⟩) 1 1)).setCell ⟨b4, 2, none⟩ (.int .i64 0)).setCell ⟨b4, 3, none⟩ (.int .u64 0) = y := ⟨_, rfl⟩
    have hsz : wq.heap.size = w6.heap.size := by rw [← hwq]; simp
    have huq : Upd [b4] w6 wq := by rw [← hwq]; exact (((((Upd.refl [b4] w6).setCell (.inl (by simp)) _).setCell (.inl (by simp)) _).setCell (.inl (by simp)) _).setCell (.inl (by simp)) _)
    rw [hwq]
    have hbs := Blk.new wq 54 (pkVs p)
    obtain ⟨bs, hbse⟩ : ∃ y, w6.heap.size = y := ⟨_, rfl⟩
    rw [hsz, hbse] at hbs
    rw [hbse]
    have hu5 : Upd [b4] w6 (wq.alloc (.cells #[.int .i64 p.flow, .int .i64 p.len, .int .i64 p.mark] 54)) := huq.alloc _
    obtain ⟨k1, k2⟩ := DRaw.done (m' := ⟨servS m.S, m.n + 1⟩) H0.out HU2.out HF6.out HR6.out HOK.out (b4 := b4) (Nat.le_of_eq HB4E.out) HB2.out.lt hu5
    rw [HE.out]
    refine ⟨_, _, rfl, k1, by rw [HGE.out]; exact k2, some ⟨bs, 0, none⟩, 1, rfl, ?_, fun x hx => ?_⟩
    · have hrow : Row (wq.alloc (.cells #[.int .i64 p.flow, .int .i64 p.len, .int .i64 p.mark] 54)) 54 3 bs 1 1 (pkVs p) := Row.mk' (cur := #[.int .i64 p.flow, .int .i64 p.len, .int .i64 p.mark]) rfl hbs (Nat.le_refl _) (by unfold maxLen; omega) rfl rfl
      simpa using hrow.o
    · simp only [blkO, List.mem_cons, List.not_mem_nil, or_false] at hx
      subst hx
      have hs := HF6.out.2.size
      have hs2 := HU2.out.size
      exact ⟨by omega, fun hm => by have := HR6.out.lt x hm; omega⟩
end Go.Proofs.YtfeobcmcellcpaaGreat
