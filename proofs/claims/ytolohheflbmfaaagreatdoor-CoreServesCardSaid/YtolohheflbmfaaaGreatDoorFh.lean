/-
  The walk of the document's Sfq's Add. No condition.
-/
import Derived.Test.YtolohheflbmfaaaGreatDoorFg
set_option linter.unusedVariables false
set_option linter.unusedSimpArgs false
namespace Go.Proofs.YtolohheflbmfaaaGreatDoor
open Go.RowKit

def SfAddAt (Z : List Ent) (id : Int) (w : World) (kv : Value) (wr : World) : Prop := ∃ k : Nat, kv = .int .i64 k ∧ k ≤ Z.length ∧ (∀ j x, j < k → Z[j]? = some x → x.f.id < id) ∧ w = wr
theorem take_all {Z : List Ent} {P : Ent → Prop} {k : Nat} (h : ∀ j x, j < k → Z[j]? = some x → P x) : ∀ x ∈ Z.take k, P x := by
  intro x hx
  obtain ⟨j, hj, e⟩ := List.getElem_of_mem hx
  rw [List.length_take] at hj
  rw [List.getElem_take] at e
  exact h j x (by omega) (by rw [List.getElem?_eq_getElem (by omega), e])
theorem drop_all {Z : List Ent} {k : Nat} {id : Int} (hs : Z.Pairwise (fun a b => a.f.id < b.f.id)) (h : ∀ x, Z[k]? = some x → id < x.f.id) : ∀ x ∈ Z.drop k, id < x.f.id := by
  intro x hx
  obtain ⟨j, hj, e⟩ := List.getElem_of_mem hx
  rw [List.length_drop] at hj
  rw [List.getElem_drop] at e
  have h0 := h (Z[k]'(by omega)) (List.getElem?_eq_getElem _)
  by_cases e0 : j = 0
  · subst e0; rw [← e]; exact h0
  · have := List.pairwise_iff_getElem.1 hs k (k + j) (by omega) (by omega) (by omega)
    rw [e] at this
    omega
theorem add_end {W w w6 w7 : World} {sb : Nat} {S : Sf} {G : List Nat} {ao : Option Addr} {cap : Nat} {Z : List Ent} {k n' : Nat} {nb : Nat} {id : Int} {r : Nat} {most : Int} {ao' : Option Addr} {cap' : Nat} (h : SfAt W w sb ao cap Z S.v S.most) (hF : Z.map (·.f) = S.F) (hG : G = sfB sb ao Z) (hpos : posF S.F id = -1) (hk : k ≤ Z.length) (hU : Upd [] w w6)
    (hE : EntAt w6 ⟨nb, flNew id r most, none, 0⟩) (hnb : w.heap.size ≤ nb) (hrow : RowO w6 99 1 ao' n' cap' ((insZ Z k ⟨nb, flNew id r most, none, 0⟩).map entV)) (hn : n' = Z.length + 1) (hao : ∀ c ∈ blkO ao', w.heap.size ≤ c) (hdis : nb ∉ blkO ao')
    (hlo : ∀ x ∈ Z.take k, x.f.id < id) (hhi : ∀ x ∈ Z.drop k, id < x.f.id) (hsm : Z.length < 1000) (h7 : Upd [] (w6.setCell ⟨sb, 0, none⟩ (.slice ao' n' cap')) w7) : SfTo W sb (addSf S id r most) G w w7 := by
  have hp := h.ins (e := ⟨nb, flNew id r most, none, 0⟩) hk hU hE (fun c hc => by simp only [entB, blkO, List.mem_cons, List.not_mem_nil, or_false] at hc; omega) hrow hn hao (fun c hc => by simp only [entB, blkO, List.mem_cons, List.not_mem_nil, or_false] at hc; subst hc; exact hdis) hlo hhi hsm h7
  have ha : addSf S id r most = { S with F := insF S.F (flNew id r most) } := by unfold addSf; rw [hpos, if_pos (by omega)]
  rw [ha, hG]
  refine ⟨_, ⟨ao', cap', _, hp.1, ?_, rfl⟩, hp.2⟩
  show (insZ Z k _).map (·.f) = insF S.F (flNew id r most)
  rw [← hF, insF_at (k := k) (fun x hx => by rw [← List.map_take] at hx; obtain ⟨y, hy, rfl⟩ := List.mem_map.1 hx; exact hlo y hy) (fun x hx => by rw [← List.map_drop] at hx; obtain ⟨y, hy, rfl⟩ := List.mem_map.1 hx; exact hhi y hy)]
  unfold insZ
  rw [List.map_append, List.map_cons, List.map_take, List.map_drop]

set_option maxRecDepth 100000 in
set_option maxHeartbeats 32000000 in
theorem SfG.add {W w : World} {sb : Nat} {S : Sf} {G : List Nat} (h : SfG W sb S G w) (id : Int) (r : Nat) (hr : r < 18446744073709551616) (most : Int) (hsm : S.F.length < 1000) :
    Calls Tryz.prog 25 #[.pointer (some ⟨sb, 0, none⟩), .int .i64 id, .int .u64 r, .int .i64 most] w (fun e w' => e = .returned (.bool (decide (posF S.F id < 0))) ∧ SfTo W sb (addSf S id r most) G w w') := by
  have HG := Lib.hid h
  rcases posF_cases S.F id with ⟨hpos, hno⟩ | ⟨i, f, hpos, hf, hid⟩
  · have HPO := Lib.hid hpos
    obtain ⟨ao, cap, Z, hz, hF, hGe⟩ := h
    have hZF : Z.length = S.F.length := by rw [← hF, List.length_map]
    obtain ⟨n, hn⟩ : ∃ n, Z.length = n := ⟨_, rfl⟩
    have HNZ := Lib.hid hn
    have hn1000 : n < 1000 := by omega
    obtain ⟨i0, hi0, hz0, hz1, hz2⟩ := info_parts infoFlowP
    have HH := Lib.hid hz
    have HF := Lib.hid hF
    have HGE := Lib.hid hGe
    have HR := Lib.hid hr
    have hno2 : Hid (∀ x ∈ Z, x.f.id ≠ id) := fun x hx => hno x.f (by rw [← hF]; exact List.mem_map_of_mem hx)
    obtain ⟨c0, -, -, lb⟩ := hz.cells
    rw [hn] at c0
    have z0 := hz.blk.free 0
    have hrow := hz.row
    rw [hn] at hrow
    rw [hpos]
    rcases hrow.cases with ⟨rfl, rfl, rfl, -⟩ | ⟨g, rfl, hrg⟩
    · clear hpos hno hz hF hGe hr hrow hZF hn hsm
      have hZ0 : Z = [] := List.eq_nil_of_length_eq_zero HNZ.out
      subst hZ0
      go_enter Tryz.func25, Tryz.ntmps25
      go_wp2_with fail
      refine (HG.out.at_ id).mono ?_
      rintro en w2 ⟨rfl, rfl⟩
      rw [HPO.out]
      go_wp2_with fail
      go_loopw [9] (fun kv wr => SfAddAt [] id w kv wr) (fun kv _ => 0 - (intOf kv).toNat)
      case atStart => exact ⟨0, rfl, Nat.zero_le _, fun j x hj => by omega, rfl⟩
      case round =>
        obtain ⟨k, rfl, hk, -, rfl⟩ := hrel
        obtain rfl : k = 0 := by simpa using hk
        go_wp2_with fail
        go_region_law
          (first
          | (go_simp; go_at_call 44; refine (flnew_any id r HR.out most _).mono ?_; rintro en w4 ⟨rfl, hE4, hU4⟩; have HE4 := Lib.hid hE4; have HU4 : Hid (Upd [] w w4) := (Upd.refl [] w).drew.trans hU4; have e4 := (HU4.out.cell lb (by simp) 0).trans c0; have lb4 := Nat.lt_of_lt_of_le lb HU4.out.size; clear hE4 hU4)
          | (refine step_app2 _ (by rfl) _ _ _ (by rfl) 99 i0 _ 1 8 underlyingFlows hi0 hz0 hz1 hz2 rfl (by omega) none 0 0 [] (by rfl) (RowO.nil _ _ _) (some ⟨w4.heap.size, 0, none⟩) 1 1 [.pointer (some ⟨w.heap.size, 0, none⟩)] (by rfl) (one_src w4 99 [.pointer (some ⟨w.heap.size, 0, none⟩)] (by simp [Value.oneCell']) 1 rfl) (by unfold maxLen; omega) (by omega) ?_; intro ao5 cap5 w5 hA5; have HU5 : Hid (Upd [] w w5) := (HU4.out.alloc _).trans hA5.upd; have e5 := (HU5.out.cell lb (by simp) 0).trans c0; have lb5 := Nat.lt_of_lt_of_le lb HU5.out.size; have HE5 : Hid (EntAt w5 ⟨w.heap.size, flNew id r most, none, 0⟩) := (HE4.out.upd ((Upd.refl [] w4).alloc _) (by simp)).upd hA5.upd (by simp [blkO]); have HD5 : Hid (w.heap.size ∉ blkO ao5) := (fun e => by rcases hA5.at_ _ e with h | h; (cases h); (have := HE4.out.blk.lt; simp at h this; omega)); have HA5 := Lib.hid hA5; clear hA5)
          | (refine step_app2 _ (by rfl) _ _ _ (by rfl) 99 i0 _ 1 8 underlyingFlows hi0 hz0 hz1 hz2 rfl (by omega) ao5 1 cap5 _ (by rfl) HA5.out.row none 0 0 [] (by rfl) ⟨rfl, by simp, .inl ⟨rfl, rfl⟩⟩ (by unfold maxLen; omega) (by omega) ?_; intro ao6 cap6 w6 hA6; have HA6 := Lib.hid hA6; have HU6 : Hid (Upd [] w w6) := HU5.out.then hA6.upd (fun _ _ h => h) (fun i hi hm => by rcases HA5.out.at_ i hm with h | h; (cases h); (have := HU4.out.size; simp at h; omega)); have e6 := (HU6.out.cell lb (by simp) 0).trans c0; have z6 := (HU6.out.frozen lb (by simp) 0).trans z0; have lb6 := Nat.lt_of_lt_of_le lb HU6.out.size; have HE6 : Hid (EntAt w6 ⟨w.heap.size, flNew id r most, none, 0⟩) := HE5.out.upd hA6.upd (fun c hc e => by simp only [entB, blkO, List.mem_cons, List.not_mem_nil, or_false] at hc; rw [hc] at e; exact HD5.out e); have HD6 : Hid (w.heap.size ∉ blkO ao6) := (fun e => by rcases hA6.at_ _ e with h | h; (exact HD5.out h); (have := HE5.out.blk.lt; simp at this; omega)); have HN6 : Hid (∀ c ∈ blkO ao6, w.heap.size ≤ c) := (fun c hc => by rcases hA6.at_ c hc with h | h; (rcases HA5.out.at_ c h with h | h; (cases h); (have := HU4.out.size; simp at h; omega)); (have := HU5.out.size; omega)); clear hA6))
        all_goals
          go_wp2
          go_ret
          refine ⟨rfl, add_end (k := 0) HH.out HF.out HGE.out HPO.out (Nat.zero_le _) HU6.out HE6.out (Nat.le_refl _) ?_ rfl HN6.out HD6.out (fun x hx => (by cases hx)) (fun x hx => (by cases hx)) (by simp) (Upd.refl [] _)⟩
          exact HA6.out.row
    · have hcap := hrow.cap_le.1
      have HSRC : Hid (∀ w' a m off, Upd [] w w' → a + m ≤ n → (off = a * 1 ∨ m = 0) → Src w' 1 (some ⟨g, off, none⟩) m (((Z.drop a).take m).flatMap (fun e => [entV e]))) := fun w' a m off hu ha ho => by
        have h1 := hrow.upd hu (by simp)
        rw [entVs_map] at h1
        exact part_srcG (fun e => [entV e]) 1 entVs_len entVs_one h1 hn a m ha off ho
      clear hpos hno hz hF hGe hr hrow hZF hn hrg hsm
      go_enter Tryz.func25, Tryz.ntmps25
      go_wp2_with fail
      refine (HG.out.at_ id).mono ?_
      rintro en w2 ⟨rfl, rfl⟩
      rw [HPO.out]
      go_wp2_with fail
      go_loopw [9] (fun kv wr => SfAddAt Z id w kv wr) (fun kv _ => n - (intOf kv).toNat)
      case atStart => exact ⟨0, rfl, Nat.zero_le _, fun j x hj => by omega, rfl⟩
      case round =>
        obtain ⟨k, rfl, hk, hj, rfl⟩ := hrel
        rw [HNZ.out] at hk
        have HJ := Lib.hid hj
        clear hj
        by_cases hlt : k < n
        · have t1 : decide (k < n) = true := by simp [hlt]
          have b1 : (k : Int) < (n : Int) := by omega
          obtain ⟨e, he⟩ : ∃ e, Z[k]? = some e := ⟨_, List.getElem?_eq_getElem (by rw [HNZ.out]; exact hlt)⟩
          obtain ⟨g', hg', x0, lg, hE, -⟩ := HH.out.at_ he
          cases hg'
          obtain ⟨y0, -, -, -, -, -, ly⟩ := hE.cells
          obtain ⟨y, hy⟩ : ∃ y, e.f.id = y := ⟨_, rfl⟩
          rw [hy] at y0
          have hnoy : y ≠ id := by rw [← hy]; exact hno2.out e (List.mem_of_getElem? he)
          have HY := Lib.hid hy
          have HEK := Lib.hid he
          clear hE he hy
          by_cases hyl : y < id
          · have t2 : decide (y < id) = true := by simp [hyl]
            have HYL := Lib.hid hyl
            have HLT := Lib.hid hlt
            clear hyl hnoy
            go_wp2
            exact ⟨⟨k + 1, by congr 1, by rw [HNZ.out]; exact HLT.out, fun j x hj2 hx => by
              rcases Nat.lt_or_ge j k with h | h
              · exact HJ.out j x h hx
              · have : j = k := by omega
                subst this
                rw [HEK.out] at hx
                cases hx
                rw [HY.out]; exact HYL.out, rfl⟩, by have := HLT.out; simp [intOf]; omega⟩
          · have t2 : decide (y < id) = false := by simp; omega
            have hyg : Hid (id < y) := by unfold Hid; omega
            clear hyl hnoy
            have hhi := drop_all (k := k) (id := id) HH.out.srt (fun x hx => by rw [HEK.out] at hx; cases hx; rw [HY.out]; exact hyg.out)
            have HHI : Hid (∀ x ∈ Z.drop k, id < x.f.id) := hhi
            clear hhi
            have HLO : Hid (∀ x ∈ Z.take k, x.f.id < id) := take_all HJ.out
            have b2 : k ≤ cap := by omega
            by_cases hce : cap = k
            all_goals (try (exfalso; omega))
            all_goals
              go_wp2_with (at_builtin; go_loud (refine wpList_app2 _ (by rfl) _ _ _ (by rfl) 99 i0 _ 1 8 underlyingFlows hi0 hz0 hz1 hz2 rfl (by omega) none 0 0 [] (by rfl) (RowO.nil _ _ _) (some ⟨g, 0, none⟩) k _ (((Z.drop 0).take k).flatMap (fun e => [entV e])) (by rfl) (HSRC.out _ 0 k 0 (Upd.refl [] w) (by omega) (by left; rfl)) (by unfold maxLen; omega) (by omega) ?_); go_loud (intro ao1 cap1 w3 hA1; have HU3 : Hid (Upd [] w w3) := hA1.upd; have HR1 : Hid (RowO w3 99 1 ao1 k cap1 ((Z.take k).flatMap (fun e => [entV e]))) := (by have := hA1.row; rw [Nat.zero_add, List.nil_append, List.drop_zero] at this; exact this); have HN1 : Hid (∀ c ∈ blkO ao1, w.heap.size ≤ c) := (fun c hc => by rcases hA1.at_ c hc with h | h; (cases h); omega); have e3 := (HU3.out.cell lb (by simp) 0).trans c0; have lb3 := Nat.lt_of_lt_of_le lb HU3.out.size; clear hA1))
              go_region_law
                (first
                | (go_simp; go_at_call 44; refine (flnew_any id r HR.out most _).mono ?_; rintro en w4 ⟨rfl, hE4, hU4⟩; have HE4 := Lib.hid hE4; have HU4 : Hid (Upd [] w3 w4) := (Upd.refl [] w3).drew.trans hU4; have e4 := (HU4.out.cell lb3 (by simp) 0).trans e3; have lb4 := Nat.lt_of_lt_of_le lb3 HU4.out.size; clear hE4 hU4)
                | (refine step_app2 _ (by rfl) _ _ _ (by rfl) 99 i0 _ 1 8 underlyingFlows hi0 hz0 hz1 hz2 rfl (by omega) ao1 k cap1 ((Z.take k).flatMap (fun e => [entV e])) (by rfl) (HR1.out.upd (HU4.out.alloc (.cells #[.pointer (some ⟨w3.heap.size, 0, none⟩)] 99)) (by simp)) (some ⟨w4.heap.size, 0, none⟩) 1 1 [.pointer (some ⟨w3.heap.size, 0, none⟩)] (by rfl) (one_src w4 99 [.pointer (some ⟨w3.heap.size, 0, none⟩)] (by simp [Value.oneCell']) 1 rfl) (by unfold maxLen; omega) (by omega) ?_; intro ao5 cap5 w5 hA5; have HU5 : Hid (Upd [] w w5) := HU3.out.then ((HU4.out.alloc _).nil.trans hA5.upd) (fun _ _ h => h) (fun i hi hm => by have := HN1.out i hm; omega); have e5 := (HU5.out.cell lb (by simp) 0).trans c0; have lb5 := Nat.lt_of_lt_of_le lb HU5.out.size; have hnb1 : w3.heap.size ∉ blkO ao1 := (fun e => by have := HR1.out.lt _ e; omega); have HE5 : Hid (EntAt w5 ⟨w3.heap.size, flNew id r most, none, 0⟩) := (HE4.out.upd ((Upd.refl [] w4).alloc _) (by simp)).upd hA5.upd (fun c hc e => by simp only [entB, blkO, List.mem_cons, List.not_mem_nil, or_false] at hc; rw [hc] at e; exact hnb1 e); have HD5 : Hid (w3.heap.size ∉ blkO ao5) := (fun e => by rcases hA5.at_ _ e with h | h; (exact hnb1 h); (have := HE4.out.blk.lt; simp at h this; omega)); have HA5 := Lib.hid hA5; clear hA5 hnb1)
                | (refine step_app2 _ (by rfl) _ _ _ (by rfl) 99 i0 _ 1 8 underlyingFlows hi0 hz0 hz1 hz2 rfl (by omega) ao5 (k + 1) cap5 _ (by rfl) HA5.out.row (some ⟨g, k, none⟩) (n - k) _ (((Z.drop k).take (n - k)).flatMap (fun e => [entV e])) (by rfl) (HSRC.out _ k (n - k) k HU5.out (by omega) (by left; omega)) (by unfold maxLen; omega) (by omega) ?_; intro ao6 cap6 w6 hA6; have HA6 := Lib.hid hA6; have HU6 : Hid (Upd [] w w6) := HU5.out.then hA6.upd (fun _ _ h => h) (fun i hi hm => by rcases HA5.out.at_ i hm with h | h; (have := HN1.out i h; omega); (have := HU3.out.size; have := HU4.out.size; simp at h; omega)); have e6 := (HU6.out.cell lb (by simp) 0).trans c0; have z6 := (HU6.out.frozen lb (by simp) 0).trans z0; have lb6 := Nat.lt_of_lt_of_le lb HU6.out.size; have HE6 : Hid (EntAt w6 ⟨w3.heap.size, flNew id r most, none, 0⟩) := HE5.out.upd hA6.upd (fun c hc e => by simp only [entB, blkO, List.mem_cons, List.not_mem_nil, or_false] at hc; rw [hc] at e; exact HD5.out e); have HD6 : Hid (w3.heap.size ∉ blkO ao6) := (fun e => by rcases hA6.at_ _ e with h | h; (exact HD5.out h); (have := HE5.out.blk.lt; simp at this; omega)); have HN6 : Hid (∀ c ∈ blkO ao6, w.heap.size ≤ c) := (fun c hc => by rcases hA6.at_ c hc with h | h; (rcases HA5.out.at_ c h with h | h; (exact HN1.out c h); (have := HU3.out.size; have := HU4.out.size; simp at h; omega)); (have := HU5.out.size; omega)); clear hA6)
                | (refine step_app2 _ (by rfl) _ _ _ (by rfl) 99 i0 _ 1 8 underlyingFlows hi0 hz0 hz1 hz2 rfl (by omega) ao5 (k + 1) cap5 _ (by rfl) HA5.out.row (some ⟨g, 0, none⟩) (n - k) _ (((Z.drop k).take (n - k)).flatMap (fun e => [entV e])) (by rfl) (HSRC.out _ k (n - k) 0 HU5.out (by omega) (by right; omega)) (by unfold maxLen; omega) (by omega) ?_; intro ao6 cap6 w6 hA6; have HA6 := Lib.hid hA6; have HU6 : Hid (Upd [] w w6) := HU5.out.then hA6.upd (fun _ _ h => h) (fun i hi hm => by rcases HA5.out.at_ i hm with h | h; (have := HN1.out i h; omega); (have := HU3.out.size; have := HU4.out.size; simp at h; omega)); have e6 := (HU6.out.cell lb (by simp) 0).trans c0; have z6 := (HU6.out.frozen lb (by simp) 0).trans z0; have lb6 := Nat.lt_of_lt_of_le lb HU6.out.size; have HE6 : Hid (EntAt w6 ⟨w3.heap.size, flNew id r most, none, 0⟩) := HE5.out.upd hA6.upd (fun c hc e => by simp only [entB, blkO, List.mem_cons, List.not_mem_nil, or_false] at hc; rw [hc] at e; exact HD5.out e); have HD6 : Hid (w3.heap.size ∉ blkO ao6) := (fun e => by rcases hA6.at_ _ e with h | h; (exact HD5.out h); (have := HE5.out.blk.lt; simp at this; omega)); have HN6 : Hid (∀ c ∈ blkO ao6, w.heap.size ≤ c) := (fun c hc => by rcases hA6.at_ c hc with h | h; (rcases HA5.out.at_ c h with h | h; (exact HN1.out c h); (have := HU3.out.size; have := HU4.out.size; simp at h; omega)); (have := HU5.out.size; omega)); clear hA6))
              all_goals
                go_wp2
                go_ret
                refine ⟨rfl, add_end (k := k) HH.out HF.out HGE.out HPO.out (by rw [HNZ.out]; omega) HU6.out HE6.out HU3.out.size ?_ (by rw [HNZ.out]; omega) HN6.out HD6.out HLO.out HHI.out (by rw [HNZ.out]; omega) (Upd.refl [] _)⟩
                have hr := HA6.out.row
                rw [List.take_of_length_le (l := Z.drop k) (by rw [List.length_drop, HNZ.out]; omega)] at hr
                rw [entVs_map]
                unfold insZ
                rw [List.flatMap_append, List.flatMap_cons, ← List.append_assoc]
                exact hr
        · have t1 : decide (k < n) = false := by simp; omega
          have hhi : ∀ x ∈ Z.drop k, id < x.f.id := fun x hx => by rw [List.drop_eq_nil_of_le (by rw [HNZ.out]; omega)] at hx; cases hx
          have HHI : Hid (∀ x ∈ Z.drop k, id < x.f.id) := hhi
          clear hhi
          have HLO : Hid (∀ x ∈ Z.take k, x.f.id < id) := take_all HJ.out
          have b2 : k ≤ cap := by omega
          by_cases hce : cap = k
          all_goals (try (exfalso; omega))
          all_goals
            go_wp2_with (at_builtin; go_loud (refine wpList_app2 _ (by rfl) _ _ _ (by rfl) 99 i0 _ 1 8 underlyingFlows hi0 hz0 hz1 hz2 rfl (by omega) none 0 0 [] (by rfl) (RowO.nil _ _ _) (some ⟨g, 0, none⟩) k _ (((Z.drop 0).take k).flatMap (fun e => [entV e])) (by rfl) (HSRC.out _ 0 k 0 (Upd.refl [] w) (by omega) (by left; rfl)) (by unfold maxLen; omega) (by omega) ?_); go_loud (intro ao1 cap1 w3 hA1; have HU3 : Hid (Upd [] w w3) := hA1.upd; have HR1 : Hid (RowO w3 99 1 ao1 k cap1 ((Z.take k).flatMap (fun e => [entV e]))) := (by have := hA1.row; rw [Nat.zero_add, List.nil_append, List.drop_zero] at this; exact this); have HN1 : Hid (∀ c ∈ blkO ao1, w.heap.size ≤ c) := (fun c hc => by rcases hA1.at_ c hc with h | h; (cases h); omega); have e3 := (HU3.out.cell lb (by simp) 0).trans c0; have lb3 := Nat.lt_of_lt_of_le lb HU3.out.size; clear hA1))
            go_region_law
              (first
              | (go_simp; go_at_call 44; refine (flnew_any id r HR.out most _).mono ?_; rintro en w4 ⟨rfl, hE4, hU4⟩; have HE4 := Lib.hid hE4; have HU4 : Hid (Upd [] w3 w4) := (Upd.refl [] w3).drew.trans hU4; have e4 := (HU4.out.cell lb3 (by simp) 0).trans e3; have lb4 := Nat.lt_of_lt_of_le lb3 HU4.out.size; clear hE4 hU4)
              | (refine step_app2 _ (by rfl) _ _ _ (by rfl) 99 i0 _ 1 8 underlyingFlows hi0 hz0 hz1 hz2 rfl (by omega) ao1 k cap1 ((Z.take k).flatMap (fun e => [entV e])) (by rfl) (HR1.out.upd (HU4.out.alloc (.cells #[.pointer (some ⟨w3.heap.size, 0, none⟩)] 99)) (by simp)) (some ⟨w4.heap.size, 0, none⟩) 1 1 [.pointer (some ⟨w3.heap.size, 0, none⟩)] (by rfl) (one_src w4 99 [.pointer (some ⟨w3.heap.size, 0, none⟩)] (by simp [Value.oneCell']) 1 rfl) (by unfold maxLen; omega) (by omega) ?_; intro ao5 cap5 w5 hA5; have HU5 : Hid (Upd [] w w5) := HU3.out.then ((HU4.out.alloc _).nil.trans hA5.upd) (fun _ _ h => h) (fun i hi hm => by have := HN1.out i hm; omega); have e5 := (HU5.out.cell lb (by simp) 0).trans c0; have lb5 := Nat.lt_of_lt_of_le lb HU5.out.size; have hnb1 : w3.heap.size ∉ blkO ao1 := (fun e => by have := HR1.out.lt _ e; omega); have HE5 : Hid (EntAt w5 ⟨w3.heap.size, flNew id r most, none, 0⟩) := (HE4.out.upd ((Upd.refl [] w4).alloc _) (by simp)).upd hA5.upd (fun c hc e => by simp only [entB, blkO, List.mem_cons, List.not_mem_nil, or_false] at hc; rw [hc] at e; exact hnb1 e); have HD5 : Hid (w3.heap.size ∉ blkO ao5) := (fun e => by rcases hA5.at_ _ e with h | h; (exact hnb1 h); (have := HE4.out.blk.lt; simp at h this; omega)); have HA5 := Lib.hid hA5; clear hA5 hnb1)
              | (refine step_app2 _ (by rfl) _ _ _ (by rfl) 99 i0 _ 1 8 underlyingFlows hi0 hz0 hz1 hz2 rfl (by omega) ao5 (k + 1) cap5 _ (by rfl) HA5.out.row (some ⟨g, k, none⟩) (n - k) _ (((Z.drop k).take (n - k)).flatMap (fun e => [entV e])) (by rfl) (HSRC.out _ k (n - k) k HU5.out (by omega) (by left; omega)) (by unfold maxLen; omega) (by omega) ?_; intro ao6 cap6 w6 hA6; have HA6 := Lib.hid hA6; have HU6 : Hid (Upd [] w w6) := HU5.out.then hA6.upd (fun _ _ h => h) (fun i hi hm => by rcases HA5.out.at_ i hm with h | h; (have := HN1.out i h; omega); (have := HU3.out.size; have := HU4.out.size; simp at h; omega)); have e6 := (HU6.out.cell lb (by simp) 0).trans c0; have z6 := (HU6.out.frozen lb (by simp) 0).trans z0; have lb6 := Nat.lt_of_lt_of_le lb HU6.out.size; have HE6 : Hid (EntAt w6 ⟨w3.heap.size, flNew id r most, none, 0⟩) := HE5.out.upd hA6.upd (fun c hc e => by simp only [entB, blkO, List.mem_cons, List.not_mem_nil, or_false] at hc; rw [hc] at e; exact HD5.out e); have HD6 : Hid (w3.heap.size ∉ blkO ao6) := (fun e => by rcases hA6.at_ _ e with h | h; (exact HD5.out h); (have := HE5.out.blk.lt; simp at this; omega)); have HN6 : Hid (∀ c ∈ blkO ao6, w.heap.size ≤ c) := (fun c hc => by rcases hA6.at_ c hc with h | h; (rcases HA5.out.at_ c h with h | h; (exact HN1.out c h); (have := HU3.out.size; have := HU4.out.size; simp at h; omega)); (have := HU5.out.size; omega)); clear hA6)
              | (refine step_app2 _ (by rfl) _ _ _ (by rfl) 99 i0 _ 1 8 underlyingFlows hi0 hz0 hz1 hz2 rfl (by omega) ao5 (k + 1) cap5 _ (by rfl) HA5.out.row (some ⟨g, 0, none⟩) (n - k) _ (((Z.drop k).take (n - k)).flatMap (fun e => [entV e])) (by rfl) (HSRC.out _ k (n - k) 0 HU5.out (by omega) (by right; omega)) (by unfold maxLen; omega) (by omega) ?_; intro ao6 cap6 w6 hA6; have HA6 := Lib.hid hA6; have HU6 : Hid (Upd [] w w6) := HU5.out.then hA6.upd (fun _ _ h => h) (fun i hi hm => by rcases HA5.out.at_ i hm with h | h; (have := HN1.out i h; omega); (have := HU3.out.size; have := HU4.out.size; simp at h; omega)); have e6 := (HU6.out.cell lb (by simp) 0).trans c0; have z6 := (HU6.out.frozen lb (by simp) 0).trans z0; have lb6 := Nat.lt_of_lt_of_le lb HU6.out.size; have HE6 : Hid (EntAt w6 ⟨w3.heap.size, flNew id r most, none, 0⟩) := HE5.out.upd hA6.upd (fun c hc e => by simp only [entB, blkO, List.mem_cons, List.not_mem_nil, or_false] at hc; rw [hc] at e; exact HD5.out e); have HD6 : Hid (w3.heap.size ∉ blkO ao6) := (fun e => by rcases hA6.at_ _ e with h | h; (exact HD5.out h); (have := HE5.out.blk.lt; simp at this; omega)); have HN6 : Hid (∀ c ∈ blkO ao6, w.heap.size ≤ c) := (fun c hc => by rcases hA6.at_ c hc with h | h; (rcases HA5.out.at_ c h with h | h; (exact HN1.out c h); (have := HU3.out.size; have := HU4.out.size; simp at h; omega)); (have := HU5.out.size; omega)); clear hA6))
            all_goals
              go_wp2
              go_ret
              refine ⟨rfl, add_end (k := k) HH.out HF.out HGE.out HPO.out (by rw [HNZ.out]; omega) HU6.out HE6.out HU3.out.size ?_ (by rw [HNZ.out]; omega) HN6.out HD6.out HLO.out HHI.out (by rw [HNZ.out]; omega) (Upd.refl [] _)⟩
              have hr := HA6.out.row
              rw [List.take_of_length_le (l := Z.drop k) (by rw [List.length_drop, HNZ.out]; omega)] at hr
              rw [entVs_map]
              unfold insZ
              rw [List.flatMap_append, List.flatMap_cons, ← List.append_assoc]
              exact hr
  · have HPO := Lib.hid hpos
    have HA : Hid (addSf S id r most = S) := by unfold Hid addSf; rw [hpos, if_neg (by omega)]
    have b0 : decide ((0 : Int) ≤ (i : Int)) = true := by simp
    have b1 : decide ((i : Int) < 0) = false := by simp
    rw [hpos, HA.out]
    clear h hr hpos hf hid
    go_enter Tryz.func25, Tryz.ntmps25
    go_wp2_with fail
    refine (HG.out.at_ id).mono ?_
    rintro en w2 ⟨rfl, rfl⟩
    rw [HPO.out]
    go_wp2
    go_ret
    exact ⟨by rw [b1]; rfl, SfTo.same HG.out (Upd.refl _ _)⟩
end Go.Proofs.YtolohheflbmfaaaGreatDoor
