/-
  The walk of the reference's Push. No condition.
-/
import Derived.Test.YtbnifhdnpeiheaaDoorItemsE
import Derived.Test.YtbnifhdnpeiheaaDoorRAhead
set_option linter.unusedVariables false
set_option linter.unusedSimpArgs false
namespace Go.Proofs.YtbnifhdnpeiheaaDoor
open Go.RowKit

theorem ins_split {L : List It} {x : It} {k : Nat} (hk : k ≤ L.length) (h1 : ∀ j, j < k → ahead (atI L j) x = true) (h2 : k = L.length ∨ ahead (atI L k) x = false) : insI x L = L.take k ++ x :: L.drop k := by
  induction L generalizing k with
  | nil => simp [insI]
  | cons y r ih =>
    cases k with
    | zero =>
      rcases h2 with h2 | h2
      · simp at h2
      · have h3 : ahead y x = false := h2
        simp [insI, h3]
    | succ k =>
      have h3 : ahead y x = true := h1 0 (by omega)
      simp only [insI, h3, if_true, List.take_succ_cons, List.drop_succ_cons, List.cons_append]
      rw [ih (by simpa using hk) (fun j hj => h1 (j + 1) (by omega)) (by rcases h2 with h2 | h2; (left; simpa using h2); (right; exact h2))]

/-- How far the look for a place has come. -/
def PushK (L : List It) (x : It) (w1 : World) (kv : Value) (wr : World) : Prop := ∃ k : Nat, kv = .int .i64 k ∧ k ≤ L.length ∧ (∀ j, j < k → ahead (atI L j) x = true) ∧ Upd [] w1 wr

theorem ri_push_no (b o : Nat) (ao : Option Addr) (cap : Nat) (L : List It) (x : It) (w : World) (h : ItsAt w b o ao cap L) (hx : hasI L x.2 = true) :
    Calls Tryd.prog 54 #[.pointer (some ⟨b, o, none⟩), .agg #[.int .u64 x.1, .int .i64 x.2]] w (fun e w' => e = .returned (.bool false) ∧ ItsGo w b o ao L w') := by
  obtain ⟨i, hi, _, _⟩ := posI_of hx
  have HH := Lib.hid h
  have HI := Lib.hid hi
  have hsm := h.small
  have hi2 : (i : Int) ≤ 9223372036854775807 := by omega
  clear h hi hx
  go_enter Tryd.func54, Tryd.ntmps54
  go_wp2_with fail
  refine (ri_at b o ao cap L x.2 _ (HH.out.upd ((Upd.refl [] w).alloc _) (by simp) (by simp))).mono ?_
  rintro e w2 ⟨rfl, rfl⟩
  rw [HI.out]
  go_wp2
  go_ret
  exact ⟨rfl, HH.out.stays ((Upd.refl [] w).alloc _)⟩

set_option maxRecDepth 100000 in
set_option maxHeartbeats 8000000 in
theorem ri_push_nil (b o : Nat) (x : It) (w : World) (h : ItsAt w b o none 0 []) :
    Calls Tryd.prog 54 #[.pointer (some ⟨b, o, none⟩), .agg #[.int .u64 x.1, .int .i64 x.2]] w (fun e w' => e = .returned (.bool true) ∧ ItsTo w b o [x] w') := by
  obtain ⟨i0, hi0, hz0, hz1, hz2⟩ := info_parts infoItem
  have hp : Hid (posI [] x.2 = -1) := rfl
  have HH := Lib.hid h
  have lb := h.lt
  have c0 : w.cell? ⟨b, o, none⟩ = some (.slice none 0 0) := h.cell
  have HC0 := Lib.hid c0
  obtain ⟨w1, hw1⟩ : ∃ w1, w1 = w.alloc (.cells #[.int .u64 x.1, .int .i64 x.2] 35 (0, 0)) := ⟨_, rfl⟩
  have hU1 : Upd [] w w1 := by rw [hw1]; exact (Upd.refl _ w).alloc _
  have HU1 := Lib.hid hU1
  have HB1 : Hid (Blk w1 w.heap.size 35 [.int .u64 x.1, .int .i64 x.2]) := by unfold Hid; rw [hw1]; exact heap_one w _
  have HW1 := Lib.hid hw1
  clear h c0 hU1 hw1
  go_enter Tryd.func54, Tryd.ntmps54
  go_wp2_with fail
  rw [← HW1.out]
  refine (ri_at b o none 0 [] x.2 _ (HH.out.upd HU1.out (by simp) (by simp))).mono ?_
  rintro e w2 ⟨rfl, hw2⟩
  rw [hp.out]
  subst hw2
  go_wp2
  go_loopw [5] (fun kv wr => PushK [] x w1 kv wr) (fun kv _ => 0 - (intOf kv).toNat)
  case atStart => exact ⟨0, rfl, by simp, fun j hj => by omega, Upd.refl _ _⟩
  case round =>
    obtain ⟨k, rfl, hk, -, hU⟩ := hrel
    obtain rfl : k = 0 := by simpa using hk
    have HU := Lib.hid hU
    clear hU hk
    have HUw0 : Hid (Upd [] w wr) := HU1.out.trans HU.out
    have c0 : wr.cell? ⟨b, o, none⟩ = some (.slice none 0 0) := by rw [HUw0.out.cell lb (by simp)]; exact HC0.out
    have hB := HB1.out.upd HU.out (by simp)
    have y0 := hB.cell (j := 0) rfl
    have y1 := hB.cell (j := 1) rfl
    have ly := hB.lt
    have lbr := Nat.lt_of_lt_of_le lb HUw0.out.size
    clear hB
    go_wp2
    go_quiet (fail)
    obtain ⟨wz, hwz⟩ : ∃ wz, wz = wr.drewN nq := ⟨_, rfl⟩
    rw [← hwz]
    have HUz : Hid (Upd [] w1 wz) := by unfold Hid; rw [hwz]; exact HU.out.drewN nq
    have HUw : Hid (Upd [] w wz) := HU1.out.trans HUz.out
    have lbz := Nat.lt_of_lt_of_le lb HUw.out.size
    have ez : wz.cell? ⟨b, o, none⟩ = some (.slice none 0 0) := by rw [HUw.out.cell lb (by simp)]; exact HC0.out
    have hB3 := HB1.out.upd HUz.out (by simp)
    have y0' := hB3.cell (j := 0) rfl
    have y1' := hB3.cell (j := 1) rfl
    have ly3 := hB3.lt
    clear hwz hB3
    go_wp2
    go_region_law
      (first
      | (refine step_app2 _ (by rfl) _ _ _ (by rfl) 35 i0 _ 2 16 underlyingItems hi0 hz0 hz1 hz2 rfl (by omega) none 0 0 [] (by rfl) (RowO.nil _ _ _) (some ⟨wz.heap.size, 0, none⟩) 1 1 (itVs x) (by rfl) ⟨rfl, by simp [itVs, Value.oneCell'], .inr ⟨_, rfl, World.news_of_block (cs := #[.int .u64 x.1, .int .i64 x.2]) (t := 35) (fr := (0, 0)) (heap_alloc_new wz _)⟩⟩ (by unfold maxLen; omega) (by omega) ?_; intro ao2 cap2 w4 hA2; have HU4 : Hid (Upd [] w w4) := (HUw.out.trans ((Upd.refl [] wz).alloc _).drew).trans hA2.upd; have e4 : w4.cell? ⟨b, o, none⟩ = some (.slice none 0 0) := (by rw [HU4.out.cell lb (by simp)]; exact HC0.out); have lb4 := Nat.lt_of_lt_of_le lb HU4.out.size; have HA2 := Lib.hid hA2; clear hA2)
      | (refine step_app2 _ (by rfl) _ _ _ (by rfl) 35 i0 _ 2 16 underlyingItems hi0 hz0 hz1 hz2 rfl (by omega) ao2 1 cap2 (itVs x) (by rfl) HA2.out.row none 0 0 [] (by rfl) ⟨rfl, by simp, .inl ⟨rfl, rfl⟩⟩ (by unfold maxLen; omega) (by omega) ?_; intro ao3 cap3 w5 hA3; have HU5 : Hid (Upd [] w w5) := HU4.out.then hA3.upd (fun _ _ h => h) (fun i hi hm => by rcases HA2.out.at_ i hm with h | h; (· cases h); (have := HUw.out.size; simp at h; omega)); have e5 : w5.cell? ⟨b, o, none⟩ = some (.slice none 0 0) := (by rw [HU5.out.cell lb (by simp)]; exact HC0.out); have z5 : w5.frozen? ⟨b, o, none⟩ = false := (by rw [HU5.out.frozen lb (by simp)]; exact HH.out.free); have lb5 := Nat.lt_of_lt_of_le lb HU5.out.size; have HA3 := Lib.hid hA3; clear hA3))
    all_goals
      go_wp2
      go_ret
      refine ⟨rfl, its_done (N := w.heap.size) (ao' := ao3) (cap' := cap3) (n' := 1) HH.out HU5.out ?_ ?_ (Nat.le_refl _) rfl (by simp [NdI]) (List.pairwise_singleton _ _) (by omega) (S := []) (Upd.refl _ _) (by simp)⟩
      · have := HA3.out.row
        rw [List.append_nil] at this
        simpa using this
      · intro c hc
        rcases HA3.out.at_ c hc with h | h
        · rcases HA2.out.at_ c h with h | h
          · cases h
          · have := HUw.out.size; simp at h; omega
        · have := HU4.out.size; omega


set_option maxRecDepth 100000 in
set_option maxHeartbeats 16000000 in
theorem ri_push_some (b o g : Nat) (cap : Nat) (L : List It) (x : It) (w : World) (h : ItsAt w b o (some ⟨g, 0, none⟩) cap L) (hx : hasI L x.2 = false) (hsm : L.length < 1000) :
    Calls Tryd.prog 54 #[.pointer (some ⟨b, o, none⟩), .agg #[.int .u64 x.1, .int .i64 x.2]] w (fun e w' => e = .returned (.bool true) ∧ ItsTo w b o (insI x L) w') := by
  obtain ⟨i0, hi0, hz0, hz1, hz2⟩ := info_parts infoItem
  have hp : Hid (posI L x.2 = -1) := posI_neg hx
  have HH := Lib.hid h
  have HX := Lib.hid hx
  have c0 := h.cell
  have lb := h.lt
  have hcap := h.row.cap_le.1
  obtain ⟨n, hn⟩ : ∃ n, L.length = n := ⟨_, rfl⟩
  have HROW := Lib.hid h.row
  rw [hn] at c0 hsm hcap HROW
  have HC0 := Lib.hid c0
  have HN := Lib.hid hn
  obtain ⟨w1, hw1⟩ : ∃ w1, w1 = w.alloc (.cells #[.int .u64 x.1, .int .i64 x.2] 35 (0, 0)) := ⟨_, rfl⟩
  have hU1 : Upd [] w w1 := by rw [hw1]; exact (Upd.refl _ w).alloc _
  have HU1 := Lib.hid hU1
  have HB1 : Hid (Blk w1 w.heap.size 35 [.int .u64 x.1, .int .i64 x.2]) := by unfold Hid; rw [hw1]; exact heap_one w _
  have HW1 := Lib.hid hw1
  clear h hx hn c0 hU1 hw1
  go_enter Tryd.func54, Tryd.ntmps54
  go_wp2_with fail
  rw [← HW1.out]
  refine (ri_at b o (some ⟨g, 0, none⟩) cap L x.2 _ (HH.out.upd HU1.out (by simp) (by simp))).mono ?_
  rintro e w2 ⟨rfl, rfl⟩
  rw [hp.out]
  go_wp2
  go_loopw [5] (fun kv wr => PushK L x w1 kv wr) (fun kv _ => n - (intOf kv).toNat)
  case atStart => exact ⟨0, rfl, by omega, fun j hj => by omega, Upd.refl _ _⟩
  case round =>
    obtain ⟨k, rfl, hk, hj, hU⟩ := hrel
    rw [HN.out] at hk
    have HJ := Lib.hid hj
    have HU := Lib.hid hU
    clear hj hU
    have HUw0 : Hid (Upd [] w wr) := HU1.out.trans HU.out
    have c0 : wr.cell? ⟨b, o, none⟩ = some (.slice (some ⟨g, 0, none⟩) n cap) := by rw [HUw0.out.cell lb (by simp)]; exact HC0.out
    have hB := HB1.out.upd HU.out (by simp)
    have y0 := hB.cell (j := 0) rfl
    have y1 := hB.cell (j := 1) rfl
    have ly := hB.lt
    have lbr := Nat.lt_of_lt_of_le lb HUw0.out.size
    clear hB
    by_cases hlt : k < n
    · have t1 : decide (k < n) = true := by simp [hlt]
      have b1 : (k : Int) < (n : Int) := by omega
      obtain ⟨g', hg', lg, x0, x1⟩ := (HROW.out.upd HUw0.out (by simp)).items HN.out hlt
      obtain rfl : g = g' := by simpa using hg'
      clear hg'
      obtain ⟨z, hz⟩ : ∃ z, atI L k = z := ⟨_, rfl⟩
      rw [hz] at x0 x1
      have HZ := Lib.hid hz
      clear hz
      go_wp2
      go_region_held3 (fun w' => Upd [] wr w' ∧ ∀ (b o : Nat), b < wr.heap.size → b ∉ ([] : List Nat) → w'.cell? ⟨b, o, none⟩ = wr.cell? ⟨b, o, none⟩)
        (first | exact Held.init _ _ | exact Held.step (by assumption) hB) (first | (go_at_call 59; refine (rahead_any z x _).mono ?_; rintro e wz ⟨rfl, hB⟩))
      have HUz : Hid (Upd [] w1 wz) := HU.out.trans ((Upd.refl [] wr).drew.trans hB)
      cases hah : ahead z x with
      | true =>
        have HAH := Lib.hid hah
        clear hah hB
        go_wp2
        exact ⟨⟨k + 1, by congr 1, by rw [HN.out]; omega, fun j hj => by
          by_cases e : j = k
          · subst e; rw [HZ.out]; exact HAH.out
          · exact HJ.out j (by omega), HUz.out⟩, by have := HN.out; first | (simp [intOf]; done) | (simp [intOf]; omega)⟩
      | false =>
        have HAH := Lib.hid hah
        clear hah hB
        have hfin : Hid (insI x L = L.take k ++ x :: L.drop k) := ins_split (by rw [HN.out]; exact hk) HJ.out (.inr (by rw [HZ.out]; exact HAH.out))
        have HUw : Hid (Upd [] w wz) := HU1.out.trans HUz.out
        have lbz := Nat.lt_of_lt_of_le lb HUw.out.size
        have ez : wz.cell? ⟨b, o, none⟩ = some (.slice (some ⟨g, 0, none⟩) n cap) := by rw [HUw.out.cell lb (by simp)]; exact HC0.out
        have b2 : k ≤ cap := by omega
        by_cases hce : cap = k
        all_goals (try (exfalso; omega))
        all_goals
          go_wp2_with (at_builtin; refine wpList_app2 _ (by rfl) _ _ _ (by rfl) 35 i0 _ 2 16 underlyingItems hi0 hz0 hz1 hz2 rfl (by omega) none 0 0 [] (by rfl) (RowO.nil _ _ _) (some ⟨g, 0 * 2, none⟩) k _ (((L.drop 0).take k).flatMap itVs) (by rfl) (part_src HROW.out HN.out HUw.out 0 k (by omega) (0 * 2) (by left; rfl)) (by unfold maxLen; omega) (by omega) ?_; intro ao1 cap1 w3 hA1)
          have HA1 : Hid (RowO w3 35 2 ao1 k cap1 ((L.take k).flatMap itVs)) := by
            have := hA1.row
            rw [Nat.zero_add, List.nil_append, List.drop_zero] at this
            exact this
          have HU3 : Hid (Upd [] w w3) := HUw.out.trans hA1.upd
          have e3 : w3.cell? ⟨b, o, none⟩ = some (.slice (some ⟨g, 0, none⟩) n cap) := by rw [HU3.out.cell lb (by simp)]; exact HC0.out
          have hB3 := HB1.out.upd (HUz.out.trans hA1.upd) (by simp)
          have y0' := hB3.cell (j := 0) rfl
          have y1' := hB3.cell (j := 1) rfl
          have ly3 := hB3.lt
          have lb3 := Nat.lt_of_lt_of_le lb HU3.out.size
          have hne1 : ∀ c ∈ blkO ao1, w.heap.size ≤ c := fun c hc => by
            rcases hA1.at_ c hc with h | h
            · cases h
            · have := HUw.out.size; omega
          have HNE1 := Lib.hid hne1
          clear hA1 hB3 hne1
          go_region_law
            (first
            | (refine step_app2 _ (by rfl) _ _ _ (by rfl) 35 i0 _ 2 16 underlyingItems hi0 hz0 hz1 hz2 rfl (by omega) ao1 k cap1 ((L.take k).flatMap itVs) (by rfl) (RowO.upd HA1.out (((Upd.refl [] w3).alloc _).drew) (by simp)) (some ⟨w3.heap.size, 0, none⟩) 1 1 (itVs x) (by rfl) ⟨rfl, by simp [itVs, Value.oneCell'], .inr ⟨_, rfl, World.news_of_block (cs := #[.int .u64 x.1, .int .i64 x.2]) (t := 35) (fr := (0, 0)) (heap_alloc_new w3 _)⟩⟩ (by unfold maxLen; omega) (by omega) ?_; intro ao2 cap2 w4 hA2; have HU34 : Hid (Upd (blkO ao1) w3 w4) := (((Upd.refl (blkO ao1) w3).alloc _).drew).trans hA2.upd; have HU4 : Hid (Upd [] w w4) := HU3.out.then HU34.out (fun _ _ h => h) (fun i hi hm => by have := HNE1.out i hm; omega); have e4 : w4.cell? ⟨b, o, none⟩ = some (.slice (some ⟨g, 0, none⟩) n cap) := (by rw [HU4.out.cell lb (by simp)]; exact HC0.out); have lb4 := Nat.lt_of_lt_of_le lb HU4.out.size; have HA2 := Lib.hid hA2; clear hA2)
            | (refine step_app2 _ (by rfl) _ _ _ (by rfl) 35 i0 _ 2 16 underlyingItems hi0 hz0 hz1 hz2 rfl (by omega) ao2 (k + 1) cap2 _ (by rfl) HA2.out.row (some ⟨g, k * 2, none⟩) (n - k) _ (((L.drop k).take (n - k)).flatMap itVs) (by rfl) (part_src HROW.out HN.out HU4.out k (n - k) (by omega) (k * 2) (by left; rfl)) (by unfold maxLen; omega) (by omega) ?_; intro ao3 cap3 w5 hA3; have HU5 : Hid (Upd [] w w5) := HU4.out.then hA3.upd (fun _ _ h => h) (fun i hi hm => by rcases HA2.out.at_ i hm with h | h; (have := HNE1.out i h; omega); (have := HU3.out.size; simp at h; omega)); have e5 : w5.cell? ⟨b, o, none⟩ = some (.slice (some ⟨g, 0, none⟩) n cap) := (by rw [HU5.out.cell lb (by simp)]; exact HC0.out); have z5 : w5.frozen? ⟨b, o, none⟩ = false := (by rw [HU5.out.frozen lb (by simp)]; exact HH.out.free); have lb5 := Nat.lt_of_lt_of_le lb HU5.out.size; have HA3 := Lib.hid hA3; clear hA3)
            | (refine step_app2 _ (by rfl) _ _ _ (by rfl) 35 i0 _ 2 16 underlyingItems hi0 hz0 hz1 hz2 rfl (by omega) ao2 (k + 1) cap2 _ (by rfl) HA2.out.row (some ⟨g, 0, none⟩) (n - k) _ (((L.drop k).take (n - k)).flatMap itVs) (by rfl) (part_src HROW.out HN.out HU4.out k (n - k) (by omega) 0 (by right; omega)) (by unfold maxLen; omega) (by omega) ?_; intro ao3 cap3 w5 hA3; have HU5 : Hid (Upd [] w w5) := HU4.out.then hA3.upd (fun _ _ h => h) (fun i hi hm => by rcases HA2.out.at_ i hm with h | h; (have := HNE1.out i h; omega); (have := HU3.out.size; simp at h; omega)); have e5 : w5.cell? ⟨b, o, none⟩ = some (.slice (some ⟨g, 0, none⟩) n cap) := (by rw [HU5.out.cell lb (by simp)]; exact HC0.out); have z5 : w5.frozen? ⟨b, o, none⟩ = false := (by rw [HU5.out.frozen lb (by simp)]; exact HH.out.free); have lb5 := Nat.lt_of_lt_of_le lb HU5.out.size; have HA3 := Lib.hid hA3; clear hA3))
          all_goals
            go_wp2
            go_ret
            refine ⟨rfl, its_done (N := w.heap.size) (ao' := ao3) (cap' := cap3) (n' := k + 1 + (n - k)) HH.out HU5.out ?_ ?_ (Nat.le_refl _) ?_ (insI_nd HH.out.nd HX.out) (insI_srt HH.out.srt ((hasI_no _ _).1 HX.out)) (by omega) (S := []) (Upd.refl _ _) (by simp)⟩
            · have := HA3.out.row
              rw [List.take_of_length_le (l := L.drop k) (by rw [List.length_drop, HN.out]; omega)] at this
              rw [hfin.out, List.flatMap_append, List.flatMap_cons, ← List.append_assoc]
              exact this
            · intro c hc
              rcases HA3.out.at_ c hc with h | h
              · rcases HA2.out.at_ c h with h | h
                · exact HNE1.out c h
                · have := HU3.out.size; simp at h; omega
              · have := HU4.out.size; omega
            · rw [(insI_perm x L).length_eq, List.length_cons, HN.out]; omega
    · have t1 : decide (k < n) = false := by simp; omega
      go_wp2
      go_quiet (fail)
      obtain ⟨wz, hwz⟩ : ∃ wz, wz = wr.drewN nq := ⟨_, rfl⟩
      rw [← hwz]
      have HUz : Hid (Upd [] w1 wz) := by unfold Hid; rw [hwz]; exact HU.out.drewN nq
      have hkn : Hid (k = L.length) := by unfold Hid; rw [HN.out]; omega
      clear hwz
      have hfin : Hid (insI x L = L.take k ++ x :: L.drop k) := ins_split (by rw [HN.out]; exact hk) HJ.out (.inl hkn.out)
      have HUw : Hid (Upd [] w wz) := HU1.out.trans HUz.out
      have lbz := Nat.lt_of_lt_of_le lb HUw.out.size
      have ez : wz.cell? ⟨b, o, none⟩ = some (.slice (some ⟨g, 0, none⟩) n cap) := by rw [HUw.out.cell lb (by simp)]; exact HC0.out
      have b2 : k ≤ cap := by omega
      by_cases hce : cap = k
      all_goals (try (exfalso; omega))
      all_goals
        go_wp2_with (at_builtin; refine wpList_app2 _ (by rfl) _ _ _ (by rfl) 35 i0 _ 2 16 underlyingItems hi0 hz0 hz1 hz2 rfl (by omega) none 0 0 [] (by rfl) (RowO.nil _ _ _) (some ⟨g, 0 * 2, none⟩) k _ (((L.drop 0).take k).flatMap itVs) (by rfl) (part_src HROW.out HN.out HUw.out 0 k (by omega) (0 * 2) (by left; rfl)) (by unfold maxLen; omega) (by omega) ?_; intro ao1 cap1 w3 hA1)
        have HA1 : Hid (RowO w3 35 2 ao1 k cap1 ((L.take k).flatMap itVs)) := by
          have := hA1.row
          rw [Nat.zero_add, List.nil_append, List.drop_zero] at this
          exact this
        have HU3 : Hid (Upd [] w w3) := HUw.out.trans hA1.upd
        have e3 : w3.cell? ⟨b, o, none⟩ = some (.slice (some ⟨g, 0, none⟩) n cap) := by rw [HU3.out.cell lb (by simp)]; exact HC0.out
        have hB3 := HB1.out.upd (HUz.out.trans hA1.upd) (by simp)
        have y0' := hB3.cell (j := 0) rfl
        have y1' := hB3.cell (j := 1) rfl
        have ly3 := hB3.lt
        have lb3 := Nat.lt_of_lt_of_le lb HU3.out.size
        have hne1 : ∀ c ∈ blkO ao1, w.heap.size ≤ c := fun c hc => by
          rcases hA1.at_ c hc with h | h
          · cases h
          · have := HUw.out.size; omega
        have HNE1 := Lib.hid hne1
        clear hA1 hB3 hne1
        go_region_law
          (first
          | (refine step_app2 _ (by rfl) _ _ _ (by rfl) 35 i0 _ 2 16 underlyingItems hi0 hz0 hz1 hz2 rfl (by omega) ao1 k cap1 ((L.take k).flatMap itVs) (by rfl) (RowO.upd HA1.out (((Upd.refl [] w3).alloc _).drew) (by simp)) (some ⟨w3.heap.size, 0, none⟩) 1 1 (itVs x) (by rfl) ⟨rfl, by simp [itVs, Value.oneCell'], .inr ⟨_, rfl, World.news_of_block (cs := #[.int .u64 x.1, .int .i64 x.2]) (t := 35) (fr := (0, 0)) (heap_alloc_new w3 _)⟩⟩ (by unfold maxLen; omega) (by omega) ?_; intro ao2 cap2 w4 hA2; have HU34 : Hid (Upd (blkO ao1) w3 w4) := (((Upd.refl (blkO ao1) w3).alloc _).drew).trans hA2.upd; have HU4 : Hid (Upd [] w w4) := HU3.out.then HU34.out (fun _ _ h => h) (fun i hi hm => by have := HNE1.out i hm; omega); have e4 : w4.cell? ⟨b, o, none⟩ = some (.slice (some ⟨g, 0, none⟩) n cap) := (by rw [HU4.out.cell lb (by simp)]; exact HC0.out); have lb4 := Nat.lt_of_lt_of_le lb HU4.out.size; have HA2 := Lib.hid hA2; clear hA2)
          | (refine step_app2 _ (by rfl) _ _ _ (by rfl) 35 i0 _ 2 16 underlyingItems hi0 hz0 hz1 hz2 rfl (by omega) ao2 (k + 1) cap2 _ (by rfl) HA2.out.row (some ⟨g, k * 2, none⟩) (n - k) _ (((L.drop k).take (n - k)).flatMap itVs) (by rfl) (part_src HROW.out HN.out HU4.out k (n - k) (by omega) (k * 2) (by left; rfl)) (by unfold maxLen; omega) (by omega) ?_; intro ao3 cap3 w5 hA3; have HU5 : Hid (Upd [] w w5) := HU4.out.then hA3.upd (fun _ _ h => h) (fun i hi hm => by rcases HA2.out.at_ i hm with h | h; (have := HNE1.out i h; omega); (have := HU3.out.size; simp at h; omega)); have e5 : w5.cell? ⟨b, o, none⟩ = some (.slice (some ⟨g, 0, none⟩) n cap) := (by rw [HU5.out.cell lb (by simp)]; exact HC0.out); have z5 : w5.frozen? ⟨b, o, none⟩ = false := (by rw [HU5.out.frozen lb (by simp)]; exact HH.out.free); have lb5 := Nat.lt_of_lt_of_le lb HU5.out.size; have HA3 := Lib.hid hA3; clear hA3)
          | (refine step_app2 _ (by rfl) _ _ _ (by rfl) 35 i0 _ 2 16 underlyingItems hi0 hz0 hz1 hz2 rfl (by omega) ao2 (k + 1) cap2 _ (by rfl) HA2.out.row (some ⟨g, 0, none⟩) (n - k) _ (((L.drop k).take (n - k)).flatMap itVs) (by rfl) (part_src HROW.out HN.out HU4.out k (n - k) (by omega) 0 (by right; omega)) (by unfold maxLen; omega) (by omega) ?_; intro ao3 cap3 w5 hA3; have HU5 : Hid (Upd [] w w5) := HU4.out.then hA3.upd (fun _ _ h => h) (fun i hi hm => by rcases HA2.out.at_ i hm with h | h; (have := HNE1.out i h; omega); (have := HU3.out.size; simp at h; omega)); have e5 : w5.cell? ⟨b, o, none⟩ = some (.slice (some ⟨g, 0, none⟩) n cap) := (by rw [HU5.out.cell lb (by simp)]; exact HC0.out); have z5 : w5.frozen? ⟨b, o, none⟩ = false := (by rw [HU5.out.frozen lb (by simp)]; exact HH.out.free); have lb5 := Nat.lt_of_lt_of_le lb HU5.out.size; have HA3 := Lib.hid hA3; clear hA3))
        all_goals
          go_wp2
          go_ret
          refine ⟨rfl, its_done (N := w.heap.size) (ao' := ao3) (cap' := cap3) (n' := k + 1 + (n - k)) HH.out HU5.out ?_ ?_ (Nat.le_refl _) ?_ (insI_nd HH.out.nd HX.out) (insI_srt HH.out.srt ((hasI_no _ _).1 HX.out)) (by omega) (S := []) (Upd.refl _ _) (by simp)⟩
          · have := HA3.out.row
            rw [List.take_of_length_le (l := L.drop k) (by rw [List.length_drop, HN.out]; omega)] at this
            rw [hfin.out, List.flatMap_append, List.flatMap_cons, ← List.append_assoc]
            exact this
          · intro c hc
            rcases HA3.out.at_ c hc with h | h
            · rcases HA2.out.at_ c h with h | h
              · exact HNE1.out c h
              · have := HU3.out.size; simp at h; omega
            · have := HU4.out.size; omega
          · rw [(insI_perm x L).length_eq, List.length_cons, HN.out]; omega

theorem ri_push (b o : Nat) (ao : Option Addr) (cap : Nat) (L : List It) (x : It) (w : World) (h : ItsAt w b o ao cap L) (hsm : L.length < 1000) :
    Calls Tryd.prog 54 #[.pointer (some ⟨b, o, none⟩), .agg #[.int .u64 x.1, .int .i64 x.2]] w (fun e w' => e = .returned (.bool (!hasI L x.2)) ∧ ItsGo w b o ao (if hasI L x.2 then L else insI x L) w') := by
  cases hx : hasI L x.2 with
  | true => exact ri_push_no b o ao cap L x w h hx
  | false =>
    have hgo : ∀ w', ItsTo w b o (insI x L) w' → ItsGo w b o ao (insI x L) w' := fun w' hI => hI.go (Upd.refl [] w) (S := []) (Upd.refl _ _) h.lt (by simp)
    rcases h.row.cases with ⟨rfl, hn, rfl, _⟩ | ⟨g, rfl, _⟩
    · obtain rfl := List.eq_nil_of_length_eq_zero hn
      exact (ri_push_nil b o x w h).mono fun e w' k => ⟨k.1, hgo w' k.2⟩
    · exact (ri_push_some b o g cap L x w h hx hsm).mono fun e w' k => ⟨k.1, hgo w' k.2⟩
end Go.Proofs.YtbnifhdnpeiheaaDoor
