/-
  The walk of the heap's Push. No condition.
-/
import Derived.Test.YtilibinmbmgedaaHeapF
import Derived.Deep.RegionLaw
namespace Go.Proofs.Ytilibinmbmgedaa
open Go.RowKit

theorem RowO.newAt {w : World} {e : TypeId} {size g n cap : Nat} {xs : List Value} (h : w.ownsRow 0 e size (.slice (some ⟨g, 0, none⟩) n cap) n xs) : Row w e size g n cap xs := h

theorem ownB (ao : Option Addr) (n cap : Nat) {g : Nat} (h : (Value.slice ao n cap).ownBlock = some g) : g ∈ blkO ao := by
  cases ao with
  | none => simp [Value.ownBlock] at h
  | some ad => simp [Value.ownBlock] at h; simp [blkO, h]
theorem Upd.grownO {S : List Nat} {a w w' : World} {ao : Option Addr} {n cap : Nat} (h : Upd S a w) (hg : w.grownBy w' (Value.slice ao n cap).ownBlock) (hs : ∀ b ∈ blkO ao, b ∈ S) : Upd S a w' :=
  h.grown hg (fun k hk => .inl (hs k (ownB ao n cap hk)))

set_option maxHeartbeats 8000000 in
theorem push_no (hb : Nat) (ao : Option Addr) (cap mb : Nat) (A : List It) (x : It) (w : World) (h : HpAt w hb ao cap mb A) (hx : hasI A x.2 = true) :
    Calls Try.prog 13 #[.pointer (some ⟨hb, 0, none⟩), .agg #[.int .u64 x.1, .int .i64 x.2]] w (RetUpd [] w (.bool false)) := by
  have HH := Lib.hid h
  have HX := Lib.hid hx
  clear h hx
  go_enter Try.func13, Try.ntmps13
  go_wp2_with (go_at_call 19; refine (has_at hb ao cap mb A x.2 _ (HH.out.upd ((Upd.refl [] w).alloc _) (by simp) (by simp) (by simp))).mono ?_; rintro e w2 ⟨rfl, hB⟩; rw [HX.out])
  go_ret
  exact ⟨rfl, ((Upd.refl _ w).alloc _).trans hB⟩

set_option maxHeartbeats 16000000 in
theorem push_yes (hb : Nat) (ao : Option Addr) (cap mb : Nat) (A : List It) (x : It) (w : World) (h : HpAt w hb ao cap mb A) (hx : hasI A x.2 = false) (hsm : A.length < 1000) :
    Calls Try.prog 13 #[.pointer (some ⟨hb, 0, none⟩), .agg #[.int .u64 x.1, .int .i64 x.2]] w
      fun e w' => e = .returned (.bool true) ∧ ∃ g cap', HpAt w' hb (some ⟨g, 0, none⟩) cap' mb (sUp A.length (A ++ [x]) A.length) ∧ (g ∈ blkO ao ∨ w.heap.size ≤ g) ∧ Upd (hb :: mb :: blkO ao) w w' := by
  have HH := Lib.hid h
  have HX := Lib.hid hx
  obtain ⟨i0, hi0, hz0, hz1, hz2⟩ := info_parts infoItem
  have lh := h.top.lt
  have c0 := h.top.cell (j := 0) rfl
  have c1 := h.top.cell (j := 1) rfl
  obtain ⟨n, hn⟩ : ∃ n, A.length = n := ⟨_, rfl⟩
  rw [hn] at c0 hsm ⊢
  have HN := Lib.hid hn
  obtain ⟨M, hM, hMn, hMi⟩ := h.map
  have HM := Lib.hid hM
  have HMN := Lib.hid hMn
  have HMI := Lib.hid hMi
  have HC0 := Lib.hid c0
  have HC1 := Lib.hid c1
  obtain ⟨w1, hw1⟩ : ∃ w1, w1 = w.alloc (.cells #[.int .u64 x.1, .int .i64 x.2] 37 (0, 0)) := ⟨_, rfl⟩
  have hU1 : Upd [] w w1 := by rw [hw1]; exact (Upd.refl _ w).alloc _
  have hB1 : Blk w1 w.heap.size 37 [.int .u64 x.1, .int .i64 x.2] := by rw [hw1]; exact heap_one w _
  have hs1 : w1.heap.size = w.heap.size + 1 := by rw [hw1]; simp
  clear h hx hn hM hMn hMi c0 c1
  go_enter Try.func13, Try.ntmps13
  go_wp2_with (first | (rw [← hw1]; fail) | (go_at_call 19; refine (has_at hb ao cap mb A x.2 _ (HH.out.upd ((Upd.refl [] w).alloc _) (by simp) (by simp) (by simp))).mono ?_; rintro e w2 ⟨rfl, hB⟩; rw [HX.out]; rw [← hw1] at hB))
  have hU2 := hU1.trans hB
  have lh2 := Nat.lt_of_lt_of_le lh hU2.size
  have d0 : w2.cell? ⟨hb, 0, none⟩ = some (.slice ao n cap) := by rw [hU2.cell lh (by simp)]; exact HC0.out
  have d1 : w2.cell? ⟨hb, 1, none⟩ = some (.map (some mb)) := by rw [hU2.cell lh (by simp)]; exact HC1.out
  have hX2 := hB1.upd hB (by simp)
  have x0 := hX2.cell (j := 0) rfl
  have x1 := hX2.cell (j := 1) rfl
  have lx := hX2.lt
  obtain ⟨w3, hput, hto⟩ := (HM.out.upd hU2.drew (by simp)).put (P := Try.prog) underlyingIntMap underlyingInt x.2 (.int .i64 n)
  have HTO := Lib.hid hto
  have HU2 := Lib.hid hU2
  have hs2 : w.heap.size + 1 ≤ w2.heap.size := by have := hB.size; omega
  clear hw1 hU1 hB1 hs1 hB hU2 hX2
  go_region
  go_wp2
  have hrow3 : RowO w3 37 2 ao n cap (A.flatMap itVs) := by rw [← HN.out]; exact (HH.out.row.upd HU2.out.drew (by simp)).upd HTO.out.upd (by intro b hb' e; simp at e; subst e; exact HH.out.d3 hb')
  have hs3 : w3.heap.size = w2.heap.size := HTO.out.size
  have lh3 : hb < w3.heap.size := by omega
  have lx3 : w.heap.size < w3.heap.size := by omega
  have e0 : w3.cell? ⟨hb, 0, none⟩ = some (.slice ao n cap) := by rw [HTO.out.cells]; exact d0
  have y0 : w3.cell? ⟨w.heap.size, 0, none⟩ = some (.int .u64 x.1) := by rw [HTO.out.cells]; exact x0
  have y1 : w3.cell? ⟨w.heap.size, 1, none⟩ = some (.int .i64 x.2) := by rw [HTO.out.cells]; exact x1
  have q1 : hb ∉ blkO ao := HH.out.d1
  have q2 : w.heap.size ∉ blkO ao := fun e => by have := HH.out.row.lt _ e; omega
  have hfree : ∀ {S : List Nat} {w' : World}, Upd S w3 w' → hb ∉ S → w'.frozen? ⟨hb, 0, none⟩ = false := fun hu hn => by
    rw [hu.frozen lh3 hn, HTO.out.frozens]; exact Blk.free (HH.out.top.upd HU2.out (by simp)) 0
  have HS3 := Lib.hid hs3
  clear d0 d1 x0 x1 hput hto hs3
  go_region_law
    ((refine step_append_lies _ (by rfl) _ _ _ (by rfl) 0 37 i0 _ 2 16 underlyingItems hi0 hz0 hz1 hz2 rfl (by omega) (.slice ao n cap) n (A.flatMap itVs) (by rfl) (hrow3.upd ((Upd.refl [] w3).alloc _).drew (by simp))
        ⟨w3.heap.size, 0, none⟩ 1 1 (itVs x) (by rfl) (by rfl) (World.news_of_block (cs := #[.int .u64 x.1, .int .i64 x.2]) (t := 37) (fr := (0, 0)) (heap_alloc_new w3 _)) (by simp [itVs, Value.oneCell'])
        (by omega) (by unfold maxLen; omega) (by omega) (by simp) (w3.heap.size + 1) (by simp) ?_; intro g cap1 w4 hrow4 hgrow hat hlt; have hU4 : Upd (blkO ao) w3 w4 := Upd.grownO (((Upd.refl _ w3).alloc _).drew) hgrow (fun _ h => h); have hz4 := hfree hU4 q1; have hc4 := hU4.cell lh3 q1 0; rw [e0] at hc4))
  all_goals
    have hg : g ∈ blkO ao ∨ w.heap.size ≤ g := by
      rcases hat with hat | hat
      · exact .inl (ownB _ _ _ hat)
      · right; omega
    have HW := Lib.hid (push_at HH.out HN.out hsm HMN.out HMI.out HX.out HU2.out.drew HTO.out hU4 hrow4 hg lh)
    have HI : Hid (n < (A ++ [x]).length) := by unfold Hid; rw [List.length_append, HN.out]; simp
    clear hrow3 hrow4 hgrow hat hz4 hc4 e0 y0 y1 hU4
    generalize hw5 : w4.setCell ⟨hb, 0, none⟩ (.slice (some ⟨g, 0, none⟩) (n + 1) cap1) = w5 at HW
    have c5 : w5.cell? ⟨hb, 0, none⟩ = some (.slice (some ⟨g, 0, none⟩) (n + 1) cap1) := by
      have := HW.out.1.top.cell (j := 0) rfl
      rw [List.length_append, HN.out] at this
      exact this
    go_wp2_with (first | rw [hw5] | (go_at_call 33; refine (sift_up hb g cap1 mb (A ++ [x]) n _ HW.out.1 HI.out).mono ?_; rintro e w6 ⟨rfl, hH6, hU6⟩))
    go_ret
    refine ⟨rfl, g, cap1, hH6, hg, HW.out.2.then hU6 (fun _ _ hm => hm) ?_⟩
    intro b hb2 hm
    simp at hm
    rcases hm with rfl | rfl
    · rcases hg with hg | hg
      · simp [hg]
      · omega
    · simp

theorem heap_push (hb : Nat) (L : List It) (fp : List Nat) (x : It) (w : World) (h : HeapIs w hb L fp) (hsm : L.length < 1000) :
    Calls Try.prog 13 #[.pointer (some ⟨hb, 0, none⟩), .agg #[.int .u64 x.1, .int .i64 x.2]] w (HeapTo w hb fp (.bool (!hasI L x.2)) (if hasI L x.2 then L else insI x L)) := by
  have hlt := h.lt
  obtain ⟨ao, cap, mb, A, h1, h2, h3, h4, rfl⟩ := h
  cases hx : hasI L x.2 with
  | true =>
    refine (push_no hb ao cap mb A x w h1 (by rw [hasI_perm h3]; exact hx)).mono ?_
    rintro e w' ⟨rfl, hU⟩
    exact ⟨rfl, _, ⟨ao, cap, mb, A, h1.upd hU (by simp) (by simp) (by simp), h2, h3, h4, rfl⟩, fun b hb => .inl hb, hU.nil⟩
  | false =>
    refine (push_yes hb ao cap mb A x w h1 (by rw [hasI_perm h3]; exact hx) (by rw [h3.length_eq]; exact hsm)).mono ?_
    rintro e w' ⟨rfl, g, cap', hH, hg, hU⟩
    refine ⟨rfl, _, ⟨_, cap', mb, _, hH, push_ord h2 x _ (Nat.le_refl _), (sUp_perm _ _ _ (by simp)).trans (push_perm h3 x), insI_srt h4 ((hasI_no _ _).1 hx), rfl⟩, ?_, hU⟩
    intro b hb'
    simp [blkO] at hb'
    rcases hb' with rfl | rfl | rfl
    · simp
    · simp
    · rcases hg with hg | hg
      · simp [hg]
      · exact .inr hg
end Go.Proofs.Ytilibinmbmgedaa
