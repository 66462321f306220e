/-
  The walks of ref16's NewCore, known. No condition.
-/
import Derived.Test.YtolohheflbmfaaaGreatDoorCg
set_option linter.unusedVariables false
set_option linter.unusedSimpArgs false
namespace Go.Proofs.YtolohheflbmfaaaGreatDoor
open Go.RowKit
def NewRC (W w : World) (sh wd : Int) (e : Ending) (w' : World) : Prop := ∃ kb G, e = .returned (.pointer (some ⟨kb, 0, none⟩)) ∧ RG16 W kb (heldN wd) 0 (newC (leavesOf sh)) G w' ∧ Upd [] w w' ∧ ∀ c ∈ G, w.heap.size ≤ c

set_option maxRecDepth 100000 in
set_option maxHeartbeats 8000000 in
theorem RG16.new {W w : World} (hU : Upd [] W w) (sh slots workers wd : Int) (unit : Int) : Calls Tryz.prog 34 #[.agg #[.int .i64 sh, .int .i64 slots, .int .i64 workers, .int .i64 wd, .int .u64 unit]] w (NewRC W w sh wd) := by
  have HN : Hid (∀ w', Upd [] w w' → Calls Tryz.prog 54 #[.int .i64 sh, .int .i64 wd] w' (NewRQ W w' sh wd)) := fun w' hu => RQ.new (hU.trans hu) sh wd
  have HS := Lib.hid hU.size
  clear hU
  go_enter Tryz.func34, Tryz.ntmps34
  go_wp2_with fail
  refine (HN.out _ ((Upd.refl [] w).alloc _)).mono ?_
  rintro e w2 ⟨rb, fq, rfl, hQ, hU2, hf⟩
  have HQ := Lib.hid hQ
  have HU2 := Lib.hid (((Upd.refl [] w).alloc (.cells #[.int .i64 sh, .int .i64 slots, .int .i64 workers, .int .i64 wd, .int .u64 unit] 24)).trans hU2)
  have HF : Hid (∀ c ∈ fq, w.heap.size ≤ c) := fun c hc => by have := hf c hc; simp at this; omega
  clear hQ hU2 hf
  go_wp2
  go_ret
  have hs := HU2.out.size
  have hS := HS.out
  have uA : Upd [] w2 (w2.alloc (.cells #[.pointer (some ⟨rb, 0, none⟩), .int .u64 0, .int .u64 0, .int .i64 0, .slice none 0 0, .slice none 0 0, .bool false, .int .i64 0, .int .u64 0] 91)) := (Upd.refl [] w2).alloc _
  refine ⟨w2.heap.size, _, rfl, ⟨rb, none, none, 0, 0, [], [], 0, 0, fq, { blk := Blk.new w2 91 [.pointer (some ⟨rb, 0, none⟩), .int .u64 0, .int .u64 0, .int .i64 0, .slice none 0 0, .slice none 0 0, .bool false, .int .i64 0, .int .u64 0], rowL := RowO.nil _ _ _, rowP := RowO.nil _ _ _, q := HQ.out.upd uA, nd := List.nodup_nil, th := fun o => rfl, ow := fun f => rfl, even := ⟨0, rfl⟩, pk := fun h => (by cases h), d1 := by simp [blkO], d2 := by simp [blkO], d3 := by simp [blkO], far := fun c hc e => ?_, new := fun c hc => ?_, lenL := by simp, lenP := by simp }, rfl, Nat.le_refl _, Nat.le_refl _⟩, HU2.out.trans uA, fun c hc => ?_⟩
  · have := HQ.out.lt c e
    simp only [blkO, List.append_nil, List.mem_cons, List.not_mem_nil, or_false] at hc
    omega
  · simp only [blkO, List.append_nil, List.mem_cons, List.not_mem_nil, or_false] at hc
    omega
  · simp only [rcBlks, blkO, List.append_nil, List.mem_cons, List.mem_append, List.not_mem_nil, or_false] at hc
    rcases hc with h | h
    · omega
    · exact HF.out c h

/-! ### known -/
def KnownAt (R : List Wk) (o : Int) (w : World) (iv : Value) (wr : World) : Prop := ∃ i : Nat, iv = .int .i64 i ∧ i ≤ R.length ∧ (∀ j k, j < i → R[j]? = some k → k.obj ≠ o) ∧ wr = w

/-- What known leaves. -/
def KnownTo (W w : World) (kb rb wd : Nat) (aoL aoP : Option Addr) (cP : Nat) (R : List Wk) (P : List Int) (at_ key : Nat) (s : CS) (fq : List Nat) (o : Int) (e : Ending) (w' : World) : Prop :=
  e = .returned (.int .i64 (idxW R o)) ∧ ∃ aoL' cL', RCAt W w' kb rb wd aoL' aoP cL' cP (knownR R o) P at_ key s fq ∧ Fr (rcBlks kb aoL aoP ++ fq) (rcBlks kb aoL' aoP ++ fq) w w'
section
variable {W w : World} {kb rb wd : Nat} {aoL aoP : Option Addr} {cL cP : Nat} {R : List Wk} {P : List Int} {at_ key : Nat} {s : CS} {fq : List Nat}
set_option maxRecDepth 100000 in
set_option maxHeartbeats 8000000 in
theorem RCAt.known (h : RCAt W w kb rb wd aoL aoP cL cP R P at_ key s fq) (hsm : R.length < 1000) (o : Int) :
    Calls Tryz.prog 39 #[.pointer (some ⟨kb, 0, none⟩), .int .i64 o] w (KnownTo W w kb rb wd aoL aoP cP R P at_ key s fq o) := by
  have HH := Lib.hid h
  obtain ⟨-, -, -, -, c4, -, -, -, -, lb⟩ := h.cells
  have z4 := h.blk.free 4
  obtain ⟨n, hn⟩ : ∃ n, R.length = n := ⟨_, rfl⟩
  rw [hn] at c4 hsm
  have HN := Lib.hid hn
  clear h hn
  go_enter Tryz.func39, Tryz.ntmps39
  go_wp2
  go_loopw [5] (fun iv wr => KnownAt R o w iv wr) (fun iv _ => R.length - (intOf iv).toNat)
  case atStart => exact ⟨0, rfl, by omega, fun j k hj => by omega, rfl⟩
  case round =>
    obtain ⟨i, rfl, hi, hj, rfl⟩ := hrel
    have HJ := Lib.hid hj
    rw [HN.out] at hi
    clear hj
    by_cases hlt : i < n
    · have t1 : decide (i < n) = true := by simp [hlt]
      have b1 : (i : Int) < (n : Int) := by omega
      obtain ⟨k, hk⟩ : ∃ k, R[i]? = some k := ⟨_, List.getElem?_eq_getElem (by rw [HN.out]; exact hlt)⟩
      obtain ⟨g, hg, -, x0, -⟩ := HH.out.woken hk
      subst hg
      obtain ⟨y, hy⟩ : ∃ y, k.obj = y := ⟨_, rfl⟩
      rw [hy] at x0
      have HY := Lib.hid hy
      have HK := Lib.hid hk
      clear hk hy
      by_cases he : y = o
      · have t2 : (y == o) = true := by simp [he]
        have hp : Hid (idxW R o = i ∧ i < R.length) := idxW_at HK.out (by rw [HY.out]; exact he) HJ.out
        clear he
        go_wp2
        go_ret
        exact ⟨by rw [hp.out.1]; rfl, _, _, by rw [knownR_in (by rw [hp.out.1]; exact hp.out.2)]; exact HH.out, Fr.refl _ _⟩
      · have t2 : (y == o) = false := by simp [he]
        have hne : Hid (y ≠ o) := he
        clear he
        go_wp2
        exact ⟨⟨i + 1, by congr 1, by rw [HN.out]; omega, fun j k' hj' hk' => by
          by_cases e : j = i
          · subst e
            have := HK.out
            rw [hk'] at this
            cases this
            rw [HY.out]; exact hne.out
          · exact HJ.out j k' (by omega) hk', rfl⟩, by have := HN.out; first | (simp [intOf]; done) | (simp [intOf]; omega)⟩
    · have t1 : decide (i < n) = false := by simp; omega
      have hin : i = n := by omega
      subst hin
      have hp : Hid (idxW R o = R.length) := idxW_no (by rw [HN.out]; exact HJ.out)
      obtain ⟨i0, hi0, hz0, hz1, hz2⟩ := info_parts infoWoken
      have HG : Hid (RowO (wr.alloc (.cells #[.int .i64 o, .int .i64 0, .int .i64 0, .int .u64 0, .int .u64 0, .int .u64 0] 93)) 93 6 aoL i cL (R.flatMap wkVs)) := by
        have := (HH.out.upd ((Upd.refl [] wr).alloc (.cells #[.int .i64 o, .int .i64 0, .int .i64 0, .int .u64 0, .int .u64 0, .int .u64 0] 93))).rowL
        rw [HN.out] at this; exact this
      have HNW : Hid (∀ j u, (wkVs (zWk o))[j]? = some u → (wr.alloc (.cells #[.int .i64 o, .int .i64 0, .int .i64 0, .int .u64 0, .int .u64 0, .int .u64 0] 93)).cell? ((⟨wr.heap.size, 0, none⟩ : Addr).add j) = some u) :=
        World.news_of_block (cs := #[.int .i64 o, .int .i64 0, .int .i64 0, .int .u64 0, .int .u64 0, .int .u64 0]) (t := 93) (fr := (0, 0)) (heap_alloc_new wr _)
      have HG6 : Hid (∀ u ∈ wkVs (zWk o), u.oneCell' = true) := by unfold Hid wkVs; simp [Value.oneCell']
      have HG7 : Hid (i + 1 ≤ maxLen) := by unfold Hid maxLen; omega
      have HG8 : Hid ((i + 1) * 48 ≤ 140737488355328) := by unfold Hid; omega
      have e1 : IntKind.i64.wrap ((i : Int) + 1 - 1) = (i : Int) := by rw [IntKind.wrap_i64]; omega
      have HNK : Hid (∀ x ∈ R, x.obj ≠ (zWk o).obj) := fun x hx => by
        obtain ⟨j, hj', e⟩ := List.getElem_of_mem hx
        exact HJ.out j x (by rw [← HN.out]; exact hj') (by rw [List.getElem?_eq_getElem hj', e])
      clear hlt hi
      go_wp2_with (at_builtin; (refine wpList_app _ rfl _ _ _ rfl 93 i0 _ 6 48 underlyingWokens hi0 hz0 hz1 hz2 rfl (by omega) aoL i cL (R.flatMap wkVs) rfl HG.out ⟨wr.heap.size, 0, none⟩ 1 1 (wkVs (zWk o)) rfl rfl HNW.out HG6.out HG7.out HG8.out ?_); (intro ao1 cap1 w3 hA; have k4 := ((hA.upd.cell (by simp; omega) HH.out.d1 4).trans ((((Upd.refl [] wr).alloc _).cell lb (by simp) 4))).trans c4; have f4 := ((hA.upd.frozen (by simp; omega) HH.out.d1 4).trans ((((Upd.refl [] wr).alloc _).frozen lb (by simp) 4))).trans z4; have HA := Lib.hid hA; clear hA))
      go_ret
      have hA := HA.out
      rw [← HN.out] at hA
      obtain ⟨h1, h2⟩ := HH.out.grow ((Upd.refl [] wr).alloc _) hA HNK.out (findW_app HNK.out) (by rw [HN.out]; exact hsm)
      rw [HN.out] at h1 h2
      exact ⟨by rw [hp.out, HN.out]; rfl, _, _, by rw [knownR_out hp.out]; exact h1, h2⟩
end
end Go.Proofs.YtolohheflbmfaaaGreatDoor
