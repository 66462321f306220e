/-
  The walks of a queue: Len, Bases. No condition.
-/
import Derived.Test.YtkepeolbpgnlbaaGreatDoorQd
set_option linter.unusedVariables false
set_option linter.unusedSimpArgs false
namespace Go.Proofs.YtkepeolbpgnlbaaGreatDoor
open Go.RowKit

theorem underlyingU64s : Tryz.prog.underlying 58 = some (.slice 29) := by kernel_rfl
theorem infoU64 : (Tryz.prog.info? 29).map (fun i => (i.zero, i.size, i.bytes)) = some (some (.int .u64 0), 1, 8) := by kernel_rfl
theorem u64_news (w : World) (v : Value) : ∀ (j : Nat) (u : Value), [v][j]? = some u → (w.alloc (.cells #[v] 29)).cell? ((⟨w.heap.size, 0, none⟩ : Addr).add j) = some u :=
  World.news_of_block (cs := #[v]) (t := 29) (fr := (0, 0)) (heap_alloc_new w _)

/-! ### Len -/
def lenTo (M : List Sh) (j : Nat) : Nat := (flatM (M.take j)).length
theorem lenTo_succ {M : List Sh} {j : Nat} (h : j < M.length) : lenTo M (j + 1) = lenTo M j + (shAt M j).2.length := by
  unfold lenTo flatM
  rw [List.take_add_one, List.getElem?_eq_getElem h, List.flatMap_append, List.length_append, shAt_get h]
  simp
theorem lenTo_all (M : List Sh) : lenTo M M.length = (flatM M).length := by unfold lenTo; rw [List.take_length]
theorem lenTo_le {M : List Sh} {L : List It} (h : QOk M L) (j : Nat) : lenTo M j ≤ L.length := by
  rw [← h.len]
  unfold lenTo flatM
  conv => rhs; rw [← List.take_append_drop j M, List.flatMap_append, List.length_append]
  omega
def LenAt (w : World) (M : List Sh) (n : Nat) (nv iv : Value) (wr : World) : Prop := ∃ j : Nat, iv = .int .i64 j ∧ nv = .int .i64 (lenTo M j) ∧ j ≤ n ∧ Upd [] w wr
section
variable {W w : World} {qb wd : Nat} {M : List Sh} {L : List It} {fp : List Nat}
set_option maxHeartbeats 4000000 in
theorem QG.len (h : QG W qb wd M L fp w) (hsm : L.length ≤ 100000) : Calls Tryz.prog 12 #[.pointer (some ⟨qb, 0, none⟩)] w (RetUpd [] w (.int .i64 L.length)) := by
  obtain ⟨sr, cap, t, sb, F, h1, h2, rfl⟩ := h
  obtain ⟨p0, p1, pp, lq, ls⟩ := h1.cells
  have HLN : Hid (∀ i, i < M.length → ∀ w', Upd [] w w' → Calls Tryz.prog 43 #[.pointer (some ⟨sb i, 0, none⟩)] w' (RetUpd [] w' (.int .i64 (shAt M i).2.length))) := fun i hi w' hu => ((h1.sh i hi).upd hu).len
  have HLL : Hid (∀ j, lenTo M j ≤ L.length) := lenTo_le h2
  have HS : Hid (∀ j, j < M.length → lenTo M (j + 1) = lenTo M j + (shAt M j).2.length) := fun j hj => lenTo_succ hj
  have HE : Hid (lenTo M M.length = L.length) := by unfold Hid; rw [lenTo_all]; exact h2.len
  have h16 := h2.small
  have HPP := Lib.hid pp
  obtain ⟨n, hn⟩ : ∃ n, M.length = n := ⟨_, rfl⟩
  rw [hn] at p0 h16 HLN HS HE HPP
  obtain ⟨r, hr⟩ : ∃ r, L.length = r := ⟨_, rfl⟩
  rw [hr] at hsm HLL HE ⊢
  clear h1 h2 pp hn hr
  go_enter Tryz.func12, Tryz.ntmps12
  go_wp2_with fail
  go_loopw [3, 11] (fun nv iv wr => LenAt w M n nv iv wr) (fun _ iv _ => n - (intOf iv).toNat)
  case atStart => exact ⟨0, rfl, rfl, by omega, Upd.refl _ _⟩
  case round =>
    obtain ⟨j, rfl, rfl, hj, hU⟩ := hrel
    have HU := Lib.hid hU
    by_cases hlt : j < n
    · have t1 : decide (j < n) = true := by simp [hlt]
      have b1 : (j : Int) < (n : Int) := by omega
      have pj := (hU.cell ls (by simp) j).trans (HPP.out j hlt)
      have hls := Nat.lt_of_lt_of_le ls hU.size
      have hstep := HS.out j hlt
      have hle := HLL.out (j + 1)
      obtain ⟨a, ha⟩ : ∃ a, lenTo M j = a := ⟨_, rfl⟩
      obtain ⟨b, hb⟩ : ∃ b, (shAt M j).2.length = b := ⟨_, rfl⟩
      have HC := Lib.hid (HLN.out j hlt)
      rw [hb] at HC hstep
      rw [ha] at hstep ⊢
      rw [hstep] at hle
      have HST := Lib.hid hstep
      clear hU hstep ha hb
      go_wp2_with fail
      refine (HC.out wr HU.out).mono ?_
      rintro e w2 ⟨rfl, hU2⟩
      have HU2 := Lib.hid (HU.out.trans hU2)
      clear hU2
      go_wp2
      exact ⟨⟨j + 1, by congr 1, by rw [HST.out]; congr 1, by omega, HU2.out⟩, by first | (simp [intOf]; done) | (simp [intOf]; omega)⟩
    · have t1 : decide (j < n) = false := by simp; omega
      have e : j = n := by omega
      subst e
      rw [HE.out]
      clear hU
      go_wp2
      go_ret
      exact ⟨rfl, HU.out⟩

/-! ### Bases -/
def basesV (M : List Sh) : List Value := M.map fun s => .int .u64 s.1
theorem basesV_snoc {M : List Sh} {j : Nat} (h : j < M.length) : basesV (M.take j) ++ [.int .u64 ((shAt M j).1 : Int)] = basesV (M.take (j + 1)) := by
  unfold basesV
  rw [List.take_add_one, List.getElem?_eq_getElem h, List.map_append, shAt_get h]; rfl

/-- Bases in an array of its own. -/
def ToldB (w : World) (M : List Sh) (e : Ending) (w' : World) : Prop :=
  ∃ ao cap, e = .returned (.slice ao M.length cap) ∧ RowO w' 29 1 ao M.length cap (basesV M) ∧ (∀ c ∈ blkO ao, w.heap.size ≤ c) ∧ Upd [] w w'
def BasesAt (w : World) (M : List Sh) (n : Nat) (lv iv : Value) (wr : World) : Prop :=
  ∃ (j : Nat) (ao : Option Addr) (cap : Nat), iv = .int .i64 j ∧ lv = .slice ao j cap ∧ j ≤ n ∧ RowO wr 29 1 ao j cap (basesV (M.take j)) ∧ (∀ c ∈ blkO ao, w.heap.size ≤ c) ∧ Upd [] w wr
theorem bases_round {w wr w2 : World} {M : List Sh} {n j : Nat} {ao ao1 : Option Addr} {cap1 : Nat} {o : Obj} (hj : j < M.length) (hn : M.length = n) (hf : ∀ c ∈ blkO ao, w.heap.size ≤ c) (hU : Upd [] w wr) (hA : Apped (wr.alloc o) 29 1 ao (j + 1) (basesV (M.take j) ++ [.int .u64 ((shAt M j).1 : Int)]) ao1 cap1 w2) :
    BasesAt w M n (.slice ao1 (j + 1) cap1) (.int .i64 ((j : Int) + 1)) w2 := by
  have hs := hU.size
  refine ⟨j + 1, ao1, cap1, by congr 1, rfl, by omega, by rw [← basesV_snoc hj]; exact hA.row, fun c hc => ?_, (hU.alloc o).then hA.upd (fun _ _ h => h) (fun c hc h => by have := hf c h; omega)⟩
  rcases hA.at_ c hc with h | h
  · exact hf c h
  · simp at h; omega

set_option maxHeartbeats 4000000 in
theorem QG.bases (h : QG W qb wd M L fp w) : Calls Tryz.prog 25 #[.pointer (some ⟨qb, 0, none⟩)] w (ToldB w M) := by
  obtain ⟨i0, hi0, hz0, hz1, hz2⟩ := info_parts infoU64
  obtain ⟨sr, cap, t, sb, F, h1, h2, rfl⟩ := h
  obtain ⟨p0, p1, pp, lq, ls⟩ := h1.cells
  have HLN : Hid (∀ i, i < M.length → ∀ w', Upd [] w w' → Calls Tryz.prog 56 #[.pointer (some ⟨sb i, 0, none⟩)] w' (fun e w'' => e = .returned (.int .u64 (shAt M i).1) ∧ w' = w'')) := fun i hi w' hu => ((h1.sh i hi).upd hu).base_
  have h16 := h2.small
  have HPP := Lib.hid pp
  obtain ⟨n, hn⟩ : ∃ n, M.length = n := ⟨_, rfl⟩
  have HN := Lib.hid hn
  rw [hn] at p0 h16 HLN HPP
  clear h1 h2 pp hn
  go_enter Tryz.func25, Tryz.ntmps25
  go_wp2_with fail
  go_loopw [3, 11] (fun lv iv wr => BasesAt w M n lv iv wr) (fun _ iv _ => n - (intOf iv).toNat)
  case atStart => exact ⟨0, none, 0, rfl, rfl, by omega, RowO.nil _ _ _, fun c hc => (by cases hc), Upd.refl _ _⟩
  case round =>
    obtain ⟨j, ao, capj, rfl, rfl, hj, hR, hf, hU⟩ := hrel
    have HU := Lib.hid hU
    have HF := Lib.hid hf
    have HR := Lib.hid hR
    by_cases hlt : j < n
    · have t1 : decide (j < n) = true := by simp [hlt]
      have b1 : (j : Int) < (n : Int) := by omega
      have pj := (hU.cell ls (by simp) j).trans (HPP.out j hlt)
      have hls := Nat.lt_of_lt_of_le ls hU.size
      have HC := Lib.hid (HLN.out j hlt)
      have HLT : Hid (j < M.length) := by unfold Hid; rw [HN.out]; exact hlt
      obtain ⟨b, hb⟩ : ∃ b, (shAt M j).1 = b := ⟨_, rfl⟩
      have HB := Lib.hid hb
      rw [hb] at HC
      have HR2 := Lib.hid (hR.upd ((Upd.refl [] wr).alloc (.cells #[.int .u64 (b : Int)] 29)) (by simp))
      have HN2 := Lib.hid (u64_news wr (.int .u64 (b : Int)))
      have HG6 : Hid (∀ u ∈ [Value.int .u64 (b : Int)], u.oneCell' = true) := by unfold Hid; simp [Value.oneCell']
      have HG7 : Hid (j + 1 ≤ maxLen) := by unfold Hid maxLen; omega
      have HG8 : Hid ((j + 1) * 8 ≤ 140737488355328) := by unfold Hid; omega
      clear hU hf hR hb
      go_wp2_with fail
      refine (HC.out wr HU.out).mono ?_
      rintro e w2 ⟨rfl, rfl⟩
      go_wp2_with (at_builtin; (refine wpList_app _ rfl _ _ _ rfl 29 i0 _ 1 8 underlyingU64s hi0 hz0 hz1 hz2 rfl Nat.one_pos ao j capj (basesV (M.take j)) rfl HR2.out ⟨wr.heap.size, 0, none⟩ 1 1 [Value.int IntKind.u64 (b : Int)] rfl rfl HN2.out HG6.out HG7.out HG8.out ?_); (intro ao1 cap1 w3 hA; have HA := Lib.hid hA; clear hA))
      have hA := HA.out
      rw [← HB.out] at hA
      exact ⟨bases_round HLT.out HN.out HF.out HU.out hA, by first | (simp [intOf]; done) | (simp [intOf]; omega)⟩
    · have t1 : decide (j < n) = false := by simp; omega
      have e : j = n := by omega
      have hR2 : RowO wr 29 1 ao M.length capj (basesV M) := by
        have := hR
        rw [e, ← HN.out, List.take_length] at this
        exact this
      have HE : Hid (j = M.length) := by unfold Hid; rw [HN.out]; exact e
      have HR2 := Lib.hid hR2
      clear hU hf hR hR2 e
      go_wp2
      go_ret
      exact ⟨ao, capj, by rw [HE.out]; rfl, HR2.out, HF.out, HU.out⟩
end
end Go.Proofs.YtkepeolbpgnlbaaGreatDoor
