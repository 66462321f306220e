/-
  The document's queue, in memory: New, Push, first. No condition.
-/
import Derived.Test.YtkepeolbpgnlbaaGreatDoorQf
import Derived.Test.YtkepeolbpgnlbaaGreatDoorPB
set_option linter.unusedVariables false
set_option linter.unusedSimpArgs false
namespace Go.Proofs.YtkepeolbpgnlbaaGreatDoor
open Go.RowKit

/-- Where its parts lie, and what they hold. -/
structure RQAt (W w : World) (qb wd : Nat) (M : List Sh) (sr cap : Nat) (sb : Nat → Nat) (F : Nat → List Nat) : Prop where
  top : Blk w qb 34 [.slice (some ⟨sr, 0, none⟩) M.length cap]
  row : Row w 44 1 sr M.length cap (ptrs sb M.length)
  sh : ∀ i, i < M.length → RG W (sb i) (shAt M i).1 wd true (shAt M i).2 (F i) w
  dis : ∀ i j, i < M.length → j < M.length → i ≠ j → ∀ c ∈ F i, c ∉ F j
  own : ∀ i, i < M.length → ∀ c ∈ F i, c ∉ [qb, sr]
  q1 : qb ≠ sr
  newH : ∀ c ∈ [qb, sr], W.heap.size ≤ c
section
variable {W w : World} {qb wd : Nat} {M : List Sh} {sr cap : Nat} {sb : Nat → Nat} {F : Nat → List Nat}
theorem RQAt.lt (h : RQAt W w qb wd M sr cap sb F) : ∀ c ∈ fpN [qb, sr] M.length F, c < w.heap.size := by
  intro c hc
  rcases mem_fpN.1 hc with hc | ⟨i, hi, hc⟩
  · simp only [List.mem_cons, List.not_mem_nil, or_false] at hc
    rcases hc with rfl | rfl
    · exact h.top.lt
    · exact h.row.lt
  · exact (h.sh i hi).lt c hc
theorem RQAt.newB (h : RQAt W w qb wd M sr cap sb F) : ∀ c ∈ fpN [qb, sr] M.length F, W.heap.size ≤ c := by
  intro c hc
  rcases mem_fpN.1 hc with hc | ⟨i, hi, hc⟩
  · exact h.newH c hc
  · exact (h.sh i hi).newB c hc
theorem RQAt.updS (h : RQAt W w qb wd M sr cap sb F) {S : List Nat} {w' : World} (hu : Upd S w w') (hs : ∀ c ∈ fpN [qb, sr] M.length F, c ∉ S) : RQAt W w' qb wd M sr cap sb F :=
  { h with
    top := h.top.upd hu (hs _ (mem_fpN.2 (.inl (by simp))))
    row := h.row.upd hu (hs _ (mem_fpN.2 (.inl (by simp))))
    sh := fun i hi => (h.sh i hi).upd hu (fun c hc => hs c (mem_fpN.2 (.inr ⟨i, hi, hc⟩))) }
theorem RQAt.upd (h : RQAt W w qb wd M sr cap sb F) {w' : World} (hu : Upd [] w w') : RQAt W w' qb wd M sr cap sb F := h.updS hu (by simp)

/-- A deed on one of its wheels. -/
theorem RQAt.shard (h : RQAt W w qb wd M sr cap sb F) {i : Nat} (hi : i < M.length) {b : Nat} {K : List It} {w' : World} (k : RGTo W (sb i) b wd true K (F i) w w') :
    ∃ F', RQAt W w' qb wd (M.set i (b, K)) sr cap sb F' ∧ Fr (fpN [qb, sr] M.length F) (fpN [qb, sr] M.length F') w w' := by
  obtain ⟨Fi, k1, k2, k3⟩ := k
  have hlt := h.lt
  have hin : ∀ j, j < M.length → ∀ c ∈ F j, c < w.heap.size := fun j hj c hc => hlt c (mem_fpN.2 (.inr ⟨j, hj, hc⟩))
  have hhd : ∀ c ∈ [qb, sr], c < w.heap.size := fun c hc => hlt c (mem_fpN.2 (.inl hc))
  have hnh : ∀ c ∈ [qb, sr], c ∉ F i := fun c hc e => h.own i hi c e hc
  refine ⟨updF F i Fi, ?_, fun c hc => ?_, k3.mono (fun c _ hc => mem_fpN.2 (.inr ⟨i, hi, hc⟩))⟩
  · refine { h with top := ?_, row := ?_, sh := fun j hj => ?_, dis := fun a j ha hj haj c hc => ?_, own := fun j hj c hc => ?_ }
    · rw [List.length_set]; exact h.top.upd k3 (hnh _ (by simp))
    · rw [List.length_set]; exact h.row.upd k3 (hnh _ (by simp))
    · rw [List.length_set] at hj
      by_cases e : j = i
      · subst e; rw [shAt_set hi, if_pos rfl, updF_same]; exact k1
      · rw [shAt_set hi, if_neg e, updF_other _ _ e]
        exact (h.sh j hj).upd k3 (h.dis j i hj hi e)
    · rw [List.length_set] at ha hj
      by_cases ea : a = i
      · subst ea
        rw [updF_same] at hc
        rw [updF_other _ _ (Ne.symm haj)]
        rcases k2 c hc with e | e
        · exact h.dis a j ha hj haj c e
        · intro e2; have := hin j hj c e2; omega
      · rw [updF_other _ _ ea] at hc
        by_cases ej : j = i
        · subst ej
          rw [updF_same]
          intro e2
          rcases k2 c e2 with e | e
          · exact h.dis a j ha hj haj c hc e
          · have := hin a ha c hc; omega
        · rw [updF_other _ _ ej]; exact h.dis a j ha hj haj c hc
    · rw [List.length_set] at hj
      by_cases ej : j = i
      · subst ej
        rw [updF_same] at hc
        rcases k2 c hc with e | e
        · exact h.own j hj c e
        · intro e2; have := hhd c e2; omega
      · rw [updF_other _ _ ej] at hc; exact h.own j hj c hc
  · rcases mem_fpN.1 hc with hc | ⟨j, hj, hc⟩
    · exact .inl (mem_fpN.2 (.inl hc))
    · by_cases ej : j = i
      · subst ej
        rw [updF_same] at hc
        rcases k2 c hc with e | e
        · exact .inl (mem_fpN.2 (.inr ⟨j, hj, e⟩))
        · exact .inr e
      · rw [updF_other _ _ ej] at hc
        exact .inl (mem_fpN.2 (.inr ⟨j, hj, hc⟩))
theorem RQAt.cells (h : RQAt W w qb wd M sr cap sb F) : w.cell? ⟨qb, 0, none⟩ = some (.slice (some ⟨sr, 0, none⟩) M.length cap) ∧ (∀ i, i < M.length → w.cell? ⟨sr, i, none⟩ = some (.pointer (some ⟨sb i, 0, none⟩))) ∧ qb < w.heap.size ∧ sr < w.heap.size :=
  ⟨h.top.cell (j := 0) rfl, fun i hi => h.row.cell (ptrs_get hi), h.top.lt, h.row.lt⟩
end
/-- The document's queue in blocks that are new since W. -/
def RQ (W : World) (qb wd : Nat) (M : List Sh) (fp : List Nat) (w : World) : Prop := ∃ sr cap sb F, RQAt W w qb wd M sr cap sb F ∧ fp = fpN [qb, sr] M.length F
def RQTo (W : World) (qb wd : Nat) (M : List Sh) (fp : List Nat) (w w' : World) : Prop := ∃ fp', RQ W qb wd M fp' w' ∧ Fr fp fp' w w'
section
variable {W w : World} {qb wd : Nat} {M : List Sh} {L : List It} {fp : List Nat}
theorem RQ.lt (h : RQ W qb wd M fp w) : ∀ c ∈ fp, c < w.heap.size := by obtain ⟨_, _, _, _, h, rfl⟩ := h; exact h.lt
theorem RQ.newB (h : RQ W qb wd M fp w) : ∀ c ∈ fp, W.heap.size ≤ c := by obtain ⟨_, _, _, _, h, rfl⟩ := h; exact h.newB
theorem RQ.updS (h : RQ W qb wd M fp w) {S : List Nat} {w' : World} (hu : Upd S w w') (hs : ∀ c ∈ fp, c ∉ S) : RQ W qb wd M fp w' := by
  obtain ⟨sr, cap, sb, F, h1, rfl⟩ := h; exact ⟨sr, cap, sb, F, h1.updS hu hs, rfl⟩
theorem RQ.upd (h : RQ W qb wd M fp w) {w' : World} (hu : Upd [] w w') : RQ W qb wd M fp w' := h.updS hu (by simp)
theorem RQTo.up {w' : World} (h : RQTo W qb wd M fp w w') : Upd fp w w' := by obtain ⟨_, _, h⟩ := h; exact h.2
theorem RQAt.to {sr cap : Nat} {sb : Nat → Nat} {F : Nat → List Nat} (h : RQAt W w qb wd M sr cap sb F) {i : Nat} (hi : i < M.length) {b : Nat} {K : List It} {w' : World} (k : RGTo W (sb i) b wd true K (F i) w w') : RQTo W qb wd (M.set i (b, K)) (fpN [qb, sr] M.length F) w w' := by
  obtain ⟨F', k1, k2⟩ := h.shard hi k
  exact ⟨_, ⟨sr, cap, sb, F', k1, by rw [List.length_set]⟩, k2⟩
theorem RQTo.after {w0 w' w'' : World} (h0 : Upd [] w0 w) (h : RQTo W qb wd M fp w w') (h1 : Upd [] w' w'') : RQTo W qb wd M fp w0 w'' := by
  obtain ⟨fp', k1, k2⟩ := h; exact ⟨fp', k1.upd h1, ((Fr.of h0).trans k2).up h1⟩
end

/-! ### Push -/
section
variable {W w : World} {qb wd : Nat} {M : List Sh} {L : List It} {fp : List Nat}
set_option maxRecDepth 100000 in
set_option maxHeartbeats 8000000 in
theorem RQ.push (h : RQ W qb wd M fp w) (hok : QOk M L) (k : Nat) (hk : k < 18446744073709551616) (id : Int) (hsm : L.length < 1000) :
    Calls Tryz.prog 33 #[.pointer (some ⟨qb, 0, none⟩), .agg #[.int .u64 k, .int .i64 id]] w (fun e w' => e = .returned (.bool (takeQ M k id)) ∧ RQTo W qb wd (pushM M k id) fp w w') := by
  obtain ⟨sr, cap, sb, F, h1, rfl⟩ := h
  obtain ⟨p0, pp, lq, ls⟩ := h1.cells
  by_cases hid : 0 ≤ id
  · obtain ⟨r1, r2, r3⟩ := rt_eqs hok.one hok.small hid
    have pi := pp _ r2
    obtain ⟨i, hi⟩ : ∃ i, rt M.length id = i := ⟨_, rfl⟩
    have htk := takeS_at (k := k) hid hi
    rw [hi] at r1 r2 r3 pi
    have h16 := hok.small
    have HP : Hid (∀ w', Upd [] w w' → Calls Tryz.prog 60 #[.pointer (some ⟨sb i, 0, none⟩), .agg #[.int .u64 k, .int .i64 id]] w' (fun e w'' => e = .returned (.bool (takeQ M k id)) ∧ RGTo W (sb i) (shAt M i).1 wd true (if takeQ M k id = true then insI ((k : Int), id) (shAt M i).2 else (shAt M i).2) (F i) w' w'')) := fun w' hu => by
      have := ((h1.sh i r2).upd hu (by simp)).push_all k hk id (Nat.lt_of_le_of_lt (hok.len_sh r2) hsm)
      rw [htk] at this; exact this
    have HM : Hid (pushM M k id = M.set i ((shAt M i).1, if takeQ M k id = true then insI ((k : Int), id) (shAt M i).2 else (shAt M i).2)) := by
      unfold Hid pushM; rw [hi]; split
      · rfl
      · exact (set_shAt r2).symm
    have HQ := Lib.hid h1
    have HR2 := Lib.hid r2
    have h1n := hok.one
    obtain ⟨n, hn⟩ : ∃ n, M.length = n := ⟨_, rfl⟩
    rw [hn] at p0 r1 r2 h16 h1n
    have d1 : decide (id < 0) = false := by simp [hid]
    have d2 : ((n : Int) == 0) = false := by simp; omega
    have b1 : (i : Int) < (n : Int) := by omega
    have b2 : (0 : Int) ≤ (i : Int) := by omega
    clear h1 hok pp hi hn htk
    go_enter Tryz.func33, Tryz.ntmps33
    go_wp2_with fail
    refine wp_region_tail 15 (by kernel_rfl) (by kernel_rfl) ?_
    simp only [List.take_succ_cons, List.take_zero, List.drop_succ_cons, List.drop_zero]
    repeat (go_big_quiet_step (fail))
    refine wpQuiet_nil ?_
    go_wp2_with fail
    refine (HP.out _ ((Upd.refl [] w).alloc _).drew).mono ?_
    rintro e w2 ⟨rfl, h2⟩
    have HT := Lib.hid (RQTo.after ((Upd.refl [] w).alloc (.cells #[.int .u64 (k : Int), .int .i64 id] 37)).drew ((HQ.out.upd ((Upd.refl [] w).alloc (.cells #[.int .u64 (k : Int), .int .i64 id] 37)).drew).to HR2.out h2) (Upd.refl [] w2))
    rw [← HM.out] at HT
    clear h2
    go_wp2
    go_ret
    exact ⟨rfl, HT.out⟩
  · have HT : Hid (takeQ M k id = false) := by unfold Hid takeQ; simp [hid]
    have HM : Hid (pushM M k id = M) := by unfold Hid pushM; rw [HT.out]; simp
    rw [HT.out, HM.out]
    have HQ : Hid (RQ W qb wd M (fpN [qb, sr] M.length F) w) := ⟨sr, cap, sb, F, h1, rfl⟩
    have d1 : decide (id < 0) = true := by simp; omega
    clear h1 pp hok
    go_enter Tryz.func33, Tryz.ntmps33
    go_wp2
    go_ret
    exact ⟨rfl, _, HQ.out.upd ((Upd.refl [] w).alloc _), Fr.of ((Upd.refl [] w).alloc _)⟩
end

/-! ### first -/
def hasM (M : List Sh) : List Bool := (leavesM M).map (·.2)
def headM (M : List Sh) : List It := (leavesM M).map (·.1)
theorem hasM_get {M : List Sh} {i : Nat} (h : i < M.length) : (hasM M).getD i false = (leafOf (shAt M i).2).2 := by
  unfold hasM
  rw [List.getD_eq_getElem?_getD, List.getElem?_map, List.getElem?_eq_getElem (by rw [leavesM_len]; exact h)]
  have := leavesM_get h
  rw [List.getD_eq_getElem?_getD, List.getElem?_eq_getElem (by rw [leavesM_len]; exact h)] at this
  simp only [Option.getD_some] at this
  simp [this]
theorem headM_get {M : List Sh} {i : Nat} (h : i < M.length) : xAt (headM M) (i : Int) = (leafOf (shAt M i).2).1 := by
  unfold headM xAt
  rw [Int.toNat_natCast, List.getD_eq_getElem?_getD, List.getElem?_map, List.getElem?_eq_getElem (by rw [leavesM_len]; exact h)]
  have := leavesM_get h
  rw [List.getD_eq_getElem?_getD, List.getElem?_eq_getElem (by rw [leavesM_len]; exact h)] at this
  simp only [Option.getD_some] at this
  simp [this]
theorem relM (M : List Sh) : RelL (leavesM M) (hasM M) (headM M) := by
  refine ⟨by unfold hasM; simp, fun i hi => ?_, fun i hi _ => ?_⟩
  · rw [leavesM_len] at hi; rw [hasM_get hi, leavesM_get hi]
  · rw [leavesM_len] at hi
    have := headM_get hi
    unfold xAt at this
    rw [Int.toNat_natCast] at this
    rw [this, leavesM_get hi]

/-- Who is first, found one by one. -/
def FirstAt (w : World) (M : List Sh) (fin : Int) (bv iv : Value) (wr : World) : Prop :=
  ∃ (i : Nat) (best : Int), iv = .int .i64 i ∧ bv = .int .i64 best ∧ i ≤ M.length ∧ ((best = -1) ∨ ∃ (b : Nat) (y : It) (s : List It), best = b ∧ b < M.length ∧ (shAt M b).2 = y :: s) ∧ Upd [] w wr ∧ scanF (hasM M) (headM M) 16 1 (M.length - i) i best = fin
def FirstQ (M : List Sh) (L : List It) (w : World) (e : Ending) (w' : World) : Prop :=
  Upd [] w w' ∧ ((L = [] ∧ e = .returned (.int .i64 (-1))) ∨ ∃ (j : Nat) (x : It) (r l : List It), j < M.length ∧ (shAt M j).2 = x :: r ∧ L = x :: l ∧ e = .returned (.int .i64 j))
theorem first_fin {M : List Sh} {L : List It} (h : QOk M L) {w w' : World} (hU : Upd [] w w') : FirstQ M L w (.returned (.int .i64 (scanF (hasM M) (headM M) 16 1 M.length 0 (-1)))) w' := by
  have hw := scan_wins (relM M) 16 1 M.length 0 (-1) (by rw [leavesM_len]; omega) (.inl ⟨rfl, fun i hi => absurd hi (by omega)⟩)
  rw [leavesM_len] at hw
  rcases h.wins h.small hw with ⟨e1, e2⟩ | ⟨j, x, r, l, e1, e2, e3, e4⟩
  · exact ⟨hU, .inl ⟨e2, by rw [e1]⟩⟩
  · exact ⟨hU, .inr ⟨j, x, r, l, e2, e3, e4, by rw [e1]⟩⟩
end Go.Proofs.YtkepeolbpgnlbaaGreatDoor
