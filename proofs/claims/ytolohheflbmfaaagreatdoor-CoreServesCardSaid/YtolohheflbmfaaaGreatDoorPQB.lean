/-
  Texts of this claim, joined: Qg, Qh, Qi, Qj. No condition.
-/
import Derived.Test.YtolohheflbmfaaaGreatDoorPQA
import Derived.Test.YtolohheflbmfaaaGreatDoorPB
import Derived.Test.YtolohheflbmfaaaGreatDoorPR
set_option linter.unusedVariables false
set_option linter.unusedSimpArgs false
/-! Qg -/
namespace Go.Proofs.YtolohheflbmfaaaGreatDoor
open Go.RowKit

/-- Where its parts lie, and what they hold. -/
structure RQAt (W w : World) (qb wd : Nat) (M : List Sh) (sr cap : Nat) (sb : Nat → Nat) (F : Nat → List Nat) : Prop where
  top : Blk w qb 115 [.slice (some ⟨sr, 0, none⟩) M.length cap]
  row : Row w 118 1 sr M.length cap (ptrs sb M.length)
  sh : ∀ i, i < M.length → RG W (sb i) (shAt M i).1 wd true (shAt M i).2 (F i) w
  dis : ∀ i j, i < M.length → j < M.length → i ≠ j → ∀ c ∈ F i, c ∉ F j
  own : ∀ i, i < M.length → ∀ c ∈ F i, c ∉ [qb, sr]
  q1 : qb ≠ sr
  newH : ∀ c ∈ [qb, sr], W.heap.size ≤ c
section
variable {W w : World} {qb wd : Nat} {M : List Sh} {sr cap : Nat} {sb : Nat → Nat} {F : Nat → List Nat}
theorem RQAt.lt (h : RQAt W w qb wd M sr cap sb F) : ∀ c ∈ fpN [qb, sr] M.length F, c < w.heap.size := by
  intro c hc
  rcases mem_fpN.1 hc with hc | ⟨i, hi, hc⟩
  · simp only [List.mem_cons, List.not_mem_nil, or_false] at hc
    rcases hc with rfl | rfl
    · exact h.top.lt
    · exact h.row.lt
  · exact (h.sh i hi).lt c hc
theorem RQAt.newB (h : RQAt W w qb wd M sr cap sb F) : ∀ c ∈ fpN [qb, sr] M.length F, W.heap.size ≤ c := by
  intro c hc
  rcases mem_fpN.1 hc with hc | ⟨i, hi, hc⟩
  · exact h.newH c hc
  · exact (h.sh i hi).newB c hc
theorem RQAt.updS (h : RQAt W w qb wd M sr cap sb F) {S : List Nat} {w' : World} (hu : Upd S w w') (hs : ∀ c ∈ fpN [qb, sr] M.length F, c ∉ S) : RQAt W w' qb wd M sr cap sb F :=
  { h with
    top := h.top.upd hu (hs _ (mem_fpN.2 (.inl (by simp))))
    row := h.row.upd hu (hs _ (mem_fpN.2 (.inl (by simp))))
    sh := fun i hi => (h.sh i hi).upd hu (fun c hc => hs c (mem_fpN.2 (.inr ⟨i, hi, hc⟩))) }
theorem RQAt.upd (h : RQAt W w qb wd M sr cap sb F) {w' : World} (hu : Upd [] w w') : RQAt W w' qb wd M sr cap sb F := h.updS hu (by simp)

/-- A deed on one of its wheels. -/
theorem RQAt.shard (h : RQAt W w qb wd M sr cap sb F) {i : Nat} (hi : i < M.length) {b : Nat} {K : List It} {w' : World} (k : RGTo W (sb i) b wd true K (F i) w w') :
    ∃ F', RQAt W w' qb wd (M.set i (b, K)) sr cap sb F' ∧ Fr (fpN [qb, sr] M.length F) (fpN [qb, sr] M.length F') w w' := by
  obtain ⟨Fi, k1, k2, k3⟩ := k
  have hlt := h.lt
  have hin : ∀ j, j < M.length → ∀ c ∈ F j, c < w.heap.size := fun j hj c hc => hlt c (mem_fpN.2 (.inr ⟨j, hj, hc⟩))
  have hhd : ∀ c ∈ [qb, sr], c < w.heap.size := fun c hc => hlt c (mem_fpN.2 (.inl hc))
  have hnh : ∀ c ∈ [qb, sr], c ∉ F i := fun c hc e => h.own i hi c e hc
  refine ⟨updF F i Fi, ?_, fun c hc => ?_, k3.mono (fun c _ hc => mem_fpN.2 (.inr ⟨i, hi, hc⟩))⟩
  · refine { h with top := ?_, row := ?_, sh := fun j hj => ?_, dis := fun a j ha hj haj c hc => ?_, own := fun j hj c hc => ?_ }
    · rw [List.length_set]; exact h.top.upd k3 (hnh _ (by simp))
    · rw [List.length_set]; exact h.row.upd k3 (hnh _ (by simp))
    · rw [List.length_set] at hj
      by_cases e : j = i
      · subst e; rw [shAt_set hi, if_pos rfl, updF_same]; exact k1
      · rw [shAt_set hi, if_neg e, updF_other _ _ e]
        exact (h.sh j hj).upd k3 (h.dis j i hj hi e)
    · rw [List.length_set] at ha hj
      by_cases ea : a = i
      · subst ea
        rw [updF_same] at hc
        rw [updF_other _ _ (Ne.symm haj)]
        rcases k2 c hc with e | e
        · exact h.dis a j ha hj haj c e
        · intro e2; have := hin j hj c e2; omega
      · rw [updF_other _ _ ea] at hc
        by_cases ej : j = i
        · subst ej
          rw [updF_same]
          intro e2
          rcases k2 c e2 with e | e
          · exact h.dis a j ha hj haj c hc e
          · have := hin a ha c hc; omega
        · rw [updF_other _ _ ej]; exact h.dis a j ha hj haj c hc
    · rw [List.length_set] at hj
      by_cases ej : j = i
      · subst ej
        rw [updF_same] at hc
        rcases k2 c hc with e | e
        · exact h.own j hj c e
        · intro e2; have := hhd c e2; omega
      · rw [updF_other _ _ ej] at hc; exact h.own j hj c hc
  · rcases mem_fpN.1 hc with hc | ⟨j, hj, hc⟩
    · exact .inl (mem_fpN.2 (.inl hc))
    · by_cases ej : j = i
      · subst ej
        rw [updF_same] at hc
        rcases k2 c hc with e | e
        · exact .inl (mem_fpN.2 (.inr ⟨j, hj, e⟩))
        · exact .inr e
      · rw [updF_other _ _ ej] at hc
        exact .inl (mem_fpN.2 (.inr ⟨j, hj, hc⟩))
theorem RQAt.cells (h : RQAt W w qb wd M sr cap sb F) : w.cell? ⟨qb, 0, none⟩ = some (.slice (some ⟨sr, 0, none⟩) M.length cap) ∧ (∀ i, i < M.length → w.cell? ⟨sr, i, none⟩ = some (.pointer (some ⟨sb i, 0, none⟩))) ∧ qb < w.heap.size ∧ sr < w.heap.size :=
  ⟨h.top.cell (j := 0) rfl, fun i hi => h.row.cell (ptrs_get hi), h.top.lt, h.row.lt⟩
end
/-- The document's queue in blocks that are new since W. -/
def RQ (W : World) (qb wd : Nat) (M : List Sh) (fp : List Nat) (w : World) : Prop := ∃ sr cap sb F, RQAt W w qb wd M sr cap sb F ∧ fp = fpN [qb, sr] M.length F
def RQTo (W : World) (qb wd : Nat) (M : List Sh) (fp : List Nat) (w w' : World) : Prop := ∃ fp', RQ W qb wd M fp' w' ∧ Fr fp fp' w w'
section
variable {W w : World} {qb wd : Nat} {M : List Sh} {L : List It} {fp : List Nat}
theorem RQ.lt (h : RQ W qb wd M fp w) : ∀ c ∈ fp, c < w.heap.size := by obtain ⟨_, _, _, _, h, rfl⟩ := h; exact h.lt
theorem RQ.newB (h : RQ W qb wd M fp w) : ∀ c ∈ fp, W.heap.size ≤ c := by obtain ⟨_, _, _, _, h, rfl⟩ := h; exact h.newB
theorem RQ.updS (h : RQ W qb wd M fp w) {S : List Nat} {w' : World} (hu : Upd S w w') (hs : ∀ c ∈ fp, c ∉ S) : RQ W qb wd M fp w' := by
  obtain ⟨sr, cap, sb, F, h1, rfl⟩ := h; exact ⟨sr, cap, sb, F, h1.updS hu hs, rfl⟩
theorem RQ.upd (h : RQ W qb wd M fp w) {w' : World} (hu : Upd [] w w') : RQ W qb wd M fp w' := h.updS hu (by simp)
theorem RQTo.up {w' : World} (h : RQTo W qb wd M fp w w') : Upd fp w w' := by obtain ⟨_, _, h⟩ := h; exact h.2
theorem RQAt.to {sr cap : Nat} {sb : Nat → Nat} {F : Nat → List Nat} (h : RQAt W w qb wd M sr cap sb F) {i : Nat} (hi : i < M.length) {b : Nat} {K : List It} {w' : World} (k : RGTo W (sb i) b wd true K (F i) w w') : RQTo W qb wd (M.set i (b, K)) (fpN [qb, sr] M.length F) w w' := by
  obtain ⟨F', k1, k2⟩ := h.shard hi k
  exact ⟨_, ⟨sr, cap, sb, F', k1, by rw [List.length_set]⟩, k2⟩
theorem RQTo.after {w0 w' w'' : World} (h0 : Upd [] w0 w) (h : RQTo W qb wd M fp w w') (h1 : Upd [] w' w'') : RQTo W qb wd M fp w0 w'' := by
  obtain ⟨fp', k1, k2⟩ := h; exact ⟨fp', k1.upd h1, ((Fr.of h0).trans k2).up h1⟩
end

/-! ### Push -/
section
variable {W w : World} {qb wd : Nat} {M : List Sh} {L : List It} {fp : List Nat}
set_option maxRecDepth 100000 in
set_option maxHeartbeats 8000000 in
theorem RQ.push (h : RQ W qb wd M fp w) (hok : QOk M L) (k : Nat) (hk : k < 18446744073709551616) (id : Int) (hsm : L.length < 1000) :
    Calls Tryz.prog 38 #[.pointer (some ⟨qb, 0, none⟩), .agg #[.int .u64 k, .int .i64 id]] w (fun e w' => e = .returned (.bool (takeQ M k id)) ∧ RQTo W qb wd (pushM M k id) fp w w') := by
  obtain ⟨sr, cap, sb, F, h1, rfl⟩ := h
  obtain ⟨p0, pp, lq, ls⟩ := h1.cells
  by_cases hid : 0 ≤ id
  · obtain ⟨r1, r2, r3⟩ := rt_eqs hok.one hok.small hid
    have pi := pp _ r2
    obtain ⟨i, hi⟩ : ∃ i, rt M.length id = i := ⟨_, rfl⟩
    have htk := takeS_at (k := k) hid hi
    rw [hi] at r1 r2 r3 pi
    have h16 := hok.small
    have HP : Hid (∀ w', Upd [] w w' → Calls Tryz.prog 57 #[.pointer (some ⟨sb i, 0, none⟩), .agg #[.int .u64 k, .int .i64 id]] w' (fun e w'' => e = .returned (.bool (takeQ M k id)) ∧ RGTo W (sb i) (shAt M i).1 wd true (if takeQ M k id = true then insI ((k : Int), id) (shAt M i).2 else (shAt M i).2) (F i) w' w'')) := fun w' hu => by
      have := ((h1.sh i r2).upd hu (by simp)).push_all k hk id (Nat.lt_of_le_of_lt (hok.len_sh r2) hsm)
      rw [htk] at this; exact this
    have HM : Hid (pushM M k id = M.set i ((shAt M i).1, if takeQ M k id = true then insI ((k : Int), id) (shAt M i).2 else (shAt M i).2)) := by
      unfold Hid pushM; rw [hi]; split
      · rfl
      · exact (set_shAt r2).symm
    have HQ := Lib.hid h1
    have HR2 := Lib.hid r2
    have h1n := hok.one
    obtain ⟨n, hn⟩ : ∃ n, M.length = n := ⟨_, rfl⟩
    rw [hn] at p0 r1 r2 h16 h1n
    have d1 : decide (id < 0) = false := by simp [hid]
    have d2 : ((n : Int) == 0) = false := by simp; omega
    have b1 : (i : Int) < (n : Int) := by omega
    have b2 : (0 : Int) ≤ (i : Int) := by omega
    clear h1 hok pp hi hn htk
    go_enter Tryz.func38, Tryz.ntmps38
    go_wp2_with fail
    refine wp_region_tail 15 (by kernel_rfl) (by kernel_rfl) ?_
    simp only [List.take_succ_cons, List.take_zero, List.drop_succ_cons, List.drop_zero]
    repeat (go_big_quiet_step (fail))
    refine wpQuiet_nil ?_
    go_wp2_with fail
    refine (HP.out _ ((Upd.refl [] w).alloc _).drew).mono ?_
    rintro e w2 ⟨rfl, h2⟩
    have HT := Lib.hid (RQTo.after ((Upd.refl [] w).alloc (.cells #[.int .u64 (k : Int), .int .i64 id] 54)).drew ((HQ.out.upd ((Upd.refl [] w).alloc (.cells #[.int .u64 (k : Int), .int .i64 id] 54)).drew).to HR2.out h2) (Upd.refl [] w2))
    rw [← HM.out] at HT
    clear h2
    go_wp2
    go_ret
    exact ⟨rfl, HT.out⟩
  · have HT : Hid (takeQ M k id = false) := by unfold Hid takeQ; simp [hid]
    have HM : Hid (pushM M k id = M) := by unfold Hid pushM; rw [HT.out]; simp
    rw [HT.out, HM.out]
    have HQ : Hid (RQ W qb wd M (fpN [qb, sr] M.length F) w) := ⟨sr, cap, sb, F, h1, rfl⟩
    have d1 : decide (id < 0) = true := by simp; omega
    clear h1 pp hok
    go_enter Tryz.func38, Tryz.ntmps38
    go_wp2
    go_ret
    exact ⟨rfl, _, HQ.out.upd ((Upd.refl [] w).alloc _), Fr.of ((Upd.refl [] w).alloc _)⟩
end

/-! ### first -/
def hasM (M : List Sh) : List Bool := (leavesM M).map (·.2)
def headM (M : List Sh) : List It := (leavesM M).map (·.1)
theorem hasM_get {M : List Sh} {i : Nat} (h : i < M.length) : (hasM M).getD i false = (leafOf (shAt M i).2).2 := by
  unfold hasM
  rw [List.getD_eq_getElem?_getD, List.getElem?_map, List.getElem?_eq_getElem (by rw [leavesM_len]; exact h)]
  have := leavesM_get h
  rw [List.getD_eq_getElem?_getD, List.getElem?_eq_getElem (by rw [leavesM_len]; exact h)] at this
  simp only [Option.getD_some] at this
  simp [this]
theorem headM_get {M : List Sh} {i : Nat} (h : i < M.length) : xAt (headM M) (i : Int) = (leafOf (shAt M i).2).1 := by
  unfold headM xAt
  rw [Int.toNat_natCast, List.getD_eq_getElem?_getD, List.getElem?_map, List.getElem?_eq_getElem (by rw [leavesM_len]; exact h)]
  have := leavesM_get h
  rw [List.getD_eq_getElem?_getD, List.getElem?_eq_getElem (by rw [leavesM_len]; exact h)] at this
  simp only [Option.getD_some] at this
  simp [this]
theorem relM (M : List Sh) : RelL (leavesM M) (hasM M) (headM M) := by
  refine ⟨by unfold hasM; simp, fun i hi => ?_, fun i hi _ => ?_⟩
  · rw [leavesM_len] at hi; rw [hasM_get hi, leavesM_get hi]
  · rw [leavesM_len] at hi
    have := headM_get hi
    unfold xAt at this
    rw [Int.toNat_natCast] at this
    rw [this, leavesM_get hi]

/-- Who is first, found one by one. -/
def FirstAt (w : World) (M : List Sh) (fin : Int) (bv iv : Value) (wr : World) : Prop :=
  ∃ (i : Nat) (best : Int), iv = .int .i64 i ∧ bv = .int .i64 best ∧ i ≤ M.length ∧ ((best = -1) ∨ ∃ (b : Nat) (y : It) (s : List It), best = b ∧ b < M.length ∧ (shAt M b).2 = y :: s) ∧ Upd [] w wr ∧ scanF (hasM M) (headM M) 16 1 (M.length - i) i best = fin
def FirstQ (M : List Sh) (L : List It) (w : World) (e : Ending) (w' : World) : Prop :=
  Upd [] w w' ∧ ((L = [] ∧ e = .returned (.int .i64 (-1))) ∨ ∃ (j : Nat) (x : It) (r l : List It), j < M.length ∧ (shAt M j).2 = x :: r ∧ L = x :: l ∧ e = .returned (.int .i64 j))
theorem first_fin {M : List Sh} {L : List It} (h : QOk M L) {w w' : World} (hU : Upd [] w w') : FirstQ M L w (.returned (.int .i64 (scanF (hasM M) (headM M) 16 1 M.length 0 (-1)))) w' := by
  have hw := scan_wins (relM M) 16 1 M.length 0 (-1) (by rw [leavesM_len]; omega) (.inl ⟨rfl, fun i hi => absurd hi (by omega)⟩)
  rw [leavesM_len] at hw
  rcases h.wins h.small hw with ⟨e1, e2⟩ | ⟨j, x, r, l, e1, e2, e3, e4⟩
  · exact ⟨hU, .inl ⟨e2, by rw [e1]⟩⟩
  · exact ⟨hU, .inr ⟨j, x, r, l, e2, e3, e4, by rw [e1]⟩⟩
end Go.Proofs.YtolohheflbmfaaaGreatDoor

/-! Qh -/
namespace Go.Proofs.YtolohheflbmfaaaGreatDoor
open Go.RowKit

theorem firstNo {M : List Sh} {fin : Int} {w wr w' : World} {i : Nat} {best : Int} (hi : i < M.length) (hb : best = -1 ∨ ∃ (b : Nat) (y : It) (s : List It), best = b ∧ b < M.length ∧ (shAt M b).2 = y :: s) (hU : Upd [] w wr) (hu : Upd [] wr w')
    (hf : scanF (hasM M) (headM M) 16 1 (M.length - i) i best = fin) (ht : takesF (hasM M) (headM M) 16 1 i best = false) : FirstAt w M fin (.int .i64 best) (.int .i64 ((i : Int) + 1)) w' :=
  ⟨i + 1, best, by congr 1, rfl, by omega, hb, hU.trans hu, by rw [scanF_step _ _ _ _ _ _ _ hi, ht] at hf; exact hf⟩
theorem firstYes {M : List Sh} {fin : Int} {w wr w' : World} {i : Nat} {best : Int} (hi : i < M.length) {y : It} {s : List It} (hK : (shAt M i).2 = y :: s) (hU : Upd [] w wr) (hu : Upd [] wr w')
    (hf : scanF (hasM M) (headM M) 16 1 (M.length - i) i best = fin) (ht : takesF (hasM M) (headM M) 16 1 i best = true) : FirstAt w M fin (.int .i64 i) (.int .i64 ((i : Int) + 1)) w' :=
  ⟨i + 1, i, by congr 1, rfl, by omega, .inr ⟨i, y, s, rfl, hi, hK⟩, hU.trans hu, by rw [scanF_step _ _ _ _ _ _ _ hi, ht] at hf; exact hf⟩
section
variable {W w : World} {qb wd : Nat} {M : List Sh} {L : List It} {fp : List Nat}
set_option maxRecDepth 100000 in
set_option maxHeartbeats 16000000 in
theorem RQ.first (h : RQ W qb wd M fp w) (hok : QOk M L) : Calls Tryz.prog 58 #[.pointer (some ⟨qb, 0, none⟩)] w (FirstQ M L w) := by
  obtain ⟨sr, cap, sb, F, h1, rfl⟩ := h
  have HQ := Lib.hid h1
  have HOK := Lib.hid hok
  have h16 := hok.small
  obtain ⟨p0w, -, lqw, -⟩ := h1.cells
  obtain ⟨n, hn⟩ : ∃ n, M.length = n := ⟨_, rfl⟩
  have HN := Lib.hid hn
  rw [hn] at h16 p0w
  obtain ⟨fin, hfin⟩ : ∃ f, scanF (hasM M) (headM M) 16 1 M.length 0 (-1) = f := ⟨_, rfl⟩
  have HFIN := Lib.hid hfin
  clear h1 hok hn hfin
  go_enter Tryz.func58, Tryz.ntmps58
  go_wp2_with fail
  go_loopw [3, 4] (fun bv iv wr => FirstAt w M fin bv iv wr) (fun _ iv _ => n - (intOf iv).toNat)
  case atStart => exact ⟨0, -1, rfl, rfl, by omega, .inl rfl, Upd.refl _ _, HFIN.out⟩
  case round =>
    clear p0w lqw
    obtain ⟨i, best, rfl, rfl, hi, hb, hU, hf⟩ := hrel
    rw [HN.out] at hi
    obtain ⟨p0, pp, lq, ls⟩ := (HQ.out.upd hU).cells
    rw [HN.out] at p0
    have HB := Lib.hid hb
    have HU := Lib.hid hU
    have HF := Lib.hid hf
    by_cases hlt : i < n
    · have t1 : decide (i < n) = true := by simp [hlt]
      have b1 : (i : Int) < (n : Int) := by omega
      have hiM : i < M.length := by rw [HN.out]; exact hlt
      have HIM := Lib.hid hiM
      have pi := pp i hiM
      obtain ⟨aoi, capi, hBi, hRi, -, -, -, -⟩ := ((HQ.out.upd hU).sh i hiM).cells
      have c0 := hBi.cell (j := 0) rfl
      have lb := hBi.lt
      have hhas := hasM_get hiM
      have hhead := headM_get hiM
      obtain ⟨K, hK⟩ : ∃ K, (shAt M i).2 = K := ⟨_, rfl⟩
      have HK := Lib.hid hK
      rw [hK] at c0 hRi hhas hhead
      cases K with
      | nil =>
        have HT : Hid (takesF (hasM M) (headM M) 16 1 i best = false) := takes_no2 (by rw [hhas]; rfl)
        simp only [List.length_nil] at c0
        clear hb hU hf pp hRi hhas hhead hK hBi
        go_wp2_with fail
        go_quiet (fail)
        go_wp2
        exact ⟨(firstNo HIM.out HB.out HU.out ((Upd.refl [] wr).drewN nq) HF.out HT.out), by first | (simp [intOf]; done) | (simp [intOf]; omega)⟩
      | cons y s =>
        obtain ⟨g, rfl, hr⟩ := hRi.row (by simp)
        obtain ⟨y0, y1⟩ := item_cells hr (i := 0) (by simp)
        have ly := hr.lt
        rw [show atI (y :: s) 0 = y from rfl] at y0 y1
        rw [Nat.zero_mul] at y0 y1
        obtain ⟨m, hm⟩ : ∃ m, (y :: s).length = m := ⟨_, rfl⟩
        have hm0 : 0 < m := by rw [← hm]; simp
        have hm1 : decide (0 < m) = true := by simp; omega
        have hm2 : (0 : Int) < (m : Int) := by omega
        rw [hm] at c0
        have hup : up (16 + i) 1 = 1 := up_one _ (by omega)
        rcases hb with rfl | ⟨b, z, u, rfl, hbM, hKb⟩
        · have HT : Hid (takesF (hasM M) (headM M) 16 1 i (-1) = true) := takes_yes hup (by rw [hhas]; rfl) (by omega)
          clear hU hf pp hRi hhas hhead hK hBi hr hm hup
          go_wp2_with fail
          go_quiet (fail)
          go_wp2
          exact ⟨(firstYes HIM.out HK.out HU.out ((Upd.refl [] wr).drewN nq) HF.out HT.out), by first | (simp [intOf]; done) | (simp [intOf]; omega)⟩
        · have pb := pp b hbM
          obtain ⟨aob, capb, hBb, hRb, -, -, -, -⟩ := ((HQ.out.upd hU).sh b hbM).cells
          rw [hKb] at hRb hBb
          obtain ⟨g', rfl, hr'⟩ := hRb.row (by simp)
          obtain ⟨z0, z1⟩ := item_cells hr' (i := 0) (by simp)
          have lz := hr'.lt
          rw [show atI (z :: u) 0 = z from rfl] at z0 z1
          rw [Nat.zero_mul] at z0 z1
          have d0 := hBb.cell (j := 0) rfl
          have ld := hBb.lt
          obtain ⟨m', hm'⟩ : ∃ m', (z :: u).length = m' := ⟨_, rfl⟩
          have hm0' : 0 < m' := by rw [← hm']; simp
          rw [hm'] at d0
          have hhb := headM_get hbM
          rw [hKb] at hhb
          have hta := takes_as (xs := headM M) (best := (b : Int)) hup (by rw [hhas]; rfl) (by omega)
          rw [hhead, hhb] at hta
          have hta2 : takesF (hasM M) (headM M) 16 1 i (b : Int) = Proofs.YtolohheflbmfaaaGreatDoor.ahead y z := hta
          obtain ⟨tb, htb⟩ : ∃ tb, Proofs.YtolohheflbmfaaaGreatDoor.ahead y z = tb := ⟨_, rfl⟩
          rw [htb] at hta2
          have HAH := Lib.hid htb
          have HT := Lib.hid hta2
          have t5 : decide ((b : Int) < 0) = false := by simp
          have b2 : (b : Int) < (n : Int) := by have := HN.out; omega
          have b3 : (0 : Int) ≤ (b : Int) := by omega
          have hbn : b < n := by have := HN.out; omega
          obtain ⟨TZ, hNE, FZ, hFU, hFS⟩ := upd_fam [] wr
          obtain ⟨HFU, HFS⟩ : Hid (∀ z, Upd [] wr (FZ z)) ∧ Hid (∀ w, Upd [] wr w → ∃ z, w = FZ z) := ⟨hFU, hFS⟩
          have f0 := fun z => ((hFU z).cell lq (by simp) 0).trans p0
          have f1 := fun z => ((hFU z).cell ls (by simp) b).trans pb
          have f2 := fun z => ((hFU z).cell ld (by simp) 0).trans d0
          have f3 := fun z => ((hFU z).cell ly (by simp) 0).trans y0
          have f4 := fun z => ((hFU z).cell ly (by simp) (0 + 1)).trans y1
          have f5 := fun z => ((hFU z).cell lz (by simp) 0).trans z0
          have f6 := fun z => ((hFU z).cell lz (by simp) (0 + 1)).trans z1
          clear hU hf pp hRi hhas hhead hK hBi hr hm hup hRb hr' hBb hm' hhb hta hta2 htb hFU hFS
          cases tb with
          | true =>
            go_wp2_with fail
            refine wp_region_fam FZ (by kernel_rfl) (by kernel_rfl) (HFS.out _ (Upd.refl [] wr).drew) ?_
            repeat (go_big_quiet_step (first | (go_at_call 62; exact (rahead_any y z _).mono (fun _ _ h => ⟨by rw [h.1, HAH.out], HFS.out _ ((HFU.out _).trans h.2)⟩))))
            refine wpQuiet_nil ?_
            intro _ hw'
            obtain ⟨nq, hw''⟩ := hw'
            subst hw''
            go_wp2
            exact ⟨(firstYes HIM.out HK.out HU.out (HFU.out nq) HF.out HT.out), by first | (simp [intOf]; done) | (simp [intOf]; omega)⟩
          | false =>
            go_wp2_with fail
            refine wp_region_fam FZ (by kernel_rfl) (by kernel_rfl) (HFS.out _ (Upd.refl [] wr).drew) ?_
            repeat (go_big_quiet_step (first | (go_at_call 62; exact (rahead_any y z _).mono (fun _ _ h => ⟨by rw [h.1, HAH.out], HFS.out _ ((HFU.out _).trans h.2)⟩))))
            refine wpQuiet_nil ?_
            intro _ hw'
            obtain ⟨nq, hw''⟩ := hw'
            subst hw''
            go_wp2
            exact ⟨(firstNo HIM.out HB.out HU.out (HFU.out nq) HF.out HT.out), by first | (simp [intOf]; done) | (simp [intOf]; omega)⟩
    · have t1 : decide (i < n) = false := by simp; omega
      have e : i = n := by omega
      have HBF : Hid (fin = best) := by
        have := HF.out
        rw [e, HN.out, Nat.sub_self] at this
        exact this.symm
      clear hb hU hf pp
      go_wp2
      go_ret
      have := first_fin HOK.out HU.out
      rw [HFIN.out, HBF.out] at this
      exact this
end
end Go.Proofs.YtolohheflbmfaaaGreatDoor

/-! Qi -/
namespace Go.Proofs.YtolohheflbmfaaaGreatDoor
open Go.RowKit
section
variable {W w : World} {qb wd : Nat} {M : List Sh} {L : List It} {fp : List Nat}
/-- The deed is done; the result's own cell is written last. -/
theorem RQTo.cell {w0 w1 w2 : World} {z : Nat} (h0 : Upd [] w0 w1) (hfp : ∀ c ∈ fp, c < w0.heap.size) (hz : w0.heap.size ≤ z ∧ z < w1.heap.size) (h : RQTo W qb wd M fp w1 w2) (u v : Value) :
    RQTo W qb wd M fp w0 ((w2.setCell ⟨z, 0, none⟩ u).setCell ⟨z, 1, none⟩ v) := by
  obtain ⟨fp', k1, k2⟩ := h
  have hzf : z ∉ fp := fun e => by have := hfp z e; omega
  have hzf' : z ∉ fp' := k2.far hz.2 hzf
  have hU := ((Upd.refl [z] w2).setCell (p := ⟨z, 0, none⟩) (.inl (by simp)) u).setCell (p := ⟨z, 1, none⟩) (.inl (by simp)) v
  have k3 := (Fr.of h0).trans k2
  exact ⟨fp', k1.updS hU (fun c hc e => by simp at e; subst e; exact hzf' hc), k3.1, k3.2.then hU (fun _ _ h => h) (fun c hc e => by simp at e; omega)⟩
theorem RQTo.zcells {w1 w2 : World} {z : Nat} {ty : TypeId} {cs : List Value} (h : RQTo W qb wd M fp w1 w2) (hzf : z ∉ fp) (hB : Blk w1 z ty cs) : Blk w2 z ty cs := hB.upd h.up hzf



set_option maxRecDepth 100000 in
set_option maxHeartbeats 8000000 in
theorem RQ.pop (h : RQ W qb wd M fp w) (hok : QOk M L) (hkey : ∀ i, i < M.length → ∀ x ∈ (shAt M i).2, x.1 = (kn x : Int) ∧ kn x < 18446744073709551616) :
    Calls Tryz.prog 40 #[.pointer (some ⟨qb, 0, none⟩)] w (fun e w' => e = .returned (firstV L) ∧ RQTo W qb wd (popM M L) fp w w') := by
  have HLT := Lib.hid h.lt
  have HF : Hid (∀ w', Upd [] w w' → Calls Tryz.prog 58 #[.pointer (some ⟨qb, 0, none⟩)] w' (FirstQ M L w')) := fun w' hu => (h.upd hu).first hok
  have HH := Lib.hid h
  obtain ⟨sr, cap, sb, F, h1, rfl⟩ := h
  obtain ⟨p0, pp, lq, ls⟩ := h1.cells
  have HPP := Lib.hid pp
  have HQ := Lib.hid h1
  have HKEY := Lib.hid hkey
  have HOK := Lib.hid hok
  have h16 := hok.small
  obtain ⟨n, hn⟩ : ∃ n, M.length = n := ⟨_, rfl⟩
  have HN := Lib.hid hn
  rw [hn] at p0 h16
  clear h1 pp hok hn hkey
  go_enter Tryz.func40, Tryz.ntmps40
  go_wp2_with fail
  refine (HF.out _ ((Upd.refl [] w).alloc _)).mono ?_
  rintro e w2 ⟨hU, h⟩
  have hZ := (Blk.new w 54 [.int .u64 0, .int .i64 0]).upd hU (by simp)
  have hU2 := ((Upd.refl [] w).alloc (.cells #[.int .u64 0, .int .i64 0] 54)).trans hU
  have z0 := hZ.free 0
  have z1 := hZ.free 1
  have zc0 := hZ.cell (j := 0) rfl
  have zc1 := hZ.cell (j := 1) rfl
  have zl := hZ.lt
  have HZ := Lib.hid hZ
  have HU2 := Lib.hid hU2
  have q0 := (hU2.cell lq (by simp) 0).trans p0
  have lq2 := Nat.lt_of_lt_of_le lq hU2.size
  have ls2 := Nat.lt_of_lt_of_le ls hU2.size
  rcases h with ⟨hL, rfl⟩ | ⟨j, x, r, l, hj, hK, hL, rfl⟩
  · have HL : Hid (firstV L = itV zIt false ∧ popM M L = M) := by rw [hL]; exact ⟨rfl, rfl⟩
    clear hL hU hZ hU2 p0 lq ls
    go_wp2
    refine bodyPost_ret (v := itV zIt false) (by simp [results, Tryz.results40, go_sem, zc0, zc1, zl, itV, zIt]) rfl ⟨by rw [HL.out.1], ?_⟩
    rw [HL.out.2]
    exact RQTo.cell HU2.out HLT.out ⟨Nat.le_refl _, HZ.out.lt⟩ ⟨_, HH.out.upd HU2.out, Fr.refl _ _⟩ _ _
  · have HL : Hid (firstV L = itV x true ∧ popM M L = M.set j (kn x, r)) := ⟨by rw [hL]; rfl, popM_at HOK.out hj hK hL⟩
    have hjn : j < n := by rw [← HN.out]; exact hj
    have pj := (hU2.cell ls (by simp) j).trans (HPP.out j hj)
    have hm := fun (w' : World) (hu : Upd [] w w') => ((HQ.out.sh j hj).upd hu (by simp)).pop (HKEY.out j hj)
    rw [hK] at hm
    have HMN : Hid (∀ w', Upd [] w w' → Calls Tryz.prog 59 #[.pointer (some ⟨sb j, 0, none⟩)] w' (fun e w'' => e = .returned (itV x true) ∧ RGTo W (sb j) (kn x) wd true r (F j) w' w'')) := hm
    have HJ := Lib.hid hj
    have b1 : (j : Int) < (n : Int) := by omega
    have b2 : (0 : Int) ≤ (j : Int) := by omega
    have t1 : decide ((j : Int) < 0) = false := by simp
    clear hL hU hZ hU2 p0 lq ls hK hm z0 z1 zc0 zc1 zl hj
    go_wp2_with fail
    refine (HMN.out _ HU2.out).mono ?_
    rintro e w3 ⟨rfl, h3⟩
    have hto := (HQ.out.upd HU2.out).to HJ.out h3
    have hzf : w.heap.size ∉ fpN [qb, sr] M.length F := fun e => by have := HLT.out _ e; omega
    have hZ3 := hto.zcells hzf HZ.out
    have z0 := hZ3.free 0
    have z1 := hZ3.free 1
    have zc0 := hZ3.cell (j := 0) rfl
    have zc1 := hZ3.cell (j := 1) rfl
    have zl := hZ3.lt
    have HTO := Lib.hid hto
    unfold itV
    clear h3 hZ3 hto hzf
    go_wp2
    refine bodyPost_ret (v := itV x true) (by simp [results, Tryz.results40, go_sem, zc0, zc1, zl, itV]) rfl ⟨by rw [HL.out.1], ?_⟩
    rw [HL.out.2]
    exact RQTo.cell HU2.out HLT.out ⟨Nat.le_refl _, HZ.out.lt⟩ HTO.out _ _


end
end Go.Proofs.YtolohheflbmfaaaGreatDoor

/-! Qj -/
namespace Go.Proofs.YtolohheflbmfaaaGreatDoor
open Go.RowKit

theorem underlyingWheels : Tryz.prog.underlying 113 = some (.slice 118) := by kernel_rfl
theorem infoWheelP : (Tryz.prog.info? 118).map (fun i => (i.zero, i.size, i.bytes)) = some (some (.pointer none), 1, 8) := by kernel_rfl

/-- While it is made: i wheels are there. -/
def RQNewAt (W w0 : World) (qb wd m : Nat) (iv : Value) (wr : World) : Prop :=
  ∃ (i : Nat) (ao : Option Addr) (cap : Nat) (sb : Nat → Nat), iv = .int .i64 i ∧ i ≤ m ∧ Blk wr qb 115 [.slice ao i cap] ∧
    RowO wr 118 1 ao i cap (ptrs sb i) ∧ (∀ j, j < i → RG W (sb j) 0 wd true [] [sb j] wr) ∧
    (∀ a j, a < i → j < i → a ≠ j → sb a ≠ sb j) ∧ (∀ j, j < i → sb j ≠ qb ∧ sb j ∉ blkO ao ∧ w0.heap.size ≤ sb j) ∧ (∀ c ∈ blkO ao, c ≠ qb ∧ w0.heap.size ≤ c) ∧
    w0.heap.size ≤ qb ∧ Upd [] w0 wr
section
variable {W w0 wr w2 w3 : World} {qb wd m : Nat} {i cap : Nat} {ao : Option Addr} {sb : Nat → Nat}
theorem rqnew_round (hi : i < m) (hB : Blk wr qb 115 [.slice ao i cap]) (hR : RowO wr 118 1 ao i cap (ptrs sb i)) (hS : ∀ j, j < i → RG W (sb j) 0 wd true [] [sb j] wr)
    (h1 : ∀ a j, a < i → j < i → a ≠ j → sb a ≠ sb j) (h2 : ∀ j, j < i → sb j ≠ qb ∧ sb j ∉ blkO ao ∧ w0.heap.size ≤ sb j) (h3 : ∀ c ∈ blkO ao, c ≠ qb ∧ w0.heap.size ≤ c) (h4 : w0.heap.size ≤ qb) (hU : Upd [] w0 wr)
    {s : Nat} (hU2 : Upd [] wr w2) (hN : RG W s 0 wd true [] [s] w2) (hs : wr.heap.size ≤ s) {wX : World} (hX : Upd [] w2 wX) (hx : w2.heap.size < wX.heap.size) {ao' : Option Addr} {cap' : Nat} (hA : Apped wX 118 1 ao (i + 1) (ptrs sb i ++ [.pointer (some ⟨s, 0, none⟩)]) ao' cap' w3) :
    RQNewAt W w0 qb wd m (.int .i64 ((i : Int) + 1)) (w3.setCell ⟨qb, 0, none⟩ (.slice ao' (i + 1) cap')) := by
  have z2 := hU2.size
  have zr := hU.size
  have hA2 : Upd (blkO ao) w2 w3 := hX.then hA.upd (fun c _ hc => by cases hc) (fun c _ hc => hc)
  have hA3 : Upd (qb :: blkO ao) w2 (w3.setCell ⟨qb, 0, none⟩ (.slice ao' (i + 1) cap')) := (hA2.mono (fun c _ hc => by simp [hc])).setCell (.inl (by simp)) _
  have hall : Upd (qb :: blkO ao) wr (w3.setCell ⟨qb, 0, none⟩ (.slice ao' (i + 1) cap')) := hU2.then hA3 (fun c _ hc => by cases hc) (fun c _ hc => hc)
  have hqn : qb ∉ blkO ao := fun e => (h3 qb e).1 rfl
  have hlw : ∀ c ∈ blkO ao, c < wr.heap.size := hR.lt
  have hlq := hB.lt
  have hl2 := hN.lt s (by simp)
  have hsl : ∀ j, j < i → sb j < wr.heap.size := fun j hj => (hS j hj).lt _ (by simp)
  have hao : ∀ c ∈ blkO ao', c ∈ blkO ao ∨ w2.heap.size < c := fun c hc => by
    rcases hA.at_ c hc with h | h
    · exact .inl h
    · right; omega
  refine ⟨i + 1, ao', cap', updF sb i s, by congr 1, by omega, ?_, ?_, fun j hj => ?_, fun a j ha hj haj => ?_, fun j hj => ?_, fun c hc => ?_, h4, hU.then hall (fun c _ hc => by cases hc) (fun c hc hm => by
    rcases List.mem_cons.1 hm with rfl | hm
    · omega
    · have := (h3 c hm).2; omega)⟩
  · have := (hB.upd hU2 (by simp)).upd hA2 hqn
    exact this.set 0 (.slice ao' (i + 1) cap')
  · have hr := hA.row
    rw [show ptrs sb i ++ [.pointer (some ⟨s, 0, none⟩)] = ptrs (updF sb i s) (i + 1) by
      rw [← ptrs_snoc, updF_same]; congr 1; exact ptrs_congr (fun j hj => (updF_other sb s (by omega)).symm)] at hr
    refine hr.upd ((Upd.refl [qb] w3).setCell (.inl (by simp)) _) (fun c hc e => ?_)
    simp at e; subst e
    rcases hao _ hc with h | h
    · exact hqn h
    · omega
  · by_cases e : j = i
    · subst e
      rw [updF_same]
      refine hN.upd hA3 (fun c hc e => ?_)
      simp at hc; subst hc
      rcases List.mem_cons.1 e with e | e
      · omega
      · have := hlw c e; omega
    · rw [updF_other _ _ e]
      have hji : j < i := by omega
      refine (hS j hji).upd hall (fun c hc e => ?_)
      simp at hc; subst hc
      rcases List.mem_cons.1 e with e | e
      · exact (h2 j hji).1 e
      · exact (h2 j hji).2.1 e
  · by_cases ea : a = i
    · subst ea
      rw [updF_same, updF_other _ _ (Ne.symm haj)]
      have := hsl j (by omega); omega
    · rw [updF_other _ _ ea]
      by_cases ej : j = i
      · subst ej
        rw [updF_same]
        have := hsl a (by omega); omega
      · rw [updF_other _ _ ej]; exact h1 a j (by omega) (by omega) haj
  · by_cases ej : j = i
    · subst ej
      rw [updF_same]
      refine ⟨by omega, fun e => ?_, by omega⟩
      rcases hao _ e with h | h
      · have := hlw _ h; omega
      · omega
    · rw [updF_other _ _ ej]
      refine ⟨(h2 j (by omega)).1, fun e => ?_, (h2 j (by omega)).2.2⟩
      rcases hao _ e with h | h
      · exact (h2 j (by omega)).2.1 h
      · have := hsl j (by omega); omega
  · rcases hao c hc with h | h
    · exact h3 c h
    · exact ⟨by omega, by omega⟩

/-- All wheels are there. -/
theorem rqnew_done (hW : Upd [] W w0) (hm : 1 ≤ m) (hrel : RQNewAt W w0 qb wd m (.int .i64 m) wr) : ∃ fp, RQ W qb wd (zeroM m) fp wr ∧ Upd [] w0 wr ∧ ∀ c ∈ fp, w0.heap.size ≤ c := by
  obtain ⟨i, ao, cap, sb, hi, -, hB, hR, hS, h1, h2, h3, h4, hU⟩ := hrel
  have e : i = m := by simp only [Value.int.injEq, true_and] at hi; omega
  subst e
  obtain ⟨sr, rfl, hr⟩ := hR.row (by omega)
  have hlen : (zeroM i).length = i := by unfold zeroM; simp
  have hsr := h3 sr (by simp [blkO])
  have hwz := hW.size
  refine ⟨_, ⟨sr, cap, sb, fun j => [sb j], { top := by rw [hlen]; exact hB, row := by rw [hlen]; exact hr, sh := fun j hj => by rw [hlen] at hj; rw [zeroM_at]; exact hS j hj, dis := fun a j ha hj haj c hc e => ?_, own := fun j hj c hc e => ?_, q1 := fun e => hsr.1 e.symm, newH := fun c hc => ?_ }, rfl⟩, hU, fun c hc => ?_⟩
  · rw [hlen] at ha hj
    simp at hc e
    exact h1 a j ha hj haj (hc ▸ e)
  · rw [hlen] at hj
    simp only [List.mem_cons, List.not_mem_nil, or_false] at e hc
    subst hc
    rcases e with e | e
    · exact (h2 j hj).1 e
    · exact (h2 j hj).2.1 (by simp [blkO, e])
  · simp only [List.mem_cons, List.not_mem_nil, or_false] at hc
    rcases hc with rfl | rfl
    · omega
    · have := hsr.2; omega
  · rcases mem_fpN.1 hc with hc | ⟨j, hj, hc⟩
    · simp only [List.mem_cons, List.not_mem_nil, or_false] at hc
      rcases hc with rfl | rfl
      · exact h4
      · exact hsr.2
    · rw [hlen] at hj
      simp at hc; subst hc
      exact (h2 j hj).2.2
end
def NewRQ (W w : World) (sh wd : Int) (e : Ending) (w' : World) : Prop := ∃ qb fp, e = .returned (.pointer (some ⟨qb, 0, none⟩)) ∧ RQ W qb (heldN wd) (zeroM (leavesOf sh)) fp w' ∧ Upd [] w w' ∧ ∀ c ∈ fp, w.heap.size ≤ c

set_option maxRecDepth 100000 in
set_option maxHeartbeats 8000000 in
theorem RQ.new {W w : World} (hU : Upd [] W w) (shards wd : Int) : Calls Tryz.prog 54 #[.int .i64 shards, .int .i64 wd] w (NewRQ W w shards wd) := by
  obtain ⟨i0, hi0, hz0, hz1, hz2⟩ := info_parts infoWheelP
  have hm := leavesOf_bd shards
  have hc := leavesOf_cast shards
  unfold NewRQ
  obtain ⟨m, hmm⟩ : ∃ m, leavesOf shards = m := ⟨_, rfl⟩
  rw [hmm] at hm hc ⊢
  obtain ⟨hm1, hm2⟩ := hm
  have HU := Lib.hid hU
  have HCC := Lib.hid hc
  have HT0 : Hid (RQNewAt W w w.heap.size (heldN wd) m (.int .i64 0) (w.alloc (.cells #[.slice none 0 0] 115))) := by
    exact ⟨0, none, 0, fun _ => 0, rfl, by omega, Blk.new w 115 [.slice none 0 0], RowO.nil _ _ _, fun j hj => by omega, fun a j ha => by omega, fun j hj => by omega, fun c hc => (by cases hc), by omega, (Upd.refl [] w).alloc _⟩
  clear hU hmm hc
  go_enter Tryz.func54, Tryz.ntmps54
  go_wp2_with fail
  go_loopw [6] (fun iv wr => RQNewAt W w w.heap.size (heldN wd) m iv wr) (fun iv _ => m - (intOf iv).toNat)
  case atStart => exact HT0.out
  case round =>
    clear HT0
    obtain ⟨i, ao, cap, sb, rfl, hi, hB, hR, hS, h1, h2, h3, h4, hU⟩ := hrel
    have b0 := hB.cell (j := 0) rfl
    have z0 := hB.free 0
    have lb := hB.lt
    have HB := Lib.hid hB
    have HR := Lib.hid hR
    have HS := Lib.hid hS
    have H1 := Lib.hid h1
    have H2 := Lib.hid h2
    have H3 := Lib.hid h3
    have H4 := Lib.hid h4
    have HUr := Lib.hid hU
    have hqn : Hid (w.heap.size ∉ blkO ao) := fun e => (h3 _ e).1 rfl
    clear hB hR hS h1 h2 h3 h4 hU
    by_cases hlt : i < m
    · have t1 : decide ((i : Int) < Min.min (max shards 1) 16) = true := by rw [← HCC.out]; simp [hlt]
      have H63 : Hid (i + 1 ≤ maxLen) := by unfold Hid maxLen; omega
      have HBY : Hid ((i + 1) * 8 ≤ 140737488355328) := by unfold Hid; omega
      obtain ⟨X1, hX1⟩ : ∃ X1, X1 = wr.alloc (.cells #[.slice none 0 0, .int .u64 0, .int .i64 (heldN wd), .bool true] 117) := ⟨_, rfl⟩
      obtain ⟨X, hX⟩ : ∃ X, X = ((wr.alloc (.cells #[.slice none 0 0, .int .u64 0, .int .i64 (heldN wd), .bool true] 117)).alloc (.cells #[.pointer (some ⟨wr.heap.size, 0, none⟩)] 118)).drew := ⟨_, rfl⟩
      have hN4 : Blk X1 wr.heap.size 117 [.slice none 0 0, .int .u64 0, .int .i64 (heldN wd), .bool true] := by rw [hX1]; exact Blk.new wr 117 [.slice none 0 0, .int .u64 0, .int .i64 (heldN wd), .bool true]
      have hsz1 : X1.heap.size = wr.heap.size + 1 := by rw [hX1]; simp
      have hU1 : Upd [] wr X1 := by rw [hX1]; exact (Upd.refl [] wr).alloc _
      have hUX : Upd [] X1 X := by rw [hX, ← hX1]; exact ((Upd.refl [] X1).alloc _).drew
      have hszX : X1.heap.size < X.heap.size := by rw [hX, ← hX1]; simp
      have hsrc : Src X 1 (some ⟨wr.heap.size + 1, 0, none⟩) 1 [.pointer (some ⟨wr.heap.size, 0, none⟩)] := by
        have h := ((p_news X1 (.pointer (some ⟨wr.heap.size, 0, none⟩)) 118).2 rfl).drew
        rw [hsz1] at h
        rw [hX, ← hX1]; exact h
      have HG : Hid (RG W wr.heap.size 0 (heldN wd) true [] [wr.heap.size] X1) := RG.new wd true hN4 (by have := HU.out.size; have := HUr.out.size; omega)
      have HU1 := Lib.hid hU1
      have HUX := Lib.hid hUX
      have HSZ := Lib.hid hszX
      have HRX := Lib.hid ((HR.out.upd hU1 (by simp)).upd hUX (by simp))
      have HSRC := Lib.hid hsrc
      rw [hX] at HRX HSRC
      have HX := Lib.hid hX
      clear hN4 hsz1 hU1 hUX hszX hsrc hX1 hX
      go_wp2_with fail
      go_region_law (first | (go_simp; go_at_call 73; refine (rwidth_any wd _).mono ?_; rintro e w2 ⟨rfl, rfl⟩) | (refine step_app2 _ rfl _ _ _ rfl 118 i0 _ 1 8 underlyingWheels hi0 hz0 hz1 hz2 rfl Nat.one_pos ao i cap (ptrs sb i) rfl HRX.out (some ⟨wr.heap.size + 1, 0, none⟩) 1 1 [.pointer (some ⟨wr.heap.size, 0, none⟩)] rfl HSRC.out H63.out HBY.out ?_; rw [← HX.out]; intro ao3 cp3 w4 hA; have hU4 : Upd (blkO ao) wr w4 := (HU1.out.trans HUX.out).then hA.upd (fun _ _ h => (by cases h)) (fun _ _ h => h); have zc := (hU4.cell lb hqn.out 0).trans b0; have zf := (hU4.frozen lb hqn.out 0).trans z0; have lb4 := Nat.lt_of_lt_of_le lb hU4.size; have HA := Lib.hid hA; clear hA hU4))
      all_goals
        go_wp2
        exact ⟨rqnew_round hlt HB.out HR.out HS.out H1.out H2.out H3.out H4.out HUr.out HU1.out HG.out (Nat.le_refl _) HUX.out HSZ.out HA.out, by first | (simp [intOf]; done) | (simp [intOf]; omega)⟩
    · have t1 : decide ((i : Int) < Min.min (max shards 1) 16) = false := by rw [← HCC.out]; simp; omega
      have e : i = m := by omega
      have HD : Hid (∃ fp, RQ W w.heap.size (heldN wd) (zeroM m) fp wr ∧ Upd [] w wr ∧ ∀ c ∈ fp, w.heap.size ≤ c) := rqnew_done HU.out hm1 ⟨i, ao, cap, sb, by rw [e], hi, HB.out, HR.out, HS.out, H1.out, H2.out, H3.out, H4.out, HUr.out⟩
      clear HB HR HS H1 H2 H3 H4 HUr hqn e
      go_wp2
      go_ret
      obtain ⟨fp, k1, k2, k3⟩ := HD.out
      exact ⟨_, fp, rfl, k1, k2, k3⟩
end Go.Proofs.YtolohheflbmfaaaGreatDoor
