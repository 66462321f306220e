/-
  One who serves, where each Pick is followed by its Done: no item lies below v. No program, no condition.
-/
import Derived.Test.YtolohheflbmfaaaGreatDoorCl
set_option linter.unusedVariables false
set_option linter.unusedSimpArgs false
namespace Go.Proofs.YtolohheflbmfaaaGreatDoor

theorem pushM_baseC {M : List Sh} {L : List It} (h : QOk M L) (k : Nat) (id : Int) : (pushM M k id).length = M.length ∧ ∀ i, (shAt (pushM M k id) i).1 = (shAt M i).1 := by
  refine ⟨pushM_len M k id, fun i => ?_⟩
  unfold pushM
  split
  · rw [shAt_set (rt_lt h.one id)]; split
    · rename_i e; rw [e]
    · rfl
  · rfl

/-- No base is above v, no key below it. -/
structure RI (s : CS) : Prop where
  base : ∀ i, i < s.M.length → (shAt s.M i).1 ≤ s.v
  keys : ∀ x ∈ s.L, s.v ≤ kn x
theorem RI.take {s : CS} {n : Nat} (h : RI s) (hci : CI s n) {k : Nat} (hk : s.v ≤ k) {flow : Int} (h0 : 0 ≤ flow) : takeQ s.M k flow = !hasI s.L flow := by
  have hr := rt_lt hci.ok.one flow
  unfold takeQ
  rw [hci.ok.has flow h0]
  simp [h0, Nat.le_trans (h.base _ hr) hk]
theorem RI.push {M : List Sh} {L : List It} {v : Nat} (hok : QOk M L) (h1 : ∀ i, i < M.length → (shAt M i).1 ≤ v) (h2 : ∀ x ∈ L, v ≤ kn x) {k : Nat} (hk : v ≤ k) (flow : Int) :
    (∀ i, i < (pushM M k flow).length → (shAt (pushM M k flow) i).1 ≤ v) ∧ ∀ x ∈ pushL M L k flow, v ≤ kn x := by
  obtain ⟨e1, e2⟩ := pushM_baseC hok k flow
  refine ⟨fun i hi => by rw [e2]; exact h1 i (by rw [← e1]; exact hi), fun x hx => ?_⟩
  unfold pushL at hx
  split at hx
  · rcases List.mem_cons.1 ((insI_perm _ _).mem_iff.1 hx) with rfl | hx
    · unfold kn; simpa using hk
    · exact h2 x hx
  · exact h2 x hx
theorem RI.wake {s : CS} {n : Nat} (h : RI s) (hci : CI s n) (obj flow : Int) (r : Nat) : RI (wakeC s obj flow r) := by
  unfold wakeC
  split
  · obtain ⟨p1, p2⟩ := RI.push hci.ok h.base h.keys (k := wakeK s obj) (by unfold wakeK; omega) flow
    exact ⟨p1, p2⟩
  · exact h
theorem RI.pick {s : CS} {n : Nat} (h : RI s) (hci : CI s n) (hk : ∀ x ∈ s.L, x.1 = (kn x : Int)) : RI (pickC s) ∧ s.v ≤ (pickC s).v := by
  cases hL : s.L with
  | nil =>
    rw [pickC_nil hL]
    refine ⟨⟨fun i hi => ?_, fun x hx => ?_⟩, ?_⟩
    · have := h.base i hi; simp only; omega
    · simp only [hL] at hx; cases hx
    · simp only; omega
  | cons x l =>
    have hv := h.keys x (by rw [hL]; simp)
    have hm : popM s.M s.L = s.M.set (rt s.M.length x.2) (kn x, (shAt s.M (rt s.M.length x.2)).2.tail) := by rw [hL]; rfl
    rw [pickC_cons hL]
    refine ⟨⟨fun i hi => ?_, fun y hy => ?_⟩, hv⟩
    · simp only at hi ⊢
      rw [popM_len] at hi
      rw [hm, shAt_set (rt_lt hci.ok.one x.2)]
      split
      · exact Nat.le_refl _
      · exact Nat.le_trans (h.base i hi) hv
    · simp only at hy ⊢
      have hs := hci.ok.srt
      rw [hL] at hs hy
      exact srt_head_le hs (fun z hz => hk z (by rw [hL]; exact hz)) y (by simp at hy; simp [hy])
theorem addT_ge {a b : Nat} (ha : a < 18446744073709551616) : a ≤ addT a b := by unfold addT topN; omega
theorem RI.done {s : CS} {n : Nat} (h : RI s) (hci : CI s n) (hk : s.v ≤ s.key) (size : Int) (more : Bool) : RI (doneC s size more) ∧ (doneC s size more).v = s.v := by
  unfold doneC
  split
  · have hf : s.v ≤ (doneT s size).finish := by
      have := addT_ge (b := mulT (sizeN size) (s.th s.obj).r) hci.k64
      show s.v ≤ addT s.key _
      omega
    obtain ⟨p1, p2⟩ := RI.push hci.ok h.base h.keys hf (doneT s size).flow
    cases more
    · exact ⟨⟨h.base, h.keys⟩, rfl⟩
    · exact ⟨⟨p1, p2⟩, rfl⟩
  · exact ⟨h, rfl⟩
theorem RI.new (m : Nat) : RI (newC m) := ⟨fun i _ => by show (shAt (zeroM m) i).1 ≤ 0; rw [zeroM_at]; exact Nat.le_refl _, fun _ hx => (by cases hx)⟩
end Go.Proofs.YtolohheflbmfaaaGreatDoor
