/-
  Texts of this claim, joined: Qa, Qb, Qc, Qd, Qe, Qf. No condition.
-/
import Derived.Test.YtolohheflbmfaaaGreatDoorPSA
import Derived.Test.YtolohheflbmfaaaGreatDoorPT
import Derived.Test.YtolohheflbmfaaaGreatDoorQuiet
import Derived.IntWalk
import Derived.Test.YtolohheflbmfaaaGreatDoorSh
import Derived.Deep.RegionLaw
set_option linter.unusedVariables false
set_option linter.unusedSimpArgs false
/-! Qa -/
namespace Go.Proofs.YtolohheflbmfaaaGreatDoor

/-- A shard: its base, its items in order. -/
abbrev Sh := Nat × List It
def shAt (M : List Sh) (i : Nat) : Sh := M.getD i (0, [])

/-- Where an ID goes. -/
def rt (n : Nat) (id : Int) : Nat := (id % (n : Int)).toNat
def leafOf : List It → Leaf
  | [] => zLeaf
  | x :: _ => (x, true)
def flatM (M : List Sh) : List It := M.flatMap (·.2)

theorem shAt_get {M : List Sh} {i : Nat} (h : i < M.length) : shAt M i = M[i] := by unfold shAt; rw [List.getD_eq_getElem?_getD, List.getElem?_eq_getElem h]; rfl
theorem shAt_set {M : List Sh} {i : Nat} (h : i < M.length) (s : Sh) (j : Nat) : shAt (M.set i s) j = if j = i then s else shAt M j := by
  unfold shAt
  by_cases e : j = i
  · subst e; rw [if_pos rfl, getD_set_same _ _ _ _ h]
  · rw [if_neg e, getD_set_other _ _ _ _ _ (Ne.symm e)]
theorem mem_flatM {M : List Sh} {x : It} : x ∈ flatM M ↔ ∃ i, i < M.length ∧ x ∈ (shAt M i).2 := by
  unfold flatM
  rw [List.mem_flatMap]
  constructor
  · rintro ⟨s, hs, hx⟩
    obtain ⟨i, hi, rfl⟩ := List.getElem_of_mem hs
    exact ⟨i, hi, by rw [shAt_get hi]; exact hx⟩
  · rintro ⟨i, hi, hx⟩
    rw [shAt_get hi] at hx
    exact ⟨M[i], List.getElem_mem _, hx⟩
theorem rt_lt {n : Nat} (h : 1 ≤ n) (id : Int) : rt n id < n := by
  unfold rt
  have h1 := Int.emod_nonneg id (b := (n : Int)) (by omega)
  have h2 := Int.emod_lt_of_pos id (b := (n : Int)) (by omega)
  omega


/-- A queue that is right: M its shards, L all its items in order. -/
structure QOk (M : List Sh) (L : List It) : Prop where
  one : 1 ≤ M.length
  small : M.length ≤ 16
  srts : ∀ i, i < M.length → Srt (shAt M i).2
  nds : ∀ i, i < M.length → NdI (shAt M i).2
  route : ∀ i, i < M.length → ∀ x ∈ (shAt M i).2, 0 ≤ x.2 ∧ rt M.length x.2 = i
  srt : Srt L
  perm : L.Perm (flatM M)

section
variable {M : List Sh} {L : List It}
theorem QOk.mem (h : QOk M L) {x : It} : x ∈ L ↔ ∃ i, i < M.length ∧ x ∈ (shAt M i).2 := by rw [h.perm.mem_iff, mem_flatM]
theorem QOk.flat_nd (h : QOk M L) : NdI (flatM M) := by
  unfold NdI flatM
  rw [List.map_flatMap]
  unfold List.Nodup
  rw [List.pairwise_flatMap]
  refine ⟨fun s hs => ?_, ?_⟩
  · obtain ⟨i, hi, rfl⟩ := List.getElem_of_mem hs
    have := h.nds i hi
    rw [shAt_get hi] at this
    exact this
  · rw [List.pairwise_iff_getElem]
    intro i j hi hj hij x hx y hy e
    obtain ⟨a, ha, rfl⟩ := List.mem_map.1 hx
    obtain ⟨b, hb, rfl⟩ := List.mem_map.1 hy
    have h1 := (h.route i hi a (by rw [shAt_get hi]; exact ha)).2
    have h2 := (h.route j hj b (by rw [shAt_get hj]; exact hb)).2
    rw [e] at h1
    omega
theorem QOk.nd (h : QOk M L) : NdI L := h.flat_nd.perm h.perm.symm
theorem QOk.neg (h : QOk M L) {id : Int} (hid : id < 0) : hasI L id = false := by
  rw [hasI_no]
  intro x hx e
  obtain ⟨i, hi, hx⟩ := h.mem.1 hx
  have := (h.route i hi x hx).1
  omega
theorem QOk.has (h : QOk M L) (id : Int) (hid : 0 ≤ id) : hasI L id = hasI (shAt M (rt M.length id)).2 id := by
  have hr := rt_lt h.one id
  rw [Bool.eq_iff_iff, hasI_iff, hasI_iff]
  constructor
  · rintro ⟨x, hx, rfl⟩
    obtain ⟨i, hi, hx⟩ := h.mem.1 hx
    have := (h.route i hi x hx).2
    rw [this]
    exact ⟨x, hx, rfl⟩
  · rintro ⟨x, hx, rfl⟩
    exact ⟨x, h.mem.2 ⟨_, hr, hx⟩, rfl⟩

/-- One shard, and the rest. -/
theorem flatM_split (M : List Sh) {i : Nat} (hi : i < M.length) : ∃ R, (flatM M).Perm ((shAt M i).2 ++ R) ∧ ∀ s : Sh, (flatM (M.set i s)).Perm (s.2 ++ R) := by
  refine ⟨flatM (M.take i) ++ flatM (M.drop (i + 1)), ?_, fun s => ?_⟩
  · rw [shAt_get hi]
    have e : M = M.take i ++ M[i] :: M.drop (i + 1) := by rw [← List.drop_eq_getElem_cons hi, List.take_append_drop]
    have : flatM M = flatM (M.take i) ++ (M[i].2 ++ flatM (M.drop (i + 1))) := by
      conv => lhs; rw [e]
      unfold flatM; rw [List.flatMap_append, List.flatMap_cons]
    rw [this, ← List.append_assoc, ← List.append_assoc]
    exact List.perm_append_comm.append_right _
  · have e : M.set i s = M.take i ++ s :: M.drop (i + 1) := by rw [List.set_eq_take_append_cons_drop]; simp [hi]
    have : flatM (M.set i s) = flatM (M.take i) ++ (s.2 ++ flatM (M.drop (i + 1))) := by
      rw [e]; unfold flatM; rw [List.flatMap_append, List.flatMap_cons]
    rw [this, ← List.append_assoc, ← List.append_assoc]
    exact List.perm_append_comm.append_right _

/-- One shard is changed. -/
theorem QOk.put (h : QOk M L) {i : Nat} (hi : i < M.length) (b : Nat) {K L' : List It} (h1 : Srt K) (h2 : NdI K) (h3 : ∀ x ∈ K, 0 ≤ x.2 ∧ rt M.length x.2 = i) (h4 : Srt L') (h5 : ∀ R, L.Perm ((shAt M i).2 ++ R) → L'.Perm (K ++ R)) : QOk (M.set i (b, K)) L' := by
  obtain ⟨R, hR, hS⟩ := flatM_split M hi
  refine ⟨by simpa using h.one, by simpa using h.small, fun j hj => ?_, fun j hj => ?_, fun j hj x hx => ?_, h4, (h5 R (h.perm.trans hR)).trans (hS (b, K)).symm⟩
  · rw [List.length_set] at hj
    rw [shAt_set hi]; split
    · exact h1
    · exact h.srts j hj
  · rw [List.length_set] at hj
    rw [shAt_set hi]; split
    · exact h2
    · exact h.nds j hj
  · rw [List.length_set] at hj ⊢
    rw [shAt_set hi] at hx
    split at hx
    · rename_i e; subst e; exact h3 x hx
    · exact h.route j hj x hx
theorem QOk.rebase (h : QOk M L) {i : Nat} (hi : i < M.length) (b : Nat) : QOk (M.set i (b, (shAt M i).2)) L :=
  h.put hi b (h.srts i hi) (h.nds i hi) (h.route i hi) h.srt (fun _ k => k)
theorem QOk.push (h : QOk M L) {x : It} (hid : 0 ≤ x.2) (b : Nat) (hx : hasI L x.2 = false) : QOk (M.set (rt M.length x.2) (b, insI x (shAt M (rt M.length x.2)).2)) (insI x L) := by
  have hi := rt_lt h.one x.2
  have hxs : hasI (shAt M (rt M.length x.2)).2 x.2 = false := by rw [← h.has x.2 hid]; exact hx
  refine h.put hi b (insI_srt (h.srts _ hi) ((hasI_no _ _).1 hxs)) (insI_nd (h.nds _ hi) hxs) (fun y hy => ?_) (insI_srt h.srt ((hasI_no _ _).1 hx)) (fun R k => ?_)
  · rcases List.mem_cons.1 ((insI_perm x _).mem_iff.1 hy) with rfl | hy
    · exact ⟨hid, rfl⟩
    · exact h.route _ hi y hy
  · exact (insI_perm x L).trans (((List.Perm.cons x k)).trans ((insI_perm x _).symm.append_right R))
theorem QOk.drop (h : QOk M L) (id : Int) (hid : 0 ≤ id) (b : Nat) : QOk (M.set (rt M.length id) (b, dropI (shAt M (rt M.length id)).2 id)) (dropI L id) := by
  have hi := rt_lt h.one id
  refine h.put hi b (dropI_srt (h.srts _ hi) id) (dropI_nd (h.nds _ hi) id) (fun y hy => h.route _ hi y (mem_dropI hy)) (dropI_srt h.srt id) (fun R k => ?_)
  have := dropI_perm k id
  rw [dropI_app] at this
  have e : dropI R id = R := by
    apply dropI_none
    rw [hasI_no]
    intro y hy e
    -- y lies in another shard
    have hnd : NdI ((shAt M (rt M.length id)).2 ++ R) := h.nd.perm k
    have hyL : y ∈ L := k.mem_iff.2 (by simp [hy])
    obtain ⟨j, hj, hyj⟩ := h.mem.1 hyL
    have hr := (h.route j hj y hyj).2
    rw [e] at hr
    subst hr
    unfold NdI at hnd
    rw [List.map_append, List.nodup_append] at hnd
    exact hnd.2.2 y.2 (List.mem_map_of_mem hyj) y.2 (List.mem_map_of_mem hy) rfl
  rw [e] at this
  exact this

/-- The first item lies in shard i. -/
theorem QOk.pop (h : QOk M L) {i : Nat} (hi : i < M.length) {x : It} {r l : List It} (hx : (shAt M i).2 = x :: r) (hL : L = x :: l) (b : Nat) : QOk (M.set i (b, r)) l := by
  have hs := h.srts i hi
  have hn := h.nds i hi
  have hr := h.route i hi
  rw [hx] at hs hn hr
  have hs2 := h.srt
  rw [hL] at hs2
  unfold Srt at hs hs2
  unfold NdI at hn
  rw [List.map_cons, List.nodup_cons] at hn
  refine h.put hi b (List.Pairwise.of_cons hs) hn.2 (fun y hy => hr y (by simp [hy])) (List.Pairwise.of_cons hs2) (fun R k => ?_)
  rw [hL, hx] at k
  exact (List.perm_cons x).1 k
theorem QOk.nil {M : List Sh} (h1 : 1 ≤ M.length) (h2 : M.length ≤ 16) (h : ∀ i, i < M.length → (shAt M i).2 = []) : QOk M [] := by
  refine ⟨h1, h2, fun i hi => ?_, fun i hi => ?_, fun i hi x hx => ?_, List.Pairwise.nil, ?_⟩
  · rw [h i hi]; exact List.Pairwise.nil
  · rw [h i hi]; simp [NdI]
  · rw [h i hi] at hx; cases hx
  · have : flatM M = [] := by
      rw [List.eq_nil_iff_forall_not_mem]
      intro x hx
      obtain ⟨i, hi, hx⟩ := mem_flatM.1 hx
      rw [h i hi] at hx; cases hx
    rw [this]
theorem QOk.all_nil (h : QOk M L) (hn : ∀ i, i < M.length → (shAt M i).2 = []) : L = [] := by
  rw [List.eq_nil_iff_forall_not_mem]
  intro x hx
  obtain ⟨i, hi, hx⟩ := h.mem.1 hx
  rw [hn i hi] at hx; cases hx
theorem QOk.len (h : QOk M L) : (flatM M).length = L.length := h.perm.length_eq.symm
theorem QOk.len_sh (h : QOk M L) {i : Nat} (hi : i < M.length) : (shAt M i).2.length ≤ L.length := by
  obtain ⟨R, hR, _⟩ := flatM_split M hi
  have := (h.perm.trans hR).length_eq
  rw [List.length_append] at this
  omega

/-- The head of the one whose head is ahead of all other heads is the first of all. -/
theorem QOk.first (h : QOk M L) {j : Nat} (hj : j < M.length) {x : It} {r : List It} (hx : (shAt M j).2 = x :: r) (hw : ∀ i, i < M.length → ∀ y s, (shAt M i).2 = y :: s → ahead y x = false) : ∃ l, L = x :: l := by
  have hxL : x ∈ L := h.mem.2 ⟨j, hj, by simp [hx]⟩
  cases hL : L with
  | nil => rw [hL] at hxL; cases hxL
  | cons z l =>
    rw [hL] at hxL
    rcases List.mem_cons.1 hxL with rfl | hxl
    · exact ⟨l, rfl⟩
    · exfalso
      have hs := h.srt
      rw [hL] at hs
      have hzx : ahead z x = true := (List.pairwise_cons.1 hs).1 x hxl
      obtain ⟨i, hi, hz⟩ := h.mem.1 (show z ∈ L by simp [hL])
      cases hk : (shAt M i).2 with
      | nil => rw [hk] at hz; cases hz
      | cons y s =>
        have hyx := hw i hi y s hk
        rw [hk] at hz
        rcases List.mem_cons.1 hz with rfl | hz
        · rw [hzx] at hyx; cases hyx
        · have hsi := h.srts i hi
          rw [hk] at hsi
          have := ahead_trans ((List.pairwise_cons.1 hsi).1 z hz) hzx
          rw [this] at hyx; cases hyx
end

/-! ### Deeds -/
theorem set_shAt {M : List Sh} {i : Nat} (h : i < M.length) : M.set i ((shAt M i).1, (shAt M i).2) = M := by
  rw [shAt_get h]; exact List.set_getElem_self h

/-- Is an item taken? -/
def takeQ (M : List Sh) (k : Nat) (id : Int) : Bool := decide (0 ≤ id) && (decide ((shAt M (rt M.length id)).1 ≤ k) && !hasI (shAt M (rt M.length id)).2 id)
def pushM (M : List Sh) (k : Nat) (id : Int) : List Sh := if takeQ M k id = true then M.set (rt M.length id) ((shAt M (rt M.length id)).1, insI ((k : Int), id) (shAt M (rt M.length id)).2) else M
def pushL (M : List Sh) (L : List It) (k : Nat) (id : Int) : List It := if takeQ M k id = true then insI ((k : Int), id) L else L
def popM (M : List Sh) : List It → List Sh
  | [] => M
  | x :: _ => M.set (rt M.length x.2) (kn x, (shAt M (rt M.length x.2)).2.tail)
def dropM (M : List Sh) (id : Int) : List Sh := if 0 ≤ id then M.set (rt M.length id) ((shAt M (rt M.length id)).1, dropI (shAt M (rt M.length id)).2 id) else M
theorem pushM_len (M : List Sh) (k : Nat) (id : Int) : (pushM M k id).length = M.length := by unfold pushM; split <;> simp
theorem popM_len (M : List Sh) (L : List It) : (popM M L).length = M.length := by cases L <;> simp [popM]
theorem dropM_len (M : List Sh) (id : Int) : (dropM M id).length = M.length := by unfold dropM; split <;> simp
theorem takeQ_iff {M : List Sh} {k : Nat} {id : Int} : takeQ M k id = true ↔ 0 ≤ id ∧ (shAt M (rt M.length id)).1 ≤ k ∧ hasI (shAt M (rt M.length id)).2 id = false := by
  unfold takeQ; simp
theorem pushM_ok {M : List Sh} {L : List It} (h : QOk M L) (k : Nat) (id : Int) : QOk (pushM M k id) (pushL M L k id) := by
  unfold pushM pushL
  split
  · rename_i e
    obtain ⟨h1, h2, h3⟩ := takeQ_iff.1 e
    exact h.push (x := ((k : Int), id)) h1 _ (by rw [h.has _ h1]; exact h3)
  · exact h
theorem pushL_len (M : List Sh) (L : List It) (k : Nat) (id : Int) : (pushL M L k id).length ≤ L.length + 1 := by
  unfold pushL; split
  · rw [(insI_perm _ _).length_eq]; simp
  · omega
theorem popM_at {M : List Sh} {L : List It} (h : QOk M L) {j : Nat} (hj : j < M.length) {x : It} {r l : List It} (h1 : (shAt M j).2 = x :: r) (h2 : L = x :: l) : popM M L = M.set j (kn x, r) := by
  have := (h.route j hj x (by rw [h1]; simp)).2
  subst h2
  show M.set (rt M.length x.2) (kn x, (shAt M (rt M.length x.2)).2.tail) = _
  rw [this, h1]; rfl
theorem dropM_ok {M : List Sh} {L : List It} (h : QOk M L) (id : Int) : QOk (dropM M id) (dropI L id) := by
  unfold dropM
  split
  · rename_i e; exact h.drop id e _
  · rename_i e; rw [dropI_none (h.neg (by omega))]; exact h
theorem dropM_none {M : List Sh} {L : List It} (h : QOk M L) {id : Int} (hx : hasI L id = false) : dropM M id = M := by
  unfold dropM
  split
  · rename_i e
    rw [h.has id e] at hx
    rw [dropI_none hx]
    exact set_shAt (rt_lt h.one id)
  · rfl
theorem QOk.find {M : List Sh} {L : List It} (h : QOk M L) {id : Int} (h0 : 0 ≤ id) : dropV L id = dropV (shAt M (rt M.length id)).2 id := by
  have hi := rt_lt h.one id
  have e : findI L id = findI (shAt M (rt M.length id)).2 id := by
    cases hk : findI (shAt M (rt M.length id)).2 id with
    | none => rw [findI_none] at hk ⊢; rw [h.has id h0]; exact hk
    | some x =>
      obtain ⟨hx, rfl⟩ := findI_mem hk
      exact findI_of h.nd (h.mem.2 ⟨_, hi, hx⟩)
  unfold dropV; rw [e]

/-! ### Who is first -/
theorem up_one : ∀ m, 1 ≤ m → up m 1 = 1 := by
  intro m
  induction m using Nat.strongRecOn with
  | ind m ih =>
    intro h
    by_cases e : m = 1
    · rw [e]; exact up_le 1 1 (by omega)
    · rw [up_half m 1 (by omega) (by omega)]; exact ih (m / 2) (by omega) (by omega)
def leavesM (M : List Sh) : List Leaf := M.map (fun s => leafOf s.2)
theorem leavesM_get {M : List Sh} {i : Nat} (h : i < M.length) : (leavesM M).getD i zLeaf = leafOf (shAt M i).2 := by
  unfold leavesM; rw [List.getD_eq_getElem?_getD, List.getElem?_map, List.getElem?_eq_getElem h, shAt_get h]; rfl
theorem leavesM_set (M : List Sh) (i : Nat) (s : Sh) : leavesM (M.set i s) = (leavesM M).set i (leafOf s.2) := by unfold leavesM; rw [List.map_set]
theorem leavesM_len (M : List Sh) : (leavesM M).length = M.length := by unfold leavesM; simp
theorem leafOf_cases (l : List It) : (l = [] ∧ leafOf l = zLeaf) ∨ ∃ x r, l = x :: r ∧ leafOf l = (x, true) := by cases l with
  | nil => exact .inl ⟨rfl, rfl⟩
  | cons x r => exact .inr ⟨x, r, rfl, rfl⟩
theorem popM_ok {M : List Sh} {L : List It} (h : QOk M L) : QOk (popM M L) L.tail := by
  cases hL : L with
  | nil => rw [hL] at h; exact h
  | cons x l =>
    obtain ⟨i, hi, hx⟩ := h.mem.1 (show x ∈ L by rw [hL]; simp)
    have hr := (h.route i hi x hx).2
    have hs := h.srt
    rw [hL] at hs
    have hfirst : ∃ r, (shAt M i).2 = x :: r := by
      cases hk : (shAt M i).2 with
      | nil => rw [hk] at hx; cases hx
      | cons y r =>
        rw [hk] at hx
        rcases List.mem_cons.1 hx with rfl | hxr
        · exact ⟨r, rfl⟩
        · have hsi := h.srts i hi
          rw [hk] at hsi
          have h1 := (List.pairwise_cons.1 hsi).1 x hxr
          have hyL : y ∈ L := h.mem.2 ⟨i, hi, by rw [hk]; simp⟩
          rw [hL] at hyL
          rcases List.mem_cons.1 hyL with rfl | hyl
          · exact ⟨r, rfl⟩
          · have h2 := (List.pairwise_cons.1 hs).1 y hyl
            have := ahead_trans h1 h2
            rw [ahead_irrefl] at this; cases this
    obtain ⟨r, hr2⟩ := hfirst
    show QOk (popM M (x :: l)) l
    rw [← hL, popM_at h hi hr2 hL]
    exact h.pop hi hr2 hL _

/-- Who wins is whose head is first of all. -/
theorem QOk.wins {M : List Sh} {L : List It} (h : QOk M L) {size : Nat} (hs : M.length ≤ size) {v : Int} (hw : IsWin (leavesM M) size 1 M.length v) :
    (v = -1 ∧ L = []) ∨ ∃ (j : Nat) (x : It) (r l : List It), v = j ∧ j < M.length ∧ (shAt M j).2 = x :: r ∧ L = x :: l := by
  have hup : ∀ i, i < M.length → up (size + i) 1 = 1 := fun i hi => up_one _ (by have := h.one; omega)
  rcases hw with ⟨rfl, hw⟩ | ⟨j, rfl, hj, _, hjt, hw⟩
  · left
    refine ⟨rfl, h.all_nil (fun i hi => ?_)⟩
    have := hw i hi (hup i hi)
    rw [leavesM_get hi] at this
    rcases leafOf_cases (shAt M i).2 with ⟨e, _⟩ | ⟨x, r, e, e2⟩
    · exact e
    · rw [e2] at this; cases this
  · right
    rw [leavesM_get hj] at hjt hw
    rcases leafOf_cases (shAt M j).2 with ⟨e, e2⟩ | ⟨x, r, e, e2⟩
    · rw [e2] at hjt; cases hjt
    · rw [e2] at hw
      obtain ⟨l, hl⟩ := h.first hj e (fun i hi y s hy => by
        have := (hw i hi (hup i hi) (by rw [leavesM_get hi, hy]; rfl)).1
        rw [leavesM_get hi, hy] at this
        exact this)
      exact ⟨j, x, r, l, rfl, hj, e, hl⟩
end Go.Proofs.YtolohheflbmfaaaGreatDoor

/-! Qb -/
namespace Go.Proofs.YtolohheflbmfaaaGreatDoor
open Go.RowKit

/-- A row of pointers. -/
def ptrs (sb : Nat → Nat) (n : Nat) : List Value := (List.range n).map fun i => .pointer (some ⟨sb i, 0, none⟩)
theorem ptrs_get {sb : Nat → Nat} {n i : Nat} (h : i < n) : (ptrs sb n)[i]? = some (.pointer (some ⟨sb i, 0, none⟩)) := by
  unfold ptrs; rw [List.getElem?_map, List.getElem?_range h]; rfl
theorem ptrs_snoc (sb : Nat → Nat) (n : Nat) : ptrs sb n ++ [.pointer (some ⟨sb n, 0, none⟩)] = ptrs sb (n + 1) := by
  unfold ptrs; rw [List.range_succ, List.map_append]; rfl
theorem ptrs_congr {sb sb' : Nat → Nat} {n : Nat} (h : ∀ i, i < n → sb i = sb' i) : ptrs sb n = ptrs sb' n := by
  unfold ptrs; apply List.map_congr_left; intro i hi; rw [h i (List.mem_range.1 hi)]

/-- A function but at one place. -/
def updF {α : Type} (F : Nat → α) (i : Nat) (x : α) : Nat → α := fun j => if j = i then x else F j
theorem updF_same {α : Type} (F : Nat → α) (i : Nat) (x : α) : updF F i x i = x := by unfold updF; rw [if_pos rfl]
theorem updF_other {α : Type} (F : Nat → α) {i j : Nat} (x : α) (h : j ≠ i) : updF F i x j = F j := by unfold updF; rw [if_neg h]

def headsQ (qb sr : Nat) (t : Tr) : List Nat := [qb, sr, t.bt, t.bl, t.bn]
def fpN (H : List Nat) (n : Nat) (F : Nat → List Nat) : List Nat := H ++ (List.range n).flatMap F
theorem mem_fpN {H : List Nat} {n : Nat} {F : Nat → List Nat} {c : Nat} : c ∈ fpN H n F ↔ c ∈ H ∨ ∃ i, i < n ∧ c ∈ F i := by
  unfold fpN
  rw [List.mem_append, List.mem_flatMap]
  constructor
  · rintro (h | ⟨i, hi, h⟩)
    · exact .inl h
    · exact .inr ⟨i, List.mem_range.1 hi, h⟩
  · rintro (h | ⟨i, hi, h⟩)
    · exact .inl h
    · exact .inr ⟨i, List.mem_range.2 hi, h⟩


/-- Where a queue's parts lie, and what they hold; T: what the tour's leaves are. -/
structure QAt (W w : World) (qb wd : Nat) (M : List Sh) (T : List Leaf) (sr cap : Nat) (t : Tr) (sb : Nat → Nat) (F : Nat → List Nat) : Prop where
  top : Blk w qb 124 [.slice (some ⟨sr, 0, none⟩) M.length cap, .pointer (some ⟨t.bt, 0, none⟩)]
  row : Row w 125 1 sr M.length cap (ptrs sb M.length)
  sh : ∀ i, i < M.length → SL W (sb i) (shAt M i).1 wd (shAt M i).2 (F i) w
  tour : TourAt w t
  good : Good t.L t.size t.N
  pow : Pow t.size
  tl : t.L = T
  tlen : T.length = M.length
  dis : ∀ i j, i < M.length → j < M.length → i ≠ j → ∀ c ∈ F i, c ∉ F j
  own : ∀ i, i < M.length → ∀ c ∈ F i, c ∉ headsQ qb sr t
  q1 : qb ≠ sr
  q2 : qb ∉ [t.bt, t.bl, t.bn]
  q3 : sr ∉ [t.bt, t.bl, t.bn]
  newH : ∀ c ∈ headsQ qb sr t, W.heap.size ≤ c
section
variable {W w : World} {qb wd : Nat} {M : List Sh} {T : List Leaf} {sr cap : Nat} {t : Tr} {sb : Nat → Nat} {F : Nat → List Nat}
theorem QAt.lt (h : QAt W w qb wd M T sr cap t sb F) : ∀ c ∈ fpN (headsQ qb sr t) M.length F, c < w.heap.size := by
  intro c hc
  rcases mem_fpN.1 hc with hc | ⟨i, hi, hc⟩
  · simp only [headsQ, List.mem_cons, List.not_mem_nil, or_false] at hc
    rcases hc with rfl | rfl | rfl | rfl | rfl
    · exact h.top.lt
    · exact h.row.lt
    · exact h.tour.top.lt
    · exact h.tour.leaves.lt
    · exact h.tour.nodes.lt
  · exact (h.sh i hi).lt c hc
theorem QAt.newB (h : QAt W w qb wd M T sr cap t sb F) : ∀ c ∈ fpN (headsQ qb sr t) M.length F, W.heap.size ≤ c := by
  intro c hc
  rcases mem_fpN.1 hc with hc | ⟨i, hi, hc⟩
  · exact h.newH c hc
  · exact (h.sh i hi).newB c hc
theorem QAt.updS (h : QAt W w qb wd M T sr cap t sb F) {S : List Nat} {w' : World} (hu : Upd S w w') (hs : ∀ c ∈ fpN (headsQ qb sr t) M.length F, c ∉ S) (hw : ∀ c ∈ S, W.heap.size ≤ c) : QAt W w' qb wd M T sr cap t sb F :=
  { h with
    top := h.top.upd hu (hs _ (mem_fpN.2 (.inl (by simp [headsQ]))))
    row := h.row.upd hu (hs _ (mem_fpN.2 (.inl (by simp [headsQ]))))
    sh := fun i hi => (h.sh i hi).updS hu (fun c hc => hs c (mem_fpN.2 (.inr ⟨i, hi, hc⟩))) hw
    tour := h.tour.upd hu (hs _ (mem_fpN.2 (.inl (by simp [headsQ])))) (hs _ (mem_fpN.2 (.inl (by simp [headsQ])))) (hs _ (mem_fpN.2 (.inl (by simp [headsQ])))) }
theorem QAt.upd (h : QAt W w qb wd M T sr cap t sb F) {w' : World} (hu : Upd [] w w') : QAt W w' qb wd M T sr cap t sb F := h.updS hu (by simp) (by simp)

/-- A deed on one shard. -/
theorem QAt.shard (h : QAt W w qb wd M T sr cap t sb F) {i : Nat} (hi : i < M.length) {b : Nat} {K : List It} {w' : World} (k : SLTo W (sb i) b wd K (F i) w w') :
    ∃ F', QAt W w' qb wd (M.set i (b, K)) T sr cap t sb F' ∧ Fr (fpN (headsQ qb sr t) M.length F) (fpN (headsQ qb sr t) M.length F') w w' := by
  obtain ⟨Fi, k1, k2, k3⟩ := k
  have hlt := h.lt
  have hin : ∀ j, j < M.length → ∀ c ∈ F j, c < w.heap.size := fun j hj c hc => hlt c (mem_fpN.2 (.inr ⟨j, hj, hc⟩))
  have hhd : ∀ c ∈ headsQ qb sr t, c < w.heap.size := fun c hc => hlt c (mem_fpN.2 (.inl hc))
  have hnh : ∀ c ∈ headsQ qb sr t, c ∉ F i := fun c hc e => h.own i hi c e hc
  have hnS : ∀ c ∈ F i, W.heap.size ≤ c := (h.sh i hi).newB
  refine ⟨updF F i Fi, ?_, fun c hc => ?_, k3.mono (fun c _ hc => mem_fpN.2 (.inr ⟨i, hi, hc⟩))⟩
  · refine { h with top := ?_, row := ?_, sh := fun j hj => ?_, tour := ?_, tlen := by rw [List.length_set]; exact h.tlen, dis := fun a j ha hj haj c hc => ?_, own := fun j hj c hc => ?_ }
    · rw [List.length_set]; exact h.top.upd k3 (hnh _ (by simp [headsQ]))
    · rw [List.length_set]; exact h.row.upd k3 (hnh _ (by simp [headsQ]))
    · rw [List.length_set] at hj
      by_cases e : j = i
      · subst e; rw [shAt_set hi, if_pos rfl, updF_same]; exact k1
      · rw [shAt_set hi, if_neg e, updF_other _ _ e]
        exact (h.sh j hj).updS k3 (h.dis j i hj hi e) hnS
    · exact h.tour.upd k3 (hnh _ (by simp [headsQ])) (hnh _ (by simp [headsQ])) (hnh _ (by simp [headsQ]))
    · rw [List.length_set] at ha hj
      by_cases ea : a = i
      · subst ea
        rw [updF_same] at hc
        rw [updF_other _ _ (Ne.symm haj)]
        rcases k2 c hc with e | e
        · exact h.dis a j ha hj haj c e
        · intro e2; have := hin j hj c e2; omega
      · rw [updF_other _ _ ea] at hc
        by_cases ej : j = i
        · subst ej
          rw [updF_same]
          intro e2
          rcases k2 c e2 with e | e
          · exact h.dis a j ha hj haj c hc e
          · have := hin a ha c hc; omega
        · rw [updF_other _ _ ej]; exact h.dis a j ha hj haj c hc
    · rw [List.length_set] at hj
      by_cases ej : j = i
      · subst ej
        rw [updF_same] at hc
        rcases k2 c hc with e | e
        · exact h.own j hj c e
        · intro e2; have := hhd c e2; omega
      · rw [updF_other _ _ ej] at hc; exact h.own j hj c hc
  · rcases mem_fpN.1 hc with hc | ⟨j, hj, hc⟩
    · exact .inl (mem_fpN.2 (.inl hc))
    · by_cases ej : j = i
      · subst ej
        rw [updF_same] at hc
        rcases k2 c hc with e | e
        · exact .inl (mem_fpN.2 (.inr ⟨j, hj, e⟩))
        · exact .inr e
      · rw [updF_other _ _ ej] at hc
        exact .inl (mem_fpN.2 (.inr ⟨j, hj, hc⟩))

/-- The tour plays one leaf. -/
theorem QAt.played (h : QAt W w qb wd M T sr cap t sb F) {i : Nat} (hi : i < M.length) {f : Leaf} {e : Ending} {w' : World} (k : PlayIn t i f w e w') :
    ∃ t', QAt W w' qb wd M (T.set i f) sr cap t' sb F ∧ headsQ qb sr t' = headsQ qb sr t ∧ Upd [t.bl, t.bn] w w' := by
  obtain ⟨_, k2, k3⟩ := k
  have hil : i < t.L.length := by rw [h.tl, h.tlen]; exact hi
  rw [Int.toNat_natCast] at k3
  refine ⟨{ t with L := t.L.set i f, N := playN (t.L.set i f) t.size i f.2 t.N }, { h with top := ?_, row := ?_, sh := fun j hj => ?_, tour := k3, good := play_good f h.good h.pow h.tour.fits hil, tl := by rw [h.tl], tlen := by rw [List.length_set]; exact h.tlen }, rfl, k2⟩
  · refine h.top.upd k2 (fun e => h.q2 ?_)
    simp only [List.mem_cons, List.not_mem_nil, or_false] at e ⊢
    exact .inr e
  · refine h.row.upd k2 (fun e => h.q3 ?_)
    simp only [List.mem_cons, List.not_mem_nil, or_false] at e ⊢
    exact .inr e
  · refine (h.sh j hj).updS k2 (fun c hc e => h.own j hj c hc ?_) (fun c hc => h.newH c ?_)
    · simp only [headsQ, List.mem_cons, List.not_mem_nil, or_false] at e ⊢
      exact .inr (.inr (.inr e))
    · simp only [headsQ, List.mem_cons, List.not_mem_nil, or_false] at hc ⊢
      exact .inr (.inr (.inr hc))
theorem QAt.updW (h : QAt W w qb wd M T sr cap t sb F) (h1 : 1 ≤ M.length) : Upd [] W w := (h.sh 0 h1).updW
theorem QAt.cells (h : QAt W w qb wd M T sr cap t sb F) : w.cell? ⟨qb, 0, none⟩ = some (.slice (some ⟨sr, 0, none⟩) M.length cap) ∧ w.cell? ⟨qb, 1, none⟩ = some (.pointer (some ⟨t.bt, 0, none⟩)) ∧ (∀ i, i < M.length → w.cell? ⟨sr, i, none⟩ = some (.pointer (some ⟨sb i, 0, none⟩))) ∧ qb < w.heap.size ∧ sr < w.heap.size :=
  ⟨h.top.cell (j := 0) rfl, h.top.cell (j := 1) rfl, fun i hi => h.row.cell (ptrs_get hi), h.top.lt, h.row.lt⟩
end

/-- A queue in blocks that are new since W: M its shards, L all its items in order. -/
def QG (W : World) (qb wd : Nat) (M : List Sh) (L : List It) (fp : List Nat) (w : World) : Prop :=
  ∃ sr cap t sb F, QAt W w qb wd M (leavesM M) sr cap t sb F ∧ QOk M L ∧ fp = fpN (headsQ qb sr t) M.length F
def QGTo (W : World) (qb wd : Nat) (M : List Sh) (L : List It) (fp : List Nat) (w w' : World) : Prop := ∃ fp', QG W qb wd M L fp' w' ∧ Fr fp fp' w w'
section
variable {W w : World} {qb wd : Nat} {M : List Sh} {L : List It} {fp : List Nat}
theorem QG.lt (h : QG W qb wd M L fp w) : ∀ c ∈ fp, c < w.heap.size := by obtain ⟨_, _, _, _, _, h, _, rfl⟩ := h; exact h.lt
theorem QG.newB (h : QG W qb wd M L fp w) : ∀ c ∈ fp, W.heap.size ≤ c := by obtain ⟨_, _, _, _, _, h, _, rfl⟩ := h; exact h.newB
theorem QG.updS (h : QG W qb wd M L fp w) {S : List Nat} {w' : World} (hu : Upd S w w') (hs : ∀ c ∈ fp, c ∉ S) (hw : ∀ c ∈ S, W.heap.size ≤ c) : QG W qb wd M L fp w' := by
  obtain ⟨sr, cap, t, sb, F, h1, h2, rfl⟩ := h; exact ⟨sr, cap, t, sb, F, h1.updS hu hs hw, h2, rfl⟩
theorem QG.upd (h : QG W qb wd M L fp w) {w' : World} (hu : Upd [] w w') : QG W qb wd M L fp w' := h.updS hu (by simp) (by simp)
theorem QG.ok (h : QG W qb wd M L fp w) : QOk M L := by obtain ⟨_, _, _, _, _, _, h, _⟩ := h; exact h
theorem QG.updW (h : QG W qb wd M L fp w) : Upd [] W w := by obtain ⟨_, _, _, _, _, h, h2, rfl⟩ := h; exact h.updW h2.one
theorem QG.tab (h : QG W qb wd M L fp w) : TabAt 0 Lib.deBruijn64tab W := by obtain ⟨_, _, _, _, _, h, h2, rfl⟩ := h; exact (h.sh 0 h2.one).tab
theorem QG.keys (h : QG W qb wd M L fp w) : ∀ i, i < M.length → ∀ x ∈ (shAt M i).2, x.1 = (kn x : Int) ∧ kn x < 18446744073709551616 ∧ (shAt M i).1 ≤ kn x := by obtain ⟨_, _, _, _, _, h, _, _⟩ := h; exact fun i hi => (h.sh i hi).keys
theorem QG.b64 (h : QG W qb wd M L fp w) : ∀ i, i < M.length → (shAt M i).1 < 18446744073709551616 := by obtain ⟨_, _, _, _, _, h, _, _⟩ := h; exact fun i hi => (h.sh i hi).b64
theorem QGTo.up {w' : World} (h : QGTo W qb wd M L fp w w') : Upd fp w w' := by obtain ⟨_, _, h⟩ := h; exact h.2
end
end Go.Proofs.YtolohheflbmfaaaGreatDoor

/-! Qc -/
namespace Go.Proofs.YtolohheflbmfaaaGreatDoor
open Go.RowKit

/-- A queue that one leaf of its tour still has to be told of; one that it was told of. -/
def QStl (W : World) (qb wd : Nat) (M : List Sh) (T : List Leaf) (i : Nat) (fp : List Nat) (w : World) : Prop :=
  ∃ sr cap t sb F, QAt W w qb wd M T sr cap t sb F ∧ i < M.length ∧ T.set i (leafOf (shAt M i).2) = leavesM M ∧ fp = fpN (headsQ qb sr t) M.length F
def QNow (W : World) (qb wd : Nat) (M : List Sh) (fp : List Nat) (w : World) : Prop :=
  ∃ sr cap t sb F, QAt W w qb wd M (leavesM M) sr cap t sb F ∧ fp = fpN (headsQ qb sr t) M.length F
section
variable {W w : World} {qb wd : Nat} {M : List Sh} {T : List Leaf} {fp : List Nat} {i : Nat}
theorem QStl.updS (h : QStl W qb wd M T i fp w) {S : List Nat} {w' : World} (hu : Upd S w w') (hs : ∀ c ∈ fp, c ∉ S) (hw : ∀ c ∈ S, W.heap.size ≤ c) : QStl W qb wd M T i fp w' := by
  obtain ⟨sr, cap, t, sb, F, h1, h2, h3, rfl⟩ := h; exact ⟨sr, cap, t, sb, F, h1.updS hu hs hw, h2, h3, rfl⟩
theorem QStl.upd (h : QStl W qb wd M T i fp w) {w' : World} (hu : Upd [] w w') : QStl W qb wd M T i fp w' := h.updS hu (by simp) (by simp)
theorem QStl.lt (h : QStl W qb wd M T i fp w) : ∀ c ∈ fp, c < w.heap.size := by obtain ⟨_, _, _, _, _, h, _, _, rfl⟩ := h; exact h.lt
theorem QNow.updS (h : QNow W qb wd M fp w) {S : List Nat} {w' : World} (hu : Upd S w w') (hs : ∀ c ∈ fp, c ∉ S) (hw : ∀ c ∈ S, W.heap.size ≤ c) : QNow W qb wd M fp w' := by
  obtain ⟨sr, cap, t, sb, F, h1, rfl⟩ := h; exact ⟨sr, cap, t, sb, F, h1.updS hu hs hw, rfl⟩
theorem QNow.upd (h : QNow W qb wd M fp w) {w' : World} (hu : Upd [] w w') : QNow W qb wd M fp w' := h.updS hu (by simp) (by simp)
theorem QNow.lt (h : QNow W qb wd M fp w) : ∀ c ∈ fp, c < w.heap.size := by obtain ⟨_, _, _, _, _, h, rfl⟩ := h; exact h.lt
theorem QNow.ok {L : List It} (h : QNow W qb wd M fp w) (h2 : QOk M L) : QG W qb wd M L fp w := by obtain ⟨sr, cap, t, sb, F, h1, rfl⟩ := h; exact ⟨sr, cap, t, sb, F, h1, h2, rfl⟩
theorem QAt.told {sr cap : Nat} {t : Tr} {sb : Nat → Nat} {F : Nat → List Nat} {w1 w2 : World} (h : QAt W w1 qb wd M T sr cap t sb F) (hi : i < M.length) (hT : T.set i (leafOf (shAt M i).2) = leavesM M) {e : Ending} {f : Leaf} (hfl : f = leafOf (shAt M i).2) (k : PlayIn t i f w1 e w2) :
    ∃ fp', QNow W qb wd M fp' w2 ∧ Fr (fpN (headsQ qb sr t) M.length F) fp' w1 w2 := by
  obtain ⟨t', k1, k2, k3⟩ := h.played hi k
  refine ⟨_, ⟨sr, cap, t', sb, F, by rw [← hT, ← hfl]; exact k1, rfl⟩, fun c hc => .inl (by rw [k2] at hc; exact hc), k3.mono (fun c _ hc => mem_fpN.2 (.inl ?_))⟩
  simp only [headsQ, List.mem_cons, List.not_mem_nil, or_false] at hc ⊢
  exact .inr (.inr (.inr hc))
end

set_option maxRecDepth 100000 in
set_option maxHeartbeats 4000000 in
theorem qplay {W w : World} {qb wd : Nat} {M : List Sh} {T : List Leaf} {fp : List Nat} {i : Nat} (h : QStl W qb wd M T i fp w) (h16 : M.length ≤ 16) :
    Calls Tryz.prog 66 #[.pointer (some ⟨qb, 0, none⟩), .int .i64 i] w (fun e w' => e = .returned (.tuple #[]) ∧ ∃ fp', QNow W qb wd M fp' w' ∧ Fr fp fp' w w') := by
  obtain ⟨sr, cap, t, sb, F, h1, hi, h3, h4⟩ := h
  subst h4
  obtain ⟨p0, p1, pp, lq, ls⟩ := h1.cells
  have pi := pp i hi
  have HM := Lib.hid (h1.sh i hi).min
  have HQ := Lib.hid h1
  have HI := Lib.hid hi
  have HT := Lib.hid h3
  have hil : i < t.L.length := by rw [h1.tl, h1.tlen]; exact hi
  have HIL := Lib.hid hil
  obtain ⟨n, hn⟩ : ∃ n, M.length = n := ⟨_, rfl⟩
  rw [hn] at p0 hi h16
  obtain ⟨K, hK⟩ : ∃ K, (shAt M i).2 = K := ⟨_, rfl⟩
  have HK := Lib.hid hK
  rw [hK] at HM
  clear h1 h3 pp hil hn hK
  cases K with
  | nil =>
    go_enter Tryz.func66, Tryz.ntmps66
    go_wp2_with fail
    refine HM.out.mono ?_
    rintro e w2 ⟨rfl, hU⟩
    unfold firstV itV
    have p1' := (hU.cell lq (by simp) 1).trans p1
    have lq' := Nat.lt_of_lt_of_le lq hU.size
    have HU := Lib.hid hU
    clear p0 p1 pi lq ls hU
    go_wp2_with fail
    refine (tunset_in t i _ ((HQ.out.upd HU.out).upd ((Upd.refl [] w2).alloc _)).tour HIL.out).mono ?_
    intro e w3 h3
    have HE : Hid (e = .returned (.bool true)) := h3.1
    have HP : Hid (∃ fp', QNow W qb wd M fp' w3 ∧ Fr (fpN (headsQ qb sr t) M.length F) fp' w w3) := by
      obtain ⟨fp', k1, k2⟩ := ((HQ.out.upd HU.out).upd ((Upd.refl [] w2).alloc _)).told HI.out HT.out (by rw [HK.out]; rfl) h3
      exact ⟨fp', k1, (Fr.of (HU.out.trans ((Upd.refl [] w2).alloc _))).trans k2⟩
    clear h3
    rw [HE.out]
    go_wp2
    go_end0
    exact ⟨rfl, HP.out⟩
  | cons x r =>
    go_enter Tryz.func66, Tryz.ntmps66
    go_wp2_with fail
    refine HM.out.mono ?_
    rintro e w2 ⟨rfl, hU⟩
    unfold firstV itV
    have p1' := (hU.cell lq (by simp) 1).trans p1
    have lq' := Nat.lt_of_lt_of_le lq hU.size
    have HU := Lib.hid hU
    clear p0 p1 pi lq ls hU
    go_wp2_with fail
    refine wp_region_tail 6 (by kernel_rfl) (by kernel_rfl) ?_
    simp only [List.take_succ_cons, List.take_zero, List.drop_succ_cons, List.drop_zero]
    repeat (go_big_quiet_step (fail))
    refine wpQuiet_nil ?_
    go_wp2_with fail
    refine (tset_in t i x _ ((HQ.out.upd HU.out).upd ((Upd.refl [] w2).alloc _).drew).tour HIL.out).mono ?_
    intro e w3 h3
    have HE : Hid (e = .returned (.bool true)) := h3.1
    have HP : Hid (∃ fp', QNow W qb wd M fp' w3 ∧ Fr (fpN (headsQ qb sr t) M.length F) fp' w w3) := by
      obtain ⟨fp', k1, k2⟩ := ((HQ.out.upd HU.out).upd ((Upd.refl [] w2).alloc _).drew).told HI.out HT.out (by rw [HK.out]; rfl) h3
      exact ⟨fp', k1, (Fr.of (HU.out.trans ((Upd.refl [] w2).alloc _).drew)).trans k2⟩
    clear h3
    rw [HE.out]
    go_wp2
    go_end0
    exact ⟨rfl, HP.out⟩

/-! ### Min: who wins -/
section
variable {W w : World} {qb wd : Nat} {M : List Sh} {L : List It} {fp : List Nat}
/-- What Win tells of a queue's tour. -/
def WinQ (M : List Sh) (L : List It) (w : World) (e : Ending) (w' : World) : Prop :=
  Upd [] w w' ∧ ((L = [] ∧ e = .returned (.tuple #[.int .i64 0, .agg #[.int .u64 0, .int .i64 0], .bool false])) ∨
    ∃ (j : Nat) (x : It) (r l : List It), j < M.length ∧ (shAt M j).2 = x :: r ∧ L = x :: l ∧ e = .returned (.tuple #[.int .i64 j, .agg #[.int .u64 x.1, .int .i64 x.2], .bool true]))
theorem QAt.win {sr cap : Nat} {t : Tr} {sb : Nat → Nat} {F : Nat → List Nat} (h : QAt W w qb wd M (leavesM M) sr cap t sb F) (hk : QOk M L) :
    Calls Tryz.prog 67 #[.pointer (some ⟨t.bt, 0, none⟩)] w (WinQ M L w) := by
  have hfit := h.tour.fits
  rw [h.tl, leavesM_len] at hfit
  have hw := good_wins h.good h.pow h.tour.fits (2 * t.size - 1) 1 rfl (by omega) (by have := hk.one; omega)
  rw [h.tl, leavesM_len] at hw
  have hl := hk.wins hfit hw
  refine (twin_any t w h.tour).mono ?_
  rintro e w' ⟨h1, h2⟩
  refine ⟨h1, ?_⟩
  rcases hl with ⟨e1, e2⟩ | ⟨j, x, r, l, e1, e2, e3, e4⟩
  · left
    rcases h2 with ⟨_, h2⟩ | ⟨h0, _⟩
    · exact ⟨e2, h2⟩
    · omega
  · right
    rcases h2 with ⟨h0, _⟩ | ⟨_, h2⟩
    · omega
    · refine ⟨j, x, r, l, e2, e3, e4, ?_⟩
      rw [h2, e1]
      have : leafAt t.L (j : Int) = (x, true) := by
        unfold leafAt; rw [Int.toNat_natCast, h.tl, leavesM_get e2, e3]; rfl
      rw [this]
end
end Go.Proofs.YtolohheflbmfaaaGreatDoor

/-! Qd -/
namespace Go.Proofs.YtolohheflbmfaaaGreatDoor
open Go.RowKit

theorem rt_eqs {n : Nat} (h1 : 1 ≤ n) (h2 : n ≤ 16) {id : Int} (h : 0 ≤ id) : Int.tmod id (n : Int) = (rt n id : Nat) ∧ rt n id < n ∧ IntKind.i64.wrap ((rt n id : Nat) : Int) = (rt n id : Nat) := by
  have hl := rt_lt h1 id
  refine ⟨?_, hl, IntWalk.i64_in _ (by omega)⟩
  rw [Int.tmod_eq_emod_of_nonneg h]
  unfold rt
  have := Int.emod_nonneg id (b := (n : Int)) (by omega)
  omega

section
variable {W w : World} {qb wd : Nat} {M : List Sh} {L : List It} {fp : List Nat}

end
/-! ### Push, Pop, Drop -/
theorem takeS_at {M : List Sh} {i k : Nat} {id : Int} (h0 : 0 ≤ id) (hi : rt M.length id = i) : takeS (shAt M i).1 (shAt M i).2 k id = takeQ M k id := by
  subst hi; unfold takeS takeQ; simp [h0]
theorem leavesM_same {M : List Sh} {i : Nat} (hi : i < M.length) (b : Nat) : leavesM (M.set i (b, (shAt M i).2)) = leavesM M := by
  rw [leavesM_set]
  show (leavesM M).set i (leafOf (shAt M i).2) = leavesM M
  rw [← leavesM_get hi, List.getD_eq_getElem?_getD, List.getElem?_eq_getElem (by rw [leavesM_len]; exact hi)]
  exact List.set_getElem_self _
section
variable {W w w0 : World} {qb wd : Nat} {M : List Sh} {L : List It} {fp : List Nat} {sr cap : Nat} {t : Tr} {sb : Nat → Nat} {F : Nat → List Nat}
theorem QAt.stale (h : QAt W w qb wd M (leavesM M) sr cap t sb F) {i : Nat} (hi : i < M.length) {b : Nat} {K : List It} {w' : World} (k : SLTo W (sb i) b wd K (F i) w w') :
    ∃ fp', QStl W qb wd (M.set i (b, K)) (leavesM M) i fp' w' ∧ Fr (fpN (headsQ qb sr t) M.length F) fp' w w' := by
  obtain ⟨F', k1, k2⟩ := h.shard hi k
  exact ⟨_, ⟨sr, cap, t, sb, F', k1, by rw [List.length_set]; exact hi, by rw [shAt_set hi, if_pos rfl, leavesM_set], rfl⟩, by rw [List.length_set]; exact k2⟩
theorem QAt.kept (h : QAt W w qb wd M (leavesM M) sr cap t sb F) {i : Nat} (hi : i < M.length) {b : Nat} {w' : World} (k : SLTo W (sb i) b wd (shAt M i).2 (F i) w w') :
    ∃ fp', QNow W qb wd (M.set i (b, (shAt M i).2)) fp' w' ∧ Fr (fpN (headsQ qb sr t) M.length F) fp' w w' := by
  obtain ⟨F', k1, k2⟩ := h.shard hi k
  exact ⟨_, ⟨sr, cap, t, sb, F', by rw [leavesM_same hi]; exact k1, rfl⟩, by rw [List.length_set]; exact k2⟩

/-- A block that was made before a deed, and is none of the queue's, stays so. -/
theorem Fr.far {fp fp' : List Nat} {w w' : World} (h : Fr fp fp' w w') {c : Nat} (hc : c < w.heap.size) (hn : c ∉ fp) : c ∉ fp' := by
  intro e
  rcases h.1 c e with k | k
  · exact hn k
  · omega

set_option maxRecDepth 100000 in
set_option maxHeartbeats 8000000 in
theorem QG.push (h : QG W qb wd M L fp w) (k : Nat) (hk : k < 18446744073709551616) (id : Int) (hsm : L.length < 1000) :
    Calls Tryz.prog 51 #[.pointer (some ⟨qb, 0, none⟩), .agg #[.int .u64 k, .int .i64 id]] w (fun e w' => e = .returned (.bool (takeQ M k id)) ∧ QGTo W qb wd (pushM M k id) (pushL M L k id) fp w w') := by
  have hok := pushM_ok h.ok k id
  obtain ⟨sr, cap, t, sb, F, h1, h2, rfl⟩ := h
  obtain ⟨p0, p1, pp, lq, ls⟩ := h1.cells
  by_cases hid : 0 ≤ id
  · obtain ⟨r1, r2, r3⟩ := rt_eqs h2.one h2.small hid
    have pi := pp _ r2
    obtain ⟨i, hi⟩ : ∃ i, rt M.length id = i := ⟨_, rfl⟩
    have htk := takeS_at (k := k) hid hi
    rw [hi] at r1 r2 r3 pi
    have h16 := h2.small
    have HP : Hid (∀ w', Upd [] w w' → Calls Tryz.prog 65 #[.pointer (some ⟨sb i, 0, none⟩), .agg #[.int .u64 k, .int .i64 id]] w' (fun e w'' => e = .returned (.bool (takeQ M k id)) ∧ SLTo W (sb i) (shAt M i).1 wd (if takeQ M k id = true then insI ((k : Int), id) (shAt M i).2 else (shAt M i).2) (F i) w' w'')) := fun w' hu => by
      have := ((h1.sh i r2).upd hu).push k hk id (Nat.lt_of_le_of_lt (h2.len_sh r2) hsm)
      rw [htk] at this; exact this
    have HM : Hid (pushM M k id = M.set i ((shAt M i).1, if takeQ M k id = true then insI ((k : Int), id) (shAt M i).2 else (shAt M i).2)) := by
      unfold Hid pushM; rw [hi]; split
      · rfl
      · exact (set_shAt r2).symm
    have HQ := Lib.hid h1
    have HOK := Lib.hid hok
    have HR2 := Lib.hid r2
    have H16 := Lib.hid h2.small
    have h1n := h2.one
    obtain ⟨n, hn⟩ : ∃ n, M.length = n := ⟨_, rfl⟩
    rw [hn] at p0 r1 r2 h16 h1n
    obtain ⟨tk, htq⟩ : ∃ b, takeQ M k id = b := ⟨_, rfl⟩
    rw [htq] at HP HM ⊢
    have d1 : decide (id < 0) = false := by simp [hid]
    have d2 : ((n : Int) == 0) = false := by simp; omega
    have b1 : (i : Int) < (n : Int) := by omega
    have b2 : (0 : Int) ≤ (i : Int) := by omega
    clear h1 h2 pp hi hn hok htk htq
    cases tk with
    | false =>
      rw [if_neg (by simp)] at HM
      simp only [Bool.false_eq_true, if_false] at HP
      go_enter Tryz.func51, Tryz.ntmps51
      go_wp2_with fail
      go_quiet (fail)
      go_wp2_with fail
      refine wp_region_tail 8 (by kernel_rfl) (by kernel_rfl) ?_
      simp only [List.take_succ_cons, List.take_zero, List.drop_succ_cons, List.drop_zero]
      repeat (go_big_quiet_step (fail))
      refine wpQuiet_nil ?_
      go_wp2_with fail
      refine (HP.out _ (((Upd.refl [] w).alloc _).drewN _).drew).mono ?_
      rintro e w2 ⟨rfl, h2⟩
      obtain ⟨fp2, hT, hF⟩ := (HQ.out.upd (((Upd.refl [] w).alloc _).drewN _).drew).kept HR2.out h2
      have HT := Lib.hid hT
      have HF := Lib.hid ((Fr.of (((Upd.refl [] w).alloc _).drewN _).drew).trans hF)
      clear h2 hT hF
      go_wp2
      go_ret
      exact ⟨rfl, fp2, QNow.ok (by rw [HM.out]; exact HT.out) HOK.out, HF.out⟩
    | true =>
      rw [if_pos rfl] at HM
      simp only [if_true] at HP
      go_enter Tryz.func51, Tryz.ntmps51
      go_wp2_with fail
      go_quiet (fail)
      go_wp2_with fail
      refine wp_region_tail 8 (by kernel_rfl) (by kernel_rfl) ?_
      simp only [List.take_succ_cons, List.take_zero, List.drop_succ_cons, List.drop_zero]
      repeat (go_big_quiet_step (fail))
      refine wpQuiet_nil ?_
      go_wp2_with fail
      refine (HP.out _ (((Upd.refl [] w).alloc _).drewN _).drew).mono ?_
      rintro e w2 ⟨rfl, h2⟩
      obtain ⟨fp2, hT, hF⟩ := (HQ.out.upd (((Upd.refl [] w).alloc _).drewN _).drew).stale HR2.out h2
      have HT := Lib.hid hT
      have HF := Lib.hid ((Fr.of (((Upd.refl [] w).alloc _).drewN _).drew).trans hF)
      clear h2 hT hF
      go_wp2_with fail
      refine (qplay HT.out (by rw [List.length_set]; exact H16.out)).mono ?_
      rintro e w3 ⟨rfl, fp3, h3, hF3⟩
      have H3 := Lib.hid h3
      have HF3 := Lib.hid (HF.out.trans hF3)
      clear h3 hF3
      go_wp2
      go_ret
      exact ⟨rfl, fp3, QNow.ok (by rw [HM.out]; exact H3.out) HOK.out, HF3.out⟩
  · have HT : Hid (takeQ M k id = false) := by unfold Hid takeQ; simp [hid]
    have HM : Hid (pushM M k id = M ∧ pushL M L k id = L) := by unfold Hid pushM pushL; rw [HT.out]; simp
    rw [HT.out, HM.out.1, HM.out.2]
    have HQ : Hid (QG W qb wd M L (fpN (headsQ qb sr t) M.length F) w) := ⟨sr, cap, t, sb, F, h1, h2, rfl⟩
    have d1 : decide (id < 0) = true := by simp; omega
    clear h1 h2 pp hok
    go_enter Tryz.func51, Tryz.ntmps51
    go_wp2
    go_ret
    exact ⟨rfl, _, HQ.out.upd ((Upd.refl [] w).alloc _), Fr.of ((Upd.refl [] w).alloc _)⟩

set_option maxRecDepth 100000 in
set_option maxHeartbeats 8000000 in
theorem QG.pop (h : QG W qb wd M L fp w) : Calls Tryz.prog 52 #[.pointer (some ⟨qb, 0, none⟩)] w (fun e w' => e = .returned (firstV L) ∧ QGTo W qb wd (popM M L) L.tail fp w w') := by
  have hok := popM_ok h.ok
  have hlt := h.lt
  have hlw := h.updW.size
  obtain ⟨sr, cap, t, sb, F, h1, h2, rfl⟩ := h
  obtain ⟨p0, p1, pp, lq, ls⟩ := h1.cells
  have HW : Hid (∀ w', Upd [] w w' → Calls Tryz.prog 67 #[.pointer (some ⟨t.bt, 0, none⟩)] w' (WinQ M L w')) := fun w' hu => (h1.upd hu).win h2
  have HQ := Lib.hid h1
  have HOK := Lib.hid hok
  have HO := Lib.hid h2
  have HLT := Lib.hid hlt
  have HLW := Lib.hid hlw
  have HPP := Lib.hid pp
  have H16 := Lib.hid h2.small
  have h16 := h2.small
  obtain ⟨n, hn⟩ : ∃ n, M.length = n := ⟨_, rfl⟩
  have HN := Lib.hid hn
  rw [hn] at p0 h16
  clear h1 h2 pp hok hlt hlw hn
  go_enter Tryz.func52, Tryz.ntmps52
  go_wp2_with fail
  refine (HW.out _ ((Upd.refl [] w).alloc _)).mono ?_
  rintro e w2 ⟨hU, h⟩
  have hZ := (Blk.new w 54 [.int .u64 0, .int .i64 0]).upd hU (by simp)
  have hU2 := ((Upd.refl [] w).alloc (.cells #[.int .u64 0, .int .i64 0] 54)).trans hU
  have HU2 := Lib.hid hU2
  have p0' := (hU2.cell lq (by simp) 0).trans p0
  have p1' := (hU2.cell lq (by simp) 1).trans p1
  have lq' := Nat.lt_of_lt_of_le lq hU2.size
  have ls' := Nat.lt_of_lt_of_le ls hU2.size
  have z0 := hZ.free 0
  have z1 := hZ.free 1
  have zc0 := hZ.cell (j := 0) rfl
  have zc1 := hZ.cell (j := 1) rfl
  have zl := hZ.lt
  have HZ := Lib.hid hZ
  clear hU hZ p0 p1 lq
  rcases h with ⟨hL, rfl⟩ | ⟨j, x, r, l, hj, hK, hL, rfl⟩
  · subst hL
    clear hU2
    go_wp2
    refine bodyPost_ret (v := itV zIt false) (by simp [results, Tryz.results52, go_sem, zc0, zc1, zl, itV, zIt]) rfl ⟨rfl, ?_⟩
    have hU3 := ((HU2.out.setCell (p := ⟨w.heap.size, 0, none⟩) (.inr (Nat.le_refl _)) (.int .u64 0)).setCell (p := ⟨w.heap.size, 1, none⟩) (.inr (Nat.le_refl _)) (.int .i64 0)).alloc (.cells #[.int .u64 0, .int .i64 0] 54)
    exact ⟨_, ⟨sr, cap, t, sb, F, HQ.out.upd hU3, HO.out, rfl⟩, Fr.of hU3⟩
  · have pi := (hU2.cell ls (by simp) j).trans (HPP.out j hj)
    have HJ := Lib.hid hj
    have HK := Lib.hid hK
    have HL := Lib.hid hL
    have hjn : j < n := by rw [← HN.out]; exact hj
    have b1 : (j : Int) < (n : Int) := by omega
    have b2 : (0 : Int) ≤ (j : Int) := by omega
    have hp := fun (w' : World) (hu : Upd [] w w') => ((HQ.out.sh j hj).upd hu).pop
    rw [hK] at hp
    have HP : Hid (∀ w', Upd [] w w' → Calls Tryz.prog 68 #[.pointer (some ⟨sb j, 0, none⟩)] w' (fun e w'' => e = .returned (itV x true) ∧ SLTo W (sb j) (kn x) wd r (F j) w' w'')) := hp
    have HM : Hid (popM M L = M.set j (kn x, r)) := popM_at HO.out hj hK hL
    have HFV : Hid (firstV L = itV x true) := by unfold Hid; rw [hL]; rfl
    clear hU2 hj hK hL hp ls
    go_wp2_with fail
    refine (HP.out _ (HU2.out.alloc _)).mono ?_
    rintro e w3 ⟨rfl, h3⟩
    obtain ⟨fp3, hT, hF⟩ := (HQ.out.upd (HU2.out.alloc _)).stale HJ.out h3
    have hz2 : w.heap.size < w2.heap.size := HZ.out.lt
    have hzf : w.heap.size ∉ fpN (headsQ qb sr t) M.length F := fun e => by have := HLT.out _ e; omega
    have hZ3 := (HZ.out.upd ((Upd.refl [] w2).alloc (.cells #[.int .u64 x.1, .int .i64 x.2] 54)) (by simp)).upd hF.2 hzf
    have HZ3 := Lib.hid hZ3
    have HZF := Lib.hid (hF.far (by simp; omega) hzf)
    have HT := Lib.hid hT
    have HF := Lib.hid ((Fr.of (HU2.out.alloc (.cells #[.int .u64 x.1, .int .i64 x.2] 54))).trans hF)
    clear h3 hZ3 z0 z1 zc0 zc1 zl p0' p1' lq' ls' pi hT hF hz2 hzf
    unfold itV
    have HX := Lib.hid (Blk.new w3 54 [.int .u64 x.1, .int .i64 x.2])
    have HZ4 := Lib.hid (HZ3.out.upd ((Upd.refl [] w3).alloc (.cells #[.int .u64 x.1, .int .i64 x.2] 54)) (by simp))
    go_wp2_with fail
    refine (qplay (HT.out.upd ((Upd.refl [] w3).alloc (.cells #[.int .u64 x.1, .int .i64 x.2] 54))) (by rw [List.length_set]; exact H16.out)).mono ?_
    rintro e w4 ⟨rfl, fp4, h4, hF4⟩
    have hxn : w3.heap.size ∉ fp3 := fun e => by have := HT.out.lt _ e; omega
    have hx4 := HX.out.upd hF4.2 hxn
    have hz4 := HZ4.out.upd hF4.2 HZF.out
    have x0 := hx4.cell (j := 0) rfl
    have x1 := hx4.cell (j := 1) rfl
    have z0 := hz4.free 0
    have z1 := hz4.free 1
    have zc0 := hz4.cell (j := 0) rfl
    have zc1 := hz4.cell (j := 1) rfl
    have zl := hz4.lt
    have hzx : w.heap.size < w3.heap.size := HZ3.out.lt
    have HZX := Lib.hid hzx
    have H4 := Lib.hid h4
    have HZ5 := Lib.hid (hF4.far (by simp; omega) HZF.out)
    have HF4 := Lib.hid ((HF.out.trans (Fr.of ((Upd.refl [] w3).alloc _))).trans hF4)
    clear h4 hF4 hx4 hz4 hxn hzx
    go_wp2
    have hU5 := ((Upd.refl [w.heap.size] w4).setCell (p := ⟨w.heap.size, 0, none⟩) (.inl (by simp)) (.int .u64 x.1)).setCell (p := ⟨w.heap.size, 1, none⟩) (.inl (by simp)) (.int .i64 x.2)
    have h5 := H4.out.updS hU5 (fun c hc e => by simp at e; subst e; exact HZ5.out hc) (fun c hc => by simp at hc; subst hc; exact HLW.out)
    rw [← HM.out] at h5
    refine bodyPost_ret (v := itV x true) (by simp [results, Tryz.results52, go_sem, zc0, zc1, zl, itV]) rfl ⟨by rw [HFV.out], fp4, h5.ok HOK.out, HF4.out.1, HF4.out.2.then hU5 (fun _ _ h => h) (fun c hc e => by simp at e; omega)⟩

end
end Go.Proofs.YtolohheflbmfaaaGreatDoor

/-! Qe -/
namespace Go.Proofs.YtolohheflbmfaaaGreatDoor
open Go.RowKit

theorem infoU64 : (Tryz.prog.info? 22).map (fun i => (i.zero, i.size, i.bytes)) = some (some (.int .u64 0), 1, 8) := by kernel_rfl
theorem u64_news (w : World) (v : Value) : ∀ (j : Nat) (u : Value), [v][j]? = some u → (w.alloc (.cells #[v] 22)).cell? ((⟨w.heap.size, 0, none⟩ : Addr).add j) = some u :=
  World.news_of_block (cs := #[v]) (t := 22) (fr := (0, 0)) (heap_alloc_new w _)

/-! ### Len -/
def lenTo (M : List Sh) (j : Nat) : Nat := (flatM (M.take j)).length
theorem lenTo_succ {M : List Sh} {j : Nat} (h : j < M.length) : lenTo M (j + 1) = lenTo M j + (shAt M j).2.length := by
  unfold lenTo flatM
  rw [List.take_add_one, List.getElem?_eq_getElem h, List.flatMap_append, List.length_append, shAt_get h]
  simp
theorem lenTo_all (M : List Sh) : lenTo M M.length = (flatM M).length := by unfold lenTo; rw [List.take_length]
theorem lenTo_le {M : List Sh} {L : List It} (h : QOk M L) (j : Nat) : lenTo M j ≤ L.length := by
  rw [← h.len]
  unfold lenTo flatM
  conv => rhs; rw [← List.take_append_drop j M, List.flatMap_append, List.length_append]
  omega
def LenAt (w : World) (M : List Sh) (n : Nat) (nv iv : Value) (wr : World) : Prop := ∃ j : Nat, iv = .int .i64 j ∧ nv = .int .i64 (lenTo M j) ∧ j ≤ n ∧ Upd [] w wr
section
variable {W w : World} {qb wd : Nat} {M : List Sh} {L : List It} {fp : List Nat}
/-! ### Bases -/
def basesV (M : List Sh) : List Value := M.map fun s => .int .u64 s.1
theorem basesV_snoc {M : List Sh} {j : Nat} (h : j < M.length) : basesV (M.take j) ++ [.int .u64 ((shAt M j).1 : Int)] = basesV (M.take (j + 1)) := by
  unfold basesV
  rw [List.take_add_one, List.getElem?_eq_getElem h, List.map_append, shAt_get h]; rfl

/-- Bases in an array of its own. -/
def ToldB (w : World) (M : List Sh) (e : Ending) (w' : World) : Prop :=
  ∃ ao cap, e = .returned (.slice ao M.length cap) ∧ RowO w' 22 1 ao M.length cap (basesV M) ∧ (∀ c ∈ blkO ao, w.heap.size ≤ c) ∧ Upd [] w w'
def BasesAt (w : World) (M : List Sh) (n : Nat) (lv iv : Value) (wr : World) : Prop :=
  ∃ (j : Nat) (ao : Option Addr) (cap : Nat), iv = .int .i64 j ∧ lv = .slice ao j cap ∧ j ≤ n ∧ RowO wr 22 1 ao j cap (basesV (M.take j)) ∧ (∀ c ∈ blkO ao, w.heap.size ≤ c) ∧ Upd [] w wr
theorem bases_round {w wr w2 : World} {M : List Sh} {n j : Nat} {ao ao1 : Option Addr} {cap1 : Nat} {o : Obj} (hj : j < M.length) (hn : M.length = n) (hf : ∀ c ∈ blkO ao, w.heap.size ≤ c) (hU : Upd [] w wr) (hA : Apped (wr.alloc o) 22 1 ao (j + 1) (basesV (M.take j) ++ [.int .u64 ((shAt M j).1 : Int)]) ao1 cap1 w2) :
    BasesAt w M n (.slice ao1 (j + 1) cap1) (.int .i64 ((j : Int) + 1)) w2 := by
  have hs := hU.size
  refine ⟨j + 1, ao1, cap1, by congr 1, rfl, by omega, by rw [← basesV_snoc hj]; exact hA.row, fun c hc => ?_, (hU.alloc o).then hA.upd (fun _ _ h => h) (fun c hc h => by have := hf c h; omega)⟩
  rcases hA.at_ c hc with h | h
  · exact hf c h
  · simp at h; omega

end
end Go.Proofs.YtolohheflbmfaaaGreatDoor

/-! Qf -/
namespace Go.Proofs.YtolohheflbmfaaaGreatDoor
open Go.RowKit

theorem underlyingShards : Tryz.prog.underlying 122 = some (.slice 125) := by kernel_rfl
theorem infoShardP : (Tryz.prog.info? 125).map (fun i => (i.zero, i.size, i.bytes)) = some (some (.pointer none), 1, 8) := by kernel_rfl
theorem p_news (w : World) (v : Value) (ty : TypeId) : Src (w.alloc (.cells #[v] ty)) 1 (some ⟨w.heap.size, 0, none⟩) 1 [v] ↔ v.oneCell' = true := by
  constructor
  · intro h; exact h.2.1 v (by simp)
  · intro h; exact ⟨rfl, by simpa using h, .inr ⟨_, rfl, World.news_of_block (cs := #[v]) (t := ty) (fr := (0, 0)) (heap_alloc_new w _)⟩⟩
def zeroM (m : Nat) : List Sh := List.replicate m (0, [])
theorem zeroM_at {m i : Nat} : shAt (zeroM m) i = (0, []) := by
  unfold shAt zeroM; rw [List.getD_eq_getElem?_getD, List.getElem?_replicate]; split <;> rfl
theorem leavesM_zero (m : Nat) : leavesM (zeroM m) = List.replicate m zLeaf := by unfold leavesM zeroM; rw [List.map_replicate]; rfl


/-- While a queue is made: i shards are there. -/
def QNewAt (W w0 : World) (qb wd m : Nat) (t : Tr) (iv : Value) (wr : World) : Prop :=
  ∃ (i : Nat) (ao : Option Addr) (cap : Nat) (sb : Nat → Nat) (F : Nat → List Nat), iv = .int .i64 i ∧ i ≤ m ∧ Blk wr qb 124 [.slice ao i cap, .pointer (some ⟨t.bt, 0, none⟩)] ∧
    RowO wr 125 1 ao i cap (ptrs sb i) ∧ (∀ j, j < i → SL W (sb j) 0 wd [] (F j) wr) ∧ TourAt wr t ∧
    (∀ a j, a < i → j < i → a ≠ j → ∀ c ∈ F a, c ∉ F j) ∧ (∀ j, j < i → ∀ c ∈ F j, c ∉ [qb, t.bt, t.bl, t.bn] ∧ c ∉ blkO ao) ∧ (∀ c ∈ blkO ao, c ∉ [qb, t.bt, t.bl, t.bn] ∧ w0.heap.size ≤ c) ∧
    (∀ c ∈ [qb, t.bt, t.bl, t.bn], w0.heap.size ≤ c) ∧ qb ∉ [t.bt, t.bl, t.bn] ∧ Upd [] w0 wr ∧ ∀ j, j < i → ∀ c ∈ F j, w0.heap.size ≤ c
section
variable {W w0 wr w2 w3 : World} {qb wd m : Nat} {t : Tr} {i cap : Nat} {ao : Option Addr} {sb : Nat → Nat} {F : Nat → List Nat}
/-- One more shard, appended and stored. -/
theorem qnew_round (hsz : W.heap.size ≤ w0.heap.size) (hi : i < m) (hB : Blk wr qb 124 [.slice ao i cap, .pointer (some ⟨t.bt, 0, none⟩)]) (hR : RowO wr 125 1 ao i cap (ptrs sb i)) (hS : ∀ j, j < i → SL W (sb j) 0 wd [] (F j) wr) (hT : TourAt wr t)
    (h1 : ∀ a j, a < i → j < i → a ≠ j → ∀ c ∈ F a, c ∉ F j) (h2 : ∀ j, j < i → ∀ c ∈ F j, c ∉ [qb, t.bt, t.bl, t.bn] ∧ c ∉ blkO ao) (h3 : ∀ c ∈ blkO ao, c ∉ [qb, t.bt, t.bl, t.bn] ∧ w0.heap.size ≤ c) (h4 : ∀ c ∈ [qb, t.bt, t.bl, t.bn], w0.heap.size ≤ c) (h5 : qb ∉ [t.bt, t.bl, t.bn]) (hU : Upd [] w0 wr) (h6 : ∀ j, j < i → ∀ c ∈ F j, w0.heap.size ≤ c)
    {s : Nat} {G : List Nat} (hU2 : Upd [] wr w2) (hN : SL W s 0 wd [] G w2) (hG : ∀ c ∈ G, wr.heap.size ≤ c) {o : Obj} {ao' : Option Addr} {cap' : Nat} (hA : Apped (w2.alloc o) 125 1 ao (i + 1) (ptrs sb i ++ [.pointer (some ⟨s, 0, none⟩)]) ao' cap' w3) :
    QNewAt W w0 qb wd m t (.int .i64 ((i : Int) + 1)) (w3.setCell ⟨qb, 0, none⟩ (.slice ao' (i + 1) cap')) := by
  have z2 := hU2.size
  have zr := hU.size
  have hA2 : Upd (blkO ao) w2 w3 := ((Upd.refl _ w2).alloc o).trans hA.upd
  have hA3 : Upd (qb :: blkO ao) w2 (w3.setCell ⟨qb, 0, none⟩ (.slice ao' (i + 1) cap')) := (hA2.mono (fun c _ hc => by simp [hc])).setCell (.inl (by simp)) _
  have hall : Upd (qb :: blkO ao) wr (w3.setCell ⟨qb, 0, none⟩ (.slice ao' (i + 1) cap')) := hU2.then hA3 (fun c _ hc => by cases hc) (fun c _ hc => hc)
  have hqn : qb ∉ blkO ao := fun e => (h3 qb e).1 (by simp)
  have hlw : ∀ c ∈ blkO ao, c < wr.heap.size := hR.lt
  have hlq := hB.lt
  have hlt : ∀ c ∈ [qb, t.bt, t.bl, t.bn], c < wr.heap.size := by
    intro c hc
    simp only [List.mem_cons, List.not_mem_nil, or_false] at hc
    rcases hc with rfl | rfl | rfl | rfl
    · exact hlq
    · exact hT.top.lt
    · exact hT.leaves.lt
    · exact hT.nodes.lt
  have hao : ∀ c ∈ blkO ao', c ∈ blkO ao ∨ wr.heap.size ≤ c := fun c hc => by
    rcases hA.at_ c hc with h | h
    · exact .inl h
    · right; simp at h; omega
  have hnS : ∀ c ∈ qb :: blkO ao, W.heap.size ≤ c := fun c hc => by
    rcases List.mem_cons.1 hc with rfl | hc
    · have := h4 c (by simp); omega
    · have := (h3 c hc).2; omega
  have hFlt : ∀ j, j < i → ∀ c ∈ F j, c < wr.heap.size := fun j hj => (hS j hj).lt
  have hother : ∀ j, j < i → j ≠ i := fun j hj => by omega
  refine ⟨i + 1, ao', cap', updF sb i s, updF F i G, by congr 1, by omega, ?_, ?_, fun j hj => ?_, ?_, fun a j ha hj haj c hc => ?_, fun j hj c hc => ?_, fun c hc => ?_, h4, h5, hU.then hall (fun c _ hc => by cases hc) (fun c hc hm => by
    rcases List.mem_cons.1 hm with rfl | hm
    · have := h4 c (by simp); omega
    · have := (h3 c hm).2; omega), fun j hj c hc => ?_⟩
  · have := (hB.upd hU2 (by simp)).upd hA2 hqn
    exact this.set 0 (.slice ao' (i + 1) cap')
  · have hr := hA.row
    rw [show ptrs sb i ++ [.pointer (some ⟨s, 0, none⟩)] = ptrs (updF sb i s) (i + 1) by
      rw [← ptrs_snoc, updF_same]; congr 1; exact ptrs_congr (fun j hj => (updF_other sb s (by omega)).symm)] at hr
    refine hr.upd ((Upd.refl [qb] w3).setCell (.inl (by simp)) _) (fun c hc e => ?_)
    simp at e; subst e
    rcases hao _ hc with h | h
    · exact hqn h
    · omega
  · by_cases e : j = i
    · subst e
      rw [updF_same, updF_same]
      refine hN.updS hA3 (fun c hc e => ?_) hnS
      have := hG c hc
      rcases List.mem_cons.1 e with rfl | e
      · omega
      · have := hlw c e; omega
    · rw [updF_other _ _ e, updF_other _ _ e]
      have hji : j < i := by omega
      refine (hS j hji).updS hall (fun c hc e => ?_) hnS
      rcases List.mem_cons.1 e with rfl | e
      · exact (h2 j hji c hc).1 (by simp)
      · exact (h2 j hji c hc).2 e
  · refine hT.upd hall (fun e => ?_) (fun e => ?_) (fun e => ?_) <;>
    · rcases List.mem_cons.1 e with e | e
      · exact h5 (by simp [← e])
      · exact (h3 _ e).1 (by simp)
  · by_cases ea : a = i
    · subst ea
      rw [updF_same] at hc
      rw [updF_other _ _ (Ne.symm haj)]
      intro e
      have := hFlt j (by omega) c e
      have := hG c hc
      omega
    · rw [updF_other _ _ ea] at hc
      by_cases ej : j = i
      · subst ej
        rw [updF_same]
        intro e
        have := hFlt a (by omega) c hc
        have := hG c e
        omega
      · rw [updF_other _ _ ej]; exact h1 a j (by omega) (by omega) haj c hc
  · by_cases ej : j = i
    · subst ej
      rw [updF_same] at hc
      have hg := hG c hc
      have hg2 := hN.lt c hc
      refine ⟨fun e => by have := hlt c e; omega, fun e => ?_⟩
      rcases hA.at_ c e with h | h
      · have := hlw c h; omega
      · simp at h; omega
    · rw [updF_other _ _ ej] at hc
      refine ⟨(h2 j (by omega) c hc).1, fun e => ?_⟩
      rcases hao c e with h | h
      · exact (h2 j (by omega) c hc).2 h
      · have := hFlt j (by omega) c hc; omega
  · rcases hao c hc with h | h
    · exact h3 c h
    · exact ⟨fun e => by have := hlt c e; omega, by omega⟩
  · by_cases ej : j = i
    · subst ej
      rw [updF_same] at hc
      have := hG c hc; omega
    · rw [updF_other _ _ ej] at hc
      exact h6 j (by omega) c hc

/-- All shards are there. -/
theorem qnew_done (hW : Upd [] W w0) (hm : 1 ≤ m) (h16 : m ≤ 16) (ht : t = newTr t.bt t.bl t.bn t.cap m) (hrel : QNewAt W w0 qb wd m t (.int .i64 m) wr) : ∃ fp, QG W qb wd (zeroM m) [] fp wr ∧ Upd [] w0 wr ∧ ∀ c ∈ fp, w0.heap.size ≤ c := by
  obtain ⟨i, ao, cap, sb, F, hi, -, hB, hR, hS, hT, h1, h2, h3, h4, h5, hU, h6⟩ := hrel
  have e : i = m := by simp only [Value.int.injEq, true_and] at hi; omega
  subst e
  obtain ⟨sr, rfl, hr⟩ := hR.row (by omega)
  have hlen : (zeroM i).length = i := by unfold zeroM; simp
  have htl : t.L = List.replicate i zLeaf := by rw [ht]; rfl
  have htN : t.N = List.replicate (2 * sizeOf2 i) (-1) := by rw [ht]; rfl
  have hts : t.size = sizeOf2 i := by rw [ht]; rfl
  have hsr := h3 sr (by simp [blkO])
  have hwz := hW.size
  refine ⟨_, ⟨sr, cap, t, sb, F, { top := by rw [hlen]; exact hB, row := by rw [hlen]; exact hr, sh := fun j hj => by rw [hlen] at hj; rw [zeroM_at]; exact hS j hj, tour := hT, good := ?_, pow := by rw [hts]; exact pow_sizeOf2 i, tl := by rw [htl, leavesM_zero], tlen := by rw [leavesM_len], dis := fun a j ha hj => by rw [hlen] at ha hj; exact h1 a j ha hj, own := fun j hj c hc e => ?_, q1 := fun e => hsr.1 (by simp [e]), q2 := h5, q3 := fun e => hsr.1 (by simp only [List.mem_cons] at e ⊢; exact .inr e), newH := fun c hc => ?_ }, ?_, rfl⟩, hU, fun c hc => ?_⟩
  · rw [htl, htN, hts]; exact new_good i hm h16
  · rw [hlen] at hj
    simp only [headsQ, List.mem_cons, List.not_mem_nil, or_false] at e
    have h2c := h2 j hj c hc
    simp only [List.mem_cons, List.not_mem_nil, or_false, blkO] at h2c
    rcases e with e | e | e | e | e
    · exact h2c.1 (.inl e)
    · exact h2c.2 e
    · exact h2c.1 (.inr (.inl e))
    · exact h2c.1 (.inr (.inr (.inl e)))
    · exact h2c.1 (.inr (.inr (.inr e)))
  · simp only [headsQ, List.mem_cons, List.not_mem_nil, or_false] at hc
    rcases hc with rfl | rfl | rfl | rfl | rfl
    · have := h4 c (by simp); omega
    · have := hsr.2; omega
    · have := h4 t.bt (by simp); omega
    · have := h4 t.bl (by simp); omega
    · have := h4 t.bn (by simp); omega
  · exact QOk.nil (by rw [hlen]; exact hm) (by rw [hlen]; exact h16) (fun j hj => by rw [zeroM_at])
  · rcases mem_fpN.1 hc with hc | ⟨j, hj, hc⟩
    · simp only [headsQ, List.mem_cons, List.not_mem_nil, or_false] at hc
      rcases hc with rfl | rfl | rfl | rfl | rfl
      · exact h4 c (by simp)
      · exact hsr.2
      · exact h4 t.bt (by simp)
      · exact h4 t.bl (by simp)
      · exact h4 t.bn (by simp)
    · rw [hlen] at hj; exact h6 j hj c hc
end
def NewQ (W w : World) (sh wd : Int) (e : Ending) (w' : World) : Prop := ∃ qb fp, e = .returned (.pointer (some ⟨qb, 0, none⟩)) ∧ QG W qb (heldN wd) (zeroM (leavesOf sh)) [] fp w' ∧ Upd [] w w' ∧ ∀ c ∈ fp, w.heap.size ≤ c

set_option maxRecDepth 100000 in
set_option maxHeartbeats 8000000 in
theorem QG.new {W w : World} (hU : Upd [] W w) (hT : TabAt 0 Lib.deBruijn64tab W) (shards wd : Int) : Calls Tryz.prog 50 #[.int .i64 shards, .int .i64 wd] w (NewQ W w shards wd) := by
  obtain ⟨i0, hi0, hz0, hz1, hz2⟩ := info_parts infoShardP
  have hm := leavesOf_bd shards
  have hc := leavesOf_cast shards
  unfold NewQ
  obtain ⟨m, hmm⟩ : ∃ m, leavesOf shards = m := ⟨_, rfl⟩
  rw [hmm] at hm hc ⊢
  obtain ⟨hm1, hm2⟩ := hm
  have HC : Hid (leavesOf (m : Int) = m) := by unfold Hid leavesOf; omega
  have HN : Hid (∀ w', Upd [] w w' → Calls Tryz.prog 64 #[.int .i64 wd] w' (NewS W w' wd)) := fun w' hu => SL.new (hU.trans hu) hT wd
  have HU := Lib.hid hU
  have HCC := Lib.hid hc
  clear hU hT hmm hc
  go_enter Tryz.func50, Tryz.ntmps50
  go_wp2_with fail
  rw [← HCC.out]
  refine (tnew_any (m : Int) w).mono ?_
  rintro e w1 ⟨bt, bl, bn, cp, rfl, hT1, hU1, h1, h2, h3⟩
  rw [HC.out] at hT1
  have hB := Blk.new w1 124 [.slice none 0 0, .pointer (some ⟨bt, 0, none⟩)]
  have hs1 := hU1.size
  have lt1 := hT1.top.lt
  have lt2 := hT1.leaves.lt
  have lt3 := hT1.nodes.lt
  have HT0 : Hid (QNewAt W w w1.heap.size (heldN wd) m (newTr bt bl bn cp m) (.int .i64 0) (w1.alloc (.cells #[.slice none 0 0, .pointer (some ⟨bt, 0, none⟩)] 124))) := by
    refine ⟨0, none, 0, fun _ => 0, fun _ => [], rfl, by omega, hB, RowO.nil _ _ _, fun j hj => by omega, hT1.upd ((Upd.refl [] w1).alloc _) (by simp) (by simp) (by simp), fun a j ha => by omega, fun j hj => by omega, fun c hc => (by cases hc), fun c hc => ?_, ?_, hU1.alloc _, fun j hj => by omega⟩
    · simp only [newTr, List.mem_cons, List.not_mem_nil, or_false] at hc
      omega
    · simp only [newTr, List.mem_cons, List.not_mem_nil, or_false] at lt1 lt2 lt3 ⊢
      omega
  clear hB hs1 lt1 lt2 lt3 hT1 hU1 h1 h2 h3
  go_wp2_with fail
  go_loopw [15] (fun iv wr => QNewAt W w w1.heap.size (heldN wd) m (newTr bt bl bn cp m) iv wr) (fun iv _ => m - (intOf iv).toNat)
  case atStart => exact HT0.out
  case round =>
    clear HT0
    obtain ⟨i, ao, cap, sb, F, rfl, hi, hB, hR, hS, hT, h1, h2, h3, h4, h5, hU, h6⟩ := hrel
    have b0 := hB.cell (j := 0) rfl
    have b1 := hB.cell (j := 1) rfl
    have z0 := hB.free 0
    have lb := hB.lt
    have HB := Lib.hid hB
    have HR := Lib.hid hR
    have HS := Lib.hid hS
    have HT := Lib.hid hT
    have H1 := Lib.hid h1
    have H2 := Lib.hid h2
    have H3 := Lib.hid h3
    have H4 := Lib.hid h4
    have H5 := Lib.hid h5
    have HUr := Lib.hid hU
    have H6 := Lib.hid h6
    have hqn : Hid (w1.heap.size ∉ blkO ao) := fun e => (h3 _ e).1 (by simp)
    clear hB hR hS hT h1 h2 h3 h4 h5 hU h6
    by_cases hlt : i < m
    · have t1 : decide (i < m) = true := by simp [hlt]
      have H63 : Hid (i + 1 ≤ maxLen) := by unfold Hid maxLen; omega
      have HBY : Hid ((i + 1) * 8 ≤ 140737488355328) := by unfold Hid; omega
      go_wp2_with fail
      go_region_law (first | (go_simp; go_at_call 64; refine (HN.out _ (HUr.out.trans (Upd.refl [] wr).drew)).mono ?_; rintro e w2 ⟨s, G, rfl, hN2, hU2, hG⟩; have HU2 : Hid (Upd [] wr w2) := (Upd.refl [] wr).drew.trans hU2; have c0 := (HU2.out.cell lb (by simp) 0).trans b0; have c1 := (HU2.out.cell lb (by simp) 1).trans b1; have lb2 := Nat.lt_of_lt_of_le lb HU2.out.size; have HN2 := Lib.hid hN2; have HG2 := Lib.hid hG; have HR3 := Lib.hid ((HR.out.upd HU2.out (by simp)).upd ((Upd.refl [] w2).alloc (.cells #[.pointer (some ⟨s, 0, none⟩)] 125)) (by simp)); clear hN2 hU2 hG) | (refine step_app2 _ rfl _ _ _ rfl 125 i0 _ 1 8 underlyingShards hi0 hz0 hz1 hz2 rfl Nat.one_pos ao i cap (ptrs sb i) rfl HR3.out (some ⟨w2.heap.size, 0, none⟩) 1 1 [.pointer (some ⟨s, 0, none⟩)] rfl ((p_news w2 _ 125).2 rfl) H63.out HBY.out ?_; intro ao3 cp3 w4 hA; have hU4 : Upd (blkO ao) wr w4 := (HU2.out.alloc _).then hA.upd (fun _ _ h => (by cases h)) (fun _ _ h => h); have zc := (hU4.cell lb hqn.out 0).trans b0; have zf := (hU4.frozen lb hqn.out 0).trans z0; have HA := Lib.hid hA; clear hA))
      all_goals
        go_wp2
        exact ⟨qnew_round (t := newTr bt bl bn cp m) HU.out.size hlt HB.out HR.out HS.out HT.out H1.out H2.out H3.out H4.out H5.out HUr.out H6.out HU2.out HN2.out (fun c hc => by have := HG2.out c hc; exact this) HA.out, by first | (simp [intOf]; done) | (simp [intOf]; omega)⟩
    · have t1 : decide (i < m) = false := by simp; omega
      have e : i = m := by omega
      have HD : Hid (∃ fp, QG W w1.heap.size (heldN wd) (zeroM m) [] fp wr ∧ Upd [] w wr ∧ ∀ c ∈ fp, w.heap.size ≤ c) := qnew_done (t := newTr bt bl bn cp m) HU.out hm1 hm2 rfl ⟨i, ao, cap, sb, F, by rw [e], hi, HB.out, HR.out, HS.out, HT.out, H1.out, H2.out, H3.out, H4.out, H5.out, HUr.out, H6.out⟩
      clear HB HR HS HT H1 H2 H3 H4 H5 HUr H6 hqn e
      go_wp2
      go_ret
      obtain ⟨fp, k1, k2, k3⟩ := HD.out
      exact ⟨_, fp, rfl, k1, k2, k3⟩
end Go.Proofs.YtolohheflbmfaaaGreatDoor
