/-
  A queue, in plain words: its shards, all its items in order, who is first. No program, no condition.
-/
import Derived.Test.YtkepeolbpgnlbaaGreatDoorSa
import Derived.Test.YtkepeolbpgnlbaaGreatDoorPT
set_option linter.unusedVariables false
set_option linter.unusedSimpArgs false
namespace Go.Proofs.YtkepeolbpgnlbaaGreatDoor

/-- A shard: its base, its items in order. -/
abbrev Sh := Nat × List It
def shAt (M : List Sh) (i : Nat) : Sh := M.getD i (0, [])

/-- Where an ID goes. -/
def rt (n : Nat) (id : Int) : Nat := (id % (n : Int)).toNat
def leafOf : List It → Leaf
  | [] => zLeaf
  | x :: _ => (x, true)
def flatM (M : List Sh) : List It := M.flatMap (·.2)

theorem shAt_get {M : List Sh} {i : Nat} (h : i < M.length) : shAt M i = M[i] := by unfold shAt; rw [List.getD_eq_getElem?_getD, List.getElem?_eq_getElem h]; rfl
theorem shAt_set {M : List Sh} {i : Nat} (h : i < M.length) (s : Sh) (j : Nat) : shAt (M.set i s) j = if j = i then s else shAt M j := by
  unfold shAt
  by_cases e : j = i
  · subst e; rw [if_pos rfl, getD_set_same _ _ _ _ h]
  · rw [if_neg e, getD_set_other _ _ _ _ _ (Ne.symm e)]
theorem mem_flatM {M : List Sh} {x : It} : x ∈ flatM M ↔ ∃ i, i < M.length ∧ x ∈ (shAt M i).2 := by
  unfold flatM
  rw [List.mem_flatMap]
  constructor
  · rintro ⟨s, hs, hx⟩
    obtain ⟨i, hi, rfl⟩ := List.getElem_of_mem hs
    exact ⟨i, hi, by rw [shAt_get hi]; exact hx⟩
  · rintro ⟨i, hi, hx⟩
    rw [shAt_get hi] at hx
    exact ⟨M[i], List.getElem_mem _, hx⟩
theorem rt_lt {n : Nat} (h : 1 ≤ n) (id : Int) : rt n id < n := by
  unfold rt
  have h1 := Int.emod_nonneg id (b := (n : Int)) (by omega)
  have h2 := Int.emod_lt_of_pos id (b := (n : Int)) (by omega)
  omega


/-- A queue that is right: M its shards, L all its items in order. -/
structure QOk (M : List Sh) (L : List It) : Prop where
  one : 1 ≤ M.length
  small : M.length ≤ 16
  srts : ∀ i, i < M.length → Srt (shAt M i).2
  nds : ∀ i, i < M.length → NdI (shAt M i).2
  route : ∀ i, i < M.length → ∀ x ∈ (shAt M i).2, 0 ≤ x.2 ∧ rt M.length x.2 = i
  srt : Srt L
  perm : L.Perm (flatM M)

section
variable {M : List Sh} {L : List It}
theorem QOk.mem (h : QOk M L) {x : It} : x ∈ L ↔ ∃ i, i < M.length ∧ x ∈ (shAt M i).2 := by rw [h.perm.mem_iff, mem_flatM]
theorem QOk.flat_nd (h : QOk M L) : NdI (flatM M) := by
  unfold NdI flatM
  rw [List.map_flatMap]
  unfold List.Nodup
  rw [List.pairwise_flatMap]
  refine ⟨fun s hs => ?_, ?_⟩
  · obtain ⟨i, hi, rfl⟩ := List.getElem_of_mem hs
    have := h.nds i hi
    rw [shAt_get hi] at this
    exact this
  · rw [List.pairwise_iff_getElem]
    intro i j hi hj hij x hx y hy e
    obtain ⟨a, ha, rfl⟩ := List.mem_map.1 hx
    obtain ⟨b, hb, rfl⟩ := List.mem_map.1 hy
    have h1 := (h.route i hi a (by rw [shAt_get hi]; exact ha)).2
    have h2 := (h.route j hj b (by rw [shAt_get hj]; exact hb)).2
    rw [e] at h1
    omega
theorem QOk.nd (h : QOk M L) : NdI L := h.flat_nd.perm h.perm.symm
theorem QOk.neg (h : QOk M L) {id : Int} (hid : id < 0) : hasI L id = false := by
  rw [hasI_no]
  intro x hx e
  obtain ⟨i, hi, hx⟩ := h.mem.1 hx
  have := (h.route i hi x hx).1
  omega
theorem QOk.has (h : QOk M L) (id : Int) (hid : 0 ≤ id) : hasI L id = hasI (shAt M (rt M.length id)).2 id := by
  have hr := rt_lt h.one id
  rw [Bool.eq_iff_iff, hasI_iff, hasI_iff]
  constructor
  · rintro ⟨x, hx, rfl⟩
    obtain ⟨i, hi, hx⟩ := h.mem.1 hx
    have := (h.route i hi x hx).2
    rw [this]
    exact ⟨x, hx, rfl⟩
  · rintro ⟨x, hx, rfl⟩
    exact ⟨x, h.mem.2 ⟨_, hr, hx⟩, rfl⟩

/-- One shard, and the rest. -/
theorem flatM_split (M : List Sh) {i : Nat} (hi : i < M.length) : ∃ R, (flatM M).Perm ((shAt M i).2 ++ R) ∧ ∀ s : Sh, (flatM (M.set i s)).Perm (s.2 ++ R) := by
  refine ⟨flatM (M.take i) ++ flatM (M.drop (i + 1)), ?_, fun s => ?_⟩
  · rw [shAt_get hi]
    have e : M = M.take i ++ M[i] :: M.drop (i + 1) := by rw [← List.drop_eq_getElem_cons hi, List.take_append_drop]
    have : flatM M = flatM (M.take i) ++ (M[i].2 ++ flatM (M.drop (i + 1))) := by
      conv => lhs; rw [e]
      unfold flatM; rw [List.flatMap_append, List.flatMap_cons]
    rw [this, ← List.append_assoc, ← List.append_assoc]
    exact List.perm_append_comm.append_right _
  · have e : M.set i s = M.take i ++ s :: M.drop (i + 1) := by rw [List.set_eq_take_append_cons_drop]; simp [hi]
    have : flatM (M.set i s) = flatM (M.take i) ++ (s.2 ++ flatM (M.drop (i + 1))) := by
      rw [e]; unfold flatM; rw [List.flatMap_append, List.flatMap_cons]
    rw [this, ← List.append_assoc, ← List.append_assoc]
    exact List.perm_append_comm.append_right _

/-- One shard is changed. -/
theorem QOk.put (h : QOk M L) {i : Nat} (hi : i < M.length) (b : Nat) {K L' : List It} (h1 : Srt K) (h2 : NdI K) (h3 : ∀ x ∈ K, 0 ≤ x.2 ∧ rt M.length x.2 = i) (h4 : Srt L') (h5 : ∀ R, L.Perm ((shAt M i).2 ++ R) → L'.Perm (K ++ R)) : QOk (M.set i (b, K)) L' := by
  obtain ⟨R, hR, hS⟩ := flatM_split M hi
  refine ⟨by simpa using h.one, by simpa using h.small, fun j hj => ?_, fun j hj => ?_, fun j hj x hx => ?_, h4, (h5 R (h.perm.trans hR)).trans (hS (b, K)).symm⟩
  · rw [List.length_set] at hj
    rw [shAt_set hi]; split
    · exact h1
    · exact h.srts j hj
  · rw [List.length_set] at hj
    rw [shAt_set hi]; split
    · exact h2
    · exact h.nds j hj
  · rw [List.length_set] at hj ⊢
    rw [shAt_set hi] at hx
    split at hx
    · rename_i e; subst e; exact h3 x hx
    · exact h.route j hj x hx
theorem QOk.rebase (h : QOk M L) {i : Nat} (hi : i < M.length) (b : Nat) : QOk (M.set i (b, (shAt M i).2)) L :=
  h.put hi b (h.srts i hi) (h.nds i hi) (h.route i hi) h.srt (fun _ k => k)
theorem QOk.push (h : QOk M L) {x : It} (hid : 0 ≤ x.2) (b : Nat) (hx : hasI L x.2 = false) : QOk (M.set (rt M.length x.2) (b, insI x (shAt M (rt M.length x.2)).2)) (insI x L) := by
  have hi := rt_lt h.one x.2
  have hxs : hasI (shAt M (rt M.length x.2)).2 x.2 = false := by rw [← h.has x.2 hid]; exact hx
  refine h.put hi b (insI_srt (h.srts _ hi) ((hasI_no _ _).1 hxs)) (insI_nd (h.nds _ hi) hxs) (fun y hy => ?_) (insI_srt h.srt ((hasI_no _ _).1 hx)) (fun R k => ?_)
  · rcases List.mem_cons.1 ((insI_perm x _).mem_iff.1 hy) with rfl | hy
    · exact ⟨hid, rfl⟩
    · exact h.route _ hi y hy
  · exact (insI_perm x L).trans (((List.Perm.cons x k)).trans ((insI_perm x _).symm.append_right R))
theorem QOk.drop (h : QOk M L) (id : Int) (hid : 0 ≤ id) (b : Nat) : QOk (M.set (rt M.length id) (b, dropI (shAt M (rt M.length id)).2 id)) (dropI L id) := by
  have hi := rt_lt h.one id
  refine h.put hi b (dropI_srt (h.srts _ hi) id) (dropI_nd (h.nds _ hi) id) (fun y hy => h.route _ hi y (mem_dropI hy)) (dropI_srt h.srt id) (fun R k => ?_)
  have := dropI_perm k id
  rw [dropI_app] at this
  have e : dropI R id = R := by
    apply dropI_none
    rw [hasI_no]
    intro y hy e
    -- y lies in another shard
    have hnd : NdI ((shAt M (rt M.length id)).2 ++ R) := h.nd.perm k
    have hyL : y ∈ L := k.mem_iff.2 (by simp [hy])
    obtain ⟨j, hj, hyj⟩ := h.mem.1 hyL
    have hr := (h.route j hj y hyj).2
    rw [e] at hr
    subst hr
    unfold NdI at hnd
    rw [List.map_append, List.nodup_append] at hnd
    exact hnd.2.2 y.2 (List.mem_map_of_mem hyj) y.2 (List.mem_map_of_mem hy) rfl
  rw [e] at this
  exact this

/-- The first item lies in shard i. -/
theorem QOk.pop (h : QOk M L) {i : Nat} (hi : i < M.length) {x : It} {r l : List It} (hx : (shAt M i).2 = x :: r) (hL : L = x :: l) (b : Nat) : QOk (M.set i (b, r)) l := by
  have hs := h.srts i hi
  have hn := h.nds i hi
  have hr := h.route i hi
  rw [hx] at hs hn hr
  have hs2 := h.srt
  rw [hL] at hs2
  unfold Srt at hs hs2
  unfold NdI at hn
  rw [List.map_cons, List.nodup_cons] at hn
  refine h.put hi b (List.Pairwise.of_cons hs) hn.2 (fun y hy => hr y (by simp [hy])) (List.Pairwise.of_cons hs2) (fun R k => ?_)
  rw [hL, hx] at k
  exact (List.perm_cons x).1 k
theorem QOk.nil {M : List Sh} (h1 : 1 ≤ M.length) (h2 : M.length ≤ 16) (h : ∀ i, i < M.length → (shAt M i).2 = []) : QOk M [] := by
  refine ⟨h1, h2, fun i hi => ?_, fun i hi => ?_, fun i hi x hx => ?_, List.Pairwise.nil, ?_⟩
  · rw [h i hi]; exact List.Pairwise.nil
  · rw [h i hi]; simp [NdI]
  · rw [h i hi] at hx; cases hx
  · have : flatM M = [] := by
      rw [List.eq_nil_iff_forall_not_mem]
      intro x hx
      obtain ⟨i, hi, hx⟩ := mem_flatM.1 hx
      rw [h i hi] at hx; cases hx
    rw [this]
theorem QOk.all_nil (h : QOk M L) (hn : ∀ i, i < M.length → (shAt M i).2 = []) : L = [] := by
  rw [List.eq_nil_iff_forall_not_mem]
  intro x hx
  obtain ⟨i, hi, hx⟩ := h.mem.1 hx
  rw [hn i hi] at hx; cases hx
theorem QOk.len (h : QOk M L) : (flatM M).length = L.length := h.perm.length_eq.symm
theorem QOk.len_sh (h : QOk M L) {i : Nat} (hi : i < M.length) : (shAt M i).2.length ≤ L.length := by
  obtain ⟨R, hR, _⟩ := flatM_split M hi
  have := (h.perm.trans hR).length_eq
  rw [List.length_append] at this
  omega

/-- The head of the one whose head is ahead of all other heads is the first of all. -/
theorem QOk.first (h : QOk M L) {j : Nat} (hj : j < M.length) {x : It} {r : List It} (hx : (shAt M j).2 = x :: r) (hw : ∀ i, i < M.length → ∀ y s, (shAt M i).2 = y :: s → ahead y x = false) : ∃ l, L = x :: l := by
  have hxL : x ∈ L := h.mem.2 ⟨j, hj, by simp [hx]⟩
  cases hL : L with
  | nil => rw [hL] at hxL; cases hxL
  | cons z l =>
    rw [hL] at hxL
    rcases List.mem_cons.1 hxL with rfl | hxl
    · exact ⟨l, rfl⟩
    · exfalso
      have hs := h.srt
      rw [hL] at hs
      have hzx : ahead z x = true := (List.pairwise_cons.1 hs).1 x hxl
      obtain ⟨i, hi, hz⟩ := h.mem.1 (show z ∈ L by simp [hL])
      cases hk : (shAt M i).2 with
      | nil => rw [hk] at hz; cases hz
      | cons y s =>
        have hyx := hw i hi y s hk
        rw [hk] at hz
        rcases List.mem_cons.1 hz with rfl | hz
        · rw [hzx] at hyx; cases hyx
        · have hsi := h.srts i hi
          rw [hk] at hsi
          have := ahead_trans ((List.pairwise_cons.1 hsi).1 z hz) hzx
          rw [this] at hyx; cases hyx
end

/-! ### Deeds -/
theorem set_shAt {M : List Sh} {i : Nat} (h : i < M.length) : M.set i ((shAt M i).1, (shAt M i).2) = M := by
  rw [shAt_get h]; exact List.set_getElem_self h

/-- Is an item taken? -/
def takeQ (M : List Sh) (k : Nat) (id : Int) : Bool := decide (0 ≤ id) && (decide ((shAt M (rt M.length id)).1 ≤ k) && !hasI (shAt M (rt M.length id)).2 id)
def pushM (M : List Sh) (k : Nat) (id : Int) : List Sh := if takeQ M k id = true then M.set (rt M.length id) ((shAt M (rt M.length id)).1, insI ((k : Int), id) (shAt M (rt M.length id)).2) else M
def pushL (M : List Sh) (L : List It) (k : Nat) (id : Int) : List It := if takeQ M k id = true then insI ((k : Int), id) L else L
def popM (M : List Sh) : List It → List Sh
  | [] => M
  | x :: _ => M.set (rt M.length x.2) (kn x, (shAt M (rt M.length x.2)).2.tail)
def dropM (M : List Sh) (id : Int) : List Sh := if 0 ≤ id then M.set (rt M.length id) ((shAt M (rt M.length id)).1, dropI (shAt M (rt M.length id)).2 id) else M
theorem pushM_len (M : List Sh) (k : Nat) (id : Int) : (pushM M k id).length = M.length := by unfold pushM; split <;> simp
theorem popM_len (M : List Sh) (L : List It) : (popM M L).length = M.length := by cases L <;> simp [popM]
theorem dropM_len (M : List Sh) (id : Int) : (dropM M id).length = M.length := by unfold dropM; split <;> simp
theorem takeQ_iff {M : List Sh} {k : Nat} {id : Int} : takeQ M k id = true ↔ 0 ≤ id ∧ (shAt M (rt M.length id)).1 ≤ k ∧ hasI (shAt M (rt M.length id)).2 id = false := by
  unfold takeQ; simp
theorem pushM_ok {M : List Sh} {L : List It} (h : QOk M L) (k : Nat) (id : Int) : QOk (pushM M k id) (pushL M L k id) := by
  unfold pushM pushL
  split
  · rename_i e
    obtain ⟨h1, h2, h3⟩ := takeQ_iff.1 e
    exact h.push (x := ((k : Int), id)) h1 _ (by rw [h.has _ h1]; exact h3)
  · exact h
theorem pushL_len (M : List Sh) (L : List It) (k : Nat) (id : Int) : (pushL M L k id).length ≤ L.length + 1 := by
  unfold pushL; split
  · rw [(insI_perm _ _).length_eq]; simp
  · omega
theorem popM_at {M : List Sh} {L : List It} (h : QOk M L) {j : Nat} (hj : j < M.length) {x : It} {r l : List It} (h1 : (shAt M j).2 = x :: r) (h2 : L = x :: l) : popM M L = M.set j (kn x, r) := by
  have := (h.route j hj x (by rw [h1]; simp)).2
  subst h2
  show M.set (rt M.length x.2) (kn x, (shAt M (rt M.length x.2)).2.tail) = _
  rw [this, h1]; rfl
theorem dropM_ok {M : List Sh} {L : List It} (h : QOk M L) (id : Int) : QOk (dropM M id) (dropI L id) := by
  unfold dropM
  split
  · rename_i e; exact h.drop id e _
  · rename_i e; rw [dropI_none (h.neg (by omega))]; exact h
theorem dropM_none {M : List Sh} {L : List It} (h : QOk M L) {id : Int} (hx : hasI L id = false) : dropM M id = M := by
  unfold dropM
  split
  · rename_i e
    rw [h.has id e] at hx
    rw [dropI_none hx]
    exact set_shAt (rt_lt h.one id)
  · rfl
theorem QOk.find {M : List Sh} {L : List It} (h : QOk M L) {id : Int} (h0 : 0 ≤ id) : dropV L id = dropV (shAt M (rt M.length id)).2 id := by
  have hi := rt_lt h.one id
  have e : findI L id = findI (shAt M (rt M.length id)).2 id := by
    cases hk : findI (shAt M (rt M.length id)).2 id with
    | none => rw [findI_none] at hk ⊢; rw [h.has id h0]; exact hk
    | some x =>
      obtain ⟨hx, rfl⟩ := findI_mem hk
      exact findI_of h.nd (h.mem.2 ⟨_, hi, hx⟩)
  unfold dropV; rw [e]

/-! ### Who is first -/
theorem up_one : ∀ m, 1 ≤ m → up m 1 = 1 := by
  intro m
  induction m using Nat.strongRecOn with
  | ind m ih =>
    intro h
    by_cases e : m = 1
    · rw [e]; exact up_le 1 1 (by omega)
    · rw [up_half m 1 (by omega) (by omega)]; exact ih (m / 2) (by omega) (by omega)
def leavesM (M : List Sh) : List Leaf := M.map (fun s => leafOf s.2)
theorem leavesM_get {M : List Sh} {i : Nat} (h : i < M.length) : (leavesM M).getD i zLeaf = leafOf (shAt M i).2 := by
  unfold leavesM; rw [List.getD_eq_getElem?_getD, List.getElem?_map, List.getElem?_eq_getElem h, shAt_get h]; rfl
theorem leavesM_set (M : List Sh) (i : Nat) (s : Sh) : leavesM (M.set i s) = (leavesM M).set i (leafOf s.2) := by unfold leavesM; rw [List.map_set]
theorem leavesM_len (M : List Sh) : (leavesM M).length = M.length := by unfold leavesM; simp
theorem leafOf_cases (l : List It) : (l = [] ∧ leafOf l = zLeaf) ∨ ∃ x r, l = x :: r ∧ leafOf l = (x, true) := by cases l with
  | nil => exact .inl ⟨rfl, rfl⟩
  | cons x r => exact .inr ⟨x, r, rfl, rfl⟩
theorem popM_ok {M : List Sh} {L : List It} (h : QOk M L) : QOk (popM M L) L.tail := by
  cases hL : L with
  | nil => rw [hL] at h; exact h
  | cons x l =>
    obtain ⟨i, hi, hx⟩ := h.mem.1 (show x ∈ L by rw [hL]; simp)
    have hr := (h.route i hi x hx).2
    have hs := h.srt
    rw [hL] at hs
    have hfirst : ∃ r, (shAt M i).2 = x :: r := by
      cases hk : (shAt M i).2 with
      | nil => rw [hk] at hx; cases hx
      | cons y r =>
        rw [hk] at hx
        rcases List.mem_cons.1 hx with rfl | hxr
        · exact ⟨r, rfl⟩
        · have hsi := h.srts i hi
          rw [hk] at hsi
          have h1 := (List.pairwise_cons.1 hsi).1 x hxr
          have hyL : y ∈ L := h.mem.2 ⟨i, hi, by rw [hk]; simp⟩
          rw [hL] at hyL
          rcases List.mem_cons.1 hyL with rfl | hyl
          · exact ⟨r, rfl⟩
          · have h2 := (List.pairwise_cons.1 hs).1 y hyl
            have := ahead_trans h1 h2
            rw [ahead_irrefl] at this; cases this
    obtain ⟨r, hr2⟩ := hfirst
    show QOk (popM M (x :: l)) l
    rw [← hL, popM_at h hi hr2 hL]
    exact h.pop hi hr2 hL _

/-- Who wins is whose head is first of all. -/
theorem QOk.wins {M : List Sh} {L : List It} (h : QOk M L) {size : Nat} (hs : M.length ≤ size) {v : Int} (hw : IsWin (leavesM M) size 1 M.length v) :
    (v = -1 ∧ L = []) ∨ ∃ (j : Nat) (x : It) (r l : List It), v = j ∧ j < M.length ∧ (shAt M j).2 = x :: r ∧ L = x :: l := by
  have hup : ∀ i, i < M.length → up (size + i) 1 = 1 := fun i hi => up_one _ (by have := h.one; omega)
  rcases hw with ⟨rfl, hw⟩ | ⟨j, rfl, hj, _, hjt, hw⟩
  · left
    refine ⟨rfl, h.all_nil (fun i hi => ?_)⟩
    have := hw i hi (hup i hi)
    rw [leavesM_get hi] at this
    rcases leafOf_cases (shAt M i).2 with ⟨e, _⟩ | ⟨x, r, e, e2⟩
    · exact e
    · rw [e2] at this; cases this
  · right
    rw [leavesM_get hj] at hjt hw
    rcases leafOf_cases (shAt M j).2 with ⟨e, e2⟩ | ⟨x, r, e, e2⟩
    · rw [e2] at hjt; cases hjt
    · rw [e2] at hw
      obtain ⟨l, hl⟩ := h.first hj e (fun i hi y s hy => by
        have := (hw i hi (hup i hi) (by rw [leavesM_get hi, hy]; rfl)).1
        rw [leavesM_get hi, hy] at this
        exact this)
      exact ⟨j, x, r, l, rfl, hj, e, hl⟩
end Go.Proofs.YtkepeolbpgnlbaaGreatDoor
