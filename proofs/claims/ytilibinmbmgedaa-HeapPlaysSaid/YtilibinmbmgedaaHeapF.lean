/-
  The walks of the heap's New, Has, Len and Push. No condition.
-/
import Derived.Test.YtilibinmbmgedaaHeapE
import Derived.Deep.AppendLies
namespace Go.Proofs.Ytilibinmbmgedaa
open Go.RowKit

theorem look_has {A : List It} {M : AL} (h : IdxOf A M) (id : Int) : (lookM M id).isSome = hasI A id := by
  cases hl : lookM M id with
  | some v =>
    obtain ⟨j, hj, e⟩ := h.2 id v hl
    symm
    rw [Option.isSome_some, hasI_iff]
    exact ⟨atI A j, by rw [atI_get A j hj]; exact List.getElem_mem hj, e⟩
  | none =>
    symm
    rw [Option.isSome_none, hasI_no]
    intro x hx e
    obtain ⟨j, hj, rfl⟩ := List.getElem_of_mem hx
    have := h.1 j hj
    rw [atI_get A j hj, e, hl] at this
    cases this
theorem look_of {A : List It} {M : AL} (h : IdxOf A M) {id : Int} (hh : hasI A id = true) : ∃ j, j < A.length ∧ (atI A j).2 = id ∧ lookM M id = some (.int .i64 j) := by
  obtain ⟨x, hx, e⟩ := (hasI_iff _ _).1 hh
  obtain ⟨j, hj, rfl⟩ := List.getElem_of_mem hx
  refine ⟨j, hj, by rw [atI_get A j hj]; exact e, ?_⟩
  rw [← e, ← atI_get A j hj]
  exact h.1 j hj

/-- A heap of items in order; the blocks that it lies in. -/
def HeapIs (w : World) (hb : Nat) (L : List It) (fp : List Nat) : Prop :=
  ∃ ao cap mb A, HpAt w hb ao cap mb A ∧ HeapOrd A ∧ A.Perm L ∧ Srt L ∧ fp = hb :: mb :: blkO ao
theorem HeapIs.upd {S : List Nat} {w w' : World} {hb : Nat} {L : List It} {fp : List Nat} (h : HeapIs w hb L fp) (hu : Upd S w w') (hn : ∀ b ∈ fp, b ∉ S) : HeapIs w' hb L fp := by
  obtain ⟨ao, cap, mb, A, h1, h2, h3, h4, rfl⟩ := h
  exact ⟨ao, cap, mb, A, h1.upd hu (hn _ (by simp)) (fun b hb => hn _ (by simp [hb])) (hn _ (by simp)), h2, h3, h4, rfl⟩
theorem HeapIs.lt {w : World} {hb : Nat} {L : List It} {fp : List Nat} (h : HeapIs w hb L fp) : ∀ b ∈ fp, b < w.heap.size := by
  obtain ⟨ao, cap, mb, A, h1, h2, h3, h4, rfl⟩ := h
  intro b hb
  simp only [List.mem_cons] at hb
  rcases hb with rfl | rfl | hb
  · exact h1.top.lt
  · obtain ⟨M, hM, _⟩ := h1.map; exact hM.lt
  · exact h1.row.lt b hb
theorem HeapIs.own {w : World} {hb : Nat} {L : List It} {fp : List Nat} (h : HeapIs w hb L fp) : hb ∈ fp := by
  obtain ⟨ao, cap, mb, A, h1, h2, h3, h4, rfl⟩ := h
  simp
theorem HeapIs.srt {w : World} {hb : Nat} {L : List It} {fp : List Nat} (h : HeapIs w hb L fp) : Srt L := by obtain ⟨ao, cap, mb, A, h1, h2, h3, h4, rfl⟩ := h; exact h4
theorem HeapIs.nd {w : World} {hb : Nat} {L : List It} {fp : List Nat} (h : HeapIs w hb L fp) : NdI L := by obtain ⟨ao, cap, mb, A, h1, h2, h3, h4, rfl⟩ := h; exact h1.nd.perm h3

/-- What a deed on a heap leaves. -/
def HeapTo (w : World) (hb : Nat) (fp : List Nat) (v : Value) (L' : List It) (e : Ending) (w' : World) : Prop :=
  e = .returned v ∧ ∃ fp', HeapIs w' hb L' fp' ∧ (∀ b ∈ fp', b ∈ fp ∨ w.heap.size ≤ b) ∧ Upd fp w w'

set_option maxHeartbeats 4000000 in
theorem has_at (hb : Nat) (ao : Option Addr) (cap mb : Nat) (A : List It) (id : Int) (w : World) (h : HpAt w hb ao cap mb A) :
    Calls Try.prog 19 #[.pointer (some ⟨hb, 0, none⟩), .int .i64 id] w (RetUpd [] w (.bool (hasI A id))) := by
  have c1 := h.top.cell (j := 1) rfl
  obtain ⟨M, hM, hMn, hMi⟩ := h.map
  have hl := hM.look (P := Try.prog) underlyingIntMap underlyingInt zeroInt id true
  rw [look_has hMi] at hl
  simp only [if_true] at hl
  obtain ⟨v, hv⟩ : ∃ v, (lookM M id).getD (.int .i64 0) = v := ⟨_, rfl⟩
  rw [hv] at hl
  obtain ⟨b, hbb⟩ : ∃ b, hasI A id = b := ⟨_, rfl⟩
  rw [hbb] at hl ⊢
  clear h hM hMn hMi hv hbb
  go_enter Try.func19, Try.ntmps19
  go_wp2
  go_ret
  exact ⟨rfl, Upd.refl _ _⟩

set_option maxHeartbeats 4000000 in
theorem len_at (hb : Nat) (ao : Option Addr) (cap mb : Nat) (A : List It) (w : World) (h : HpAt w hb ao cap mb A) :
    Calls Try.prog 10 #[.pointer (some ⟨hb, 0, none⟩)] w (RetUpd [] w (.int .i64 A.length)) := by
  have c0 := h.top.cell (j := 0) rfl
  clear h
  go_enter Try.func10, Try.ntmps10
  go_wp2
  go_ret
  exact ⟨rfl, Upd.refl _ _⟩

theorem heap_has (hb : Nat) (L : List It) (fp : List Nat) (id : Int) (w : World) (h : HeapIs w hb L fp) :
    Calls Try.prog 19 #[.pointer (some ⟨hb, 0, none⟩), .int .i64 id] w (RetUpd [] w (.bool (hasI L id))) := by
  obtain ⟨ao, cap, mb, A, h1, h2, h3, h4, rfl⟩ := h
  rw [← hasI_perm h3]
  exact has_at hb ao cap mb A id w h1
theorem heap_len (hb : Nat) (L : List It) (fp : List Nat) (w : World) (h : HeapIs w hb L fp) :
    Calls Try.prog 10 #[.pointer (some ⟨hb, 0, none⟩)] w (RetUpd [] w (.int .i64 L.length)) := by
  obtain ⟨ao, cap, mb, A, h1, h2, h3, h4, rfl⟩ := h
  rw [← h3.length_eq]
  exact len_at hb ao cap mb A w h1

theorem heap_new_is (w : World) : HeapIs ((w.alloc (.map #[] 0)).alloc (.cells #[.slice none 0 0, .map (some w.heap.size)] 54 (0, 0))) (w.heap.size + 1) [] [w.heap.size + 1, w.heap.size] := by
  refine ⟨none, 0, w.heap.size, [], ?_, ord_nil, List.Perm.refl _, List.Pairwise.nil, rfl⟩
  refine { top := ?_, row := RowO.nil _ _ _, map := ⟨[], (IMap.new w).upd ((Upd.refl [] _).alloc _) (by simp), by simp [NdM], fun j hj => by simp at hj, fun id v hl => by cases hl⟩, nd := by simp [NdI], small := by simp, d1 := by simp [blkO], d2 := by omega, d3 := by simp [blkO] }
  exact (heap_two w _ _).2

set_option maxHeartbeats 4000000 in
theorem heap_new (w : World) : Calls Try.prog 7 #[] w (fun e w' => e = .returned (.pointer (some ⟨w.heap.size + 1, 0, none⟩)) ∧ HeapIs w' (w.heap.size + 1) [] [w.heap.size + 1, w.heap.size] ∧ Upd [] w w') := by
  go_enter Try.func7, Try.ntmps7
  have hmk : (Instr.makeMap 52 none).run Try.prog w = .ok (.map (some w.heap.size)) (w.alloc (.map #[] 0)) := rfl
  go_wp2
  go_ret
  exact ⟨rfl, heap_new_is w, ((Upd.refl _ w).alloc _).alloc _⟩

theorem push_idx {A : List It} {M : AL} (h : IdxOf A M) (x : It) (hx : hasI A x.2 = false) : IdxOf (A ++ [x]) (putM M x.2 (.int .i64 A.length)) := by
  refine ⟨fun j hj => ?_, fun id v hl => ?_⟩
  · rw [List.length_append] at hj
    rw [lookM_put]
    by_cases hjl : j < A.length
    · rw [atI_append A x j hjl, if_neg, h.1 j hjl]
      intro e
      rw [hasI_no] at hx
      exact hx (atI A j) (by rw [atI_get A j hjl]; exact List.getElem_mem hjl) e
    · obtain rfl : j = A.length := by simp at hj; omega
      have : atI (A ++ [x]) A.length = x := by unfold atI; rw [List.getD_eq_getElem?_getD]; simp
      rw [this, if_pos rfl]
  · rw [lookM_put] at hl
    by_cases e : id = x.2
    · exact ⟨A.length, by simp, by unfold atI; rw [List.getD_eq_getElem?_getD]; simp [e]⟩
    · rw [if_neg e] at hl
      obtain ⟨j, hj, e2⟩ := h.2 id v hl
      exact ⟨j, by simp; omega, by rw [atI_append A x j hj]; exact e2⟩

theorem push_at {w w2 w3 w4 : World} {hb cap cap' mb g n : Nat} {ao : Option Addr} {A : List It} {x : It} {M : AL} (h : HpAt w hb ao cap mb A) (hn : A.length = n) (hsm : n < 1000) (hMn : NdM M) (hMi : IdxOf A M) (hx : hasI A x.2 = false)
    (u2 : Upd [] w w2) (t : MapTo w2 mb (putM M x.2 (.int .i64 n)) w3) (u4 : Upd (blkO ao) w3 w4) (hrow : Row w4 37 2 g (n + 1) cap' (A.flatMap itVs ++ itVs x)) (hg : g ∈ blkO ao ∨ w.heap.size ≤ g) (hgb : hb < w.heap.size) :
    HpAt (w4.setCell ⟨hb, 0, none⟩ (.slice (some ⟨g, 0, none⟩) (n + 1) cap')) hb (some ⟨g, 0, none⟩) cap' mb (A ++ [x]) ∧ Upd (hb :: mb :: blkO ao) w (w4.setCell ⟨hb, 0, none⟩ (.slice (some ⟨g, 0, none⟩) (n + 1) cap')) := by
  subst hn
  have n1 : hb ≠ g := by
    rcases hg with hg | hg
    · exact fun e => h.d1 (e ▸ hg)
    · omega
  have hmlt : mb < w.heap.size := by obtain ⟨M', hM', _⟩ := h.map; exact hM'.lt
  have n3 : mb ≠ g := by
    rcases hg with hg | hg
    · exact fun e => h.d3 (e ▸ hg)
    · omega
  have hup : Upd (mb :: blkO ao) w w4 := (u2.nil.trans (t.upd.mono (fun _ _ hm => by simp at hm; simp [hm]))).trans (u4.mono (fun _ _ hm => by simp [hm]))
  have hm4 : IMap w4 mb (putM M x.2 (.int .i64 A.length)) := t.map.upd u4 h.d3
  refine ⟨{ top := ?_, row := ?_, map := ⟨_, hm4.upd ((Upd.refl [hb] _).setCell (by simp) _) (by simpa using h.d2.symm), hMn.put _ _, push_idx hMi x hx⟩, nd := ?_, small := by simp; omega, d1 := by simpa [blkO] using n1, d2 := h.d2, d3 := by simpa [blkO] using n3 }, ?_⟩
  · have := (h.top.upd hup (by simp; exact ⟨h.d2, h.d1⟩)).set 0 (.slice (some ⟨g, 0, none⟩) (A.length + 1) cap')
    simpa using this
  · have := hrow.setFar (a := ⟨hb, 0, none⟩) n1 (.slice (some ⟨g, 0, none⟩) (A.length + 1) cap')
    rw [List.length_append, List.flatMap_append]
    simpa using this.o
  · have := insI_nd h.nd hx
    exact this.perm ((insI_perm x A).trans (List.perm_append_singleton x A).symm)
  · exact Upd.setCell (hup.mono (fun _ _ hm => List.mem_cons_of_mem _ hm)) (.inl (by simp)) _
end Go.Proofs.Ytilibinmbmgedaa
