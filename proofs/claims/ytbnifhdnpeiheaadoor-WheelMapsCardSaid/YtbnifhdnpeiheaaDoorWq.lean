/-
  The wheel's Drop and Pop at the law's level. No condition.
-/
import Derived.Test.YtbnifhdnpeiheaaDoorWp
set_option linter.unusedVariables false
set_option linter.unusedSimpArgs false
namespace Go.Proofs.YtbnifhdnpeiheaaDoor
open Go.RowKit

theorem sub_flat {α : Type} (f : Nat → List α) {n q : Nat} (hq : q < n) : (f q).Sublist ((List.range n).flatMap f) := by
  induction n with
  | zero => omega
  | succ n ih =>
    rw [List.range_succ, List.flatMap_append]
    simp only [List.flatMap_cons, List.flatMap_nil, List.append_nil]
    by_cases e : q = n
    · subst e; exact List.sublist_append_right _ _
    · exact (ih (by omega)).trans (List.sublist_append_left _ _)
theorem NdI.sub {A B : List It} (h : NdI B) (hs : A.Sublist B) : NdI A := by unfold NdI at *; exact h.sublist (hs.map _)
theorem dropI_flat (f : Nat → List It) (n : Nat) (id : Int) : dropI ((List.range n).flatMap f) id = (List.range n).flatMap (fun q => dropI (f q) id) := by
  unfold dropI; rw [List.filter_flatMap]
theorem mem_one {f : Nat → List It} {n q r : Nat} (h : NdI ((List.range n).flatMap f)) (hq : q < n) (hr : r < n) {x y : It} (hx : x ∈ f q) (hy : y ∈ f r) (e : x.2 = y.2) : q = r := by
  induction n with
  | zero => omega
  | succ n ih =>
    rw [List.range_succ, List.flatMap_append] at h
    simp only [List.flatMap_cons, List.flatMap_nil, List.append_nil] at h
    have h0 := h
    unfold NdI at h
    rw [List.map_append, List.nodup_append] at h
    obtain ⟨h1, _, h3⟩ := h
    have hin : ∀ {p : Nat} {z : It}, p < n → z ∈ f p → z.2 ∈ ((List.range n).flatMap f).map (·.2) := fun hp hz => List.mem_map_of_mem (List.mem_flatMap.2 ⟨_, List.mem_range.2 hp, hz⟩)
    by_cases c1 : q = n
    · by_cases c2 : r = n
      · omega
      · exact absurd e (fun e => h3 _ (hin (by omega) hy) x.2 (List.mem_map_of_mem (c1 ▸ hx)) e.symm)
    · by_cases c2 : r = n
      · exact absurd e (fun e => h3 _ (hin (by omega) hx) y.2 (List.mem_map_of_mem (c2 ▸ hy)) e)
      · exact ih h1 (by omega) (by omega)
theorem find_dropI {L : List It} (id j : Int) : findI (dropI L id) j = if j = id then none else findI L j := by
  unfold findI dropI
  induction L with
  | nil => simp
  | cons x r ih =>
    rw [List.filter_cons]
    by_cases c : x.2 = id
    · have h1 : (!(x.2 == id)) = false := by simp [c]
      rw [h1]
      simp only [Bool.false_eq_true, if_false]
      rw [ih, List.find?_cons]
      by_cases d : j = id
      · rw [if_pos d, if_pos d]
      · have h2 : (x.2 == j) = false := by simp [c]; exact fun e => d e.symm
        rw [if_neg d, if_neg d, h2]
    · have h1 : (!(x.2 == id)) = true := by simp [c]
      rw [h1]
      simp only [if_true]
      rw [List.find?_cons, List.find?_cons, ih]
      by_cases d : j = id
      · have h2 : (x.2 == j) = false := by rw [d]; simp [c]
        rw [if_pos d, h2, if_pos d]
      · rw [if_neg d, if_neg d]

/-- Where an item of a wheel lies. -/
theorem wok_place {s : WS} {L : List It} (h : WOk s L) {id : Int} {x : It} (hf : findI L id = some x) :
    x.2 = id ∧ x.1 = (kn x : Int) ∧ kn x < 18446744073709551616 ∧ s.base ≤ kn x ∧ lev3 s.wd s.base (kn x) < 3 ∧
    ∃ i, i < (s.bk (lev3 s.wd s.base (kn x) * 64 + bucN s.wd (kn x) (lev3 s.wd s.base (kn x)))).L.length ∧ atI (s.bk (lev3 s.wd s.base (kn x) * 64 + bucN s.wd (kn x) (lev3 s.wd s.base (kn x)))).L i = x ∧ NdI (s.bk (lev3 s.wd s.base (kn x) * 64 + bucN s.wd (kn x) (lev3 s.wd s.base (kn x)))).L := by
  obtain ⟨hx, hid⟩ := findI_mem hf
  have hk := h.key x hx
  obtain ⟨q, hq, hxq⟩ := mem_allB.1 (h.perm.mem_iff.2 hx)
  have hp := h.pl q hq x hxq
  unfold okP at hp
  have hl : lev3 s.wd s.base (kn x) < 3 := by omega
  have hqe : lev3 s.wd s.base (kn x) * 64 + bucN s.wd (kn x) (lev3 s.wd s.base (kn x)) = q := by
    rw [hp.1, hp.2]; omega
  obtain ⟨i, hi, e⟩ := List.getElem_of_mem hxq
  refine ⟨hid, kn_cast hk.1, by unfold kn; have := hk.1.1; have := hk.1.2; omega, hk.2, hl, i, by rw [hqe]; exact hi, by rw [hqe, atI_get _ i hi]; exact e, ?_⟩
  rw [hqe]
  have hnd : NdI (allB s) := h.nd.perm h.perm.symm
  exact hnd.sub (sub_flat (fun q => (s.bk q).L) hq)

theorem wok_drop {s : WS} {L : List It} (h : WOk s L) (hndm : NdM s.M) (h64 : ∀ l, l < 3 → s.mw l < 18446744073709551616) {id : Int} {x : It} (hf : findI L id = some x) {l b : Nat} (hl : lev3 s.wd s.base (kn x) = l) (hb : bucN s.wd (kn x) l = b) :
    WOk (if dropI (s.bk (l * 64 + b)).L id = [] then emptyS (dropS s l b id) l b else dropS s l b id) (dropI L id) := by
  obtain ⟨hid, hk1, hk2, hk3, hl3, i, hi, hat, hndB⟩ := wok_place h hf
  rw [hl] at hl3
  rw [hl, hb] at hi hat hndB
  have hb64 : b < 64 := by rw [← hb]; exact bucN_lt _ _ _
  have hq : l * 64 + b < 192 := by omega
  have hnd : NdI (allB s) := h.nd.perm h.perm.symm
  have hxB : x ∈ (s.bk (l * 64 + b)).L := by rw [← hat, atI_get _ i hi]; exact List.getElem_mem _
  have hother : ∀ q, q < 192 → q ≠ l * 64 + b → dropI (s.bk q).L id = (s.bk q).L := by
    intro q hq' hne
    apply dropI_none
    rw [hasI_no]
    intro y hy e
    exact hne (mem_one (f := fun q => (s.bk q).L) hnd hq' hq hy hxB (e.trans hid.symm))
  have hlen : (dropI L id).length + 1 = L.length := by
    obtain ⟨j, hj, e⟩ := List.getElem_of_mem (findI_mem hf).1
    have hc := cut_list h.nd hj (x := x) (by rw [atI_get L j hj]; exact e)
    rw [hid] at hc
    rw [← hc, List.length_append, List.length_take, List.length_drop]
    omega
  have hlook : lookM s.M id = some (.int .u64 x.1) := by rw [h.keys, hf]; rfl
  have hml := delM_len hlook
  obtain ⟨s', hs'⟩ : ∃ s', (if dropI (s.bk (l * 64 + b)).L id = [] then emptyS (dropS s l b id) l b else dropS s l b id) = s' := ⟨_, rfl⟩
  have hbk : ∀ q, (s'.bk q).L = if q = l * 64 + b then dropI (s.bk (l * 64 + b)).L id else (s.bk q).L := by
    intro q
    rw [← hs']
    split
    · rename_i hnil
      simp only [emptyS, dropS, setB]
      split
      · rw [hnil]; rfl
      · rfl
    · simp only [dropS, setB]
      split <;> rfl
  have hmeta : s'.base = s.base ∧ s'.wd = s.wd ∧ s'.M = delM s.M id := by
    rw [← hs']
    split <;> exact ⟨rfl, rfl, rfl⟩
  have hmw : ∀ j, s'.mw j = if dropI (s.bk (l * 64 + b)).L id = [] then (if j = l then andNB (s.mw l) b else s.mw j) else s.mw j := by
    intro j
    rw [← hs']
    split <;> rfl
  rw [hs']
  refine { srt := dropI_srt h.srt id, nd := dropI_nd h.nd id, len := by have := h.len; omega, perm := ?_, key := fun y hy => ?_, pl := fun q hq' y hy => ?_, bits := fun j hj c hc => ?_, keys := fun j => ?_, mlen := ?_ }
  · have e : allB s' = dropI (allB s) id := by
      unfold allB
      rw [dropI_flat]
      refine flat_congr (fun q hq' => ?_)
      rw [List.mem_range] at hq'
      rw [hbk q]
      split
      · rename_i e; rw [e]
      · rename_i e; rw [hother q hq' e]
    rw [e]
    exact dropI_perm h.perm id
  · rw [hmeta.1]
    unfold dropI at hy
    exact h.key y (List.mem_filter.1 hy).1
  · rw [hmeta.1, hmeta.2.1]
    rw [hbk q] at hy
    split at hy
    · rename_i e
      unfold dropI at hy
      exact h.pl q hq' y (by rw [e]; exact (List.mem_filter.1 hy).1)
    · exact h.pl q hq' y hy
  · have e1 : (s'.bk (j * 64 + c)).L.length = if j * 64 + c = l * 64 + b then (dropI (s.bk (l * 64 + b)).L id).length else (s.bk (j * 64 + c)).L.length := by
      rw [hbk]; split <;> rfl
    rw [e1, hmw j]
    by_cases hn : dropI (s.bk (l * 64 + b)).L id = []
    · rw [if_pos hn, hn]
      by_cases e : j = l
      · subst e
        rw [if_pos rfl, andNB_bit _ _ _ hb64 (h64 j hj), h.bits j hj c hc]
        by_cases e2 : c = b
        · subst e2; simp
        · have h3 : ¬ (j * 64 + c = j * 64 + b) := by omega
          rw [if_neg h3]
          simp [Ne.symm e2]
      · have h3 : ¬ (j * 64 + c = l * 64 + b) := by omega
        rw [if_neg e, if_neg h3, h.bits j hj c hc]
    · rw [if_neg hn, h.bits j hj c hc]
      by_cases e : j * 64 + c = l * 64 + b
      · rw [if_pos e, e]
        have p1 : 0 < (dropI (s.bk (l * 64 + b)).L id).length := List.length_pos_iff.2 hn
        have p2 : 0 < (s.bk (l * 64 + b)).L.length := by omega
        simp [p1, p2]
      · rw [if_neg e]
  · rw [hmeta.2.2, lookM_del hndm, find_dropI, h.keys]
    split <;> rfl
  · rw [hmeta.2.2]
    have := h.mlen
    omega

theorem WG.drop {W w : World} {wb base wd : Nat} {L : List It} {fp : List Nat} (h : WG W wb base wd L fp w) (id : Int) :
    Calls Tryd.prog 69 #[.pointer (some ⟨wb, 0, none⟩), .int .i64 id] w (fun e w' => e = .returned (dropV L id) ∧ WGTo W wb base wd (dropI L id) fp w w') := by
  have h0 := h
  obtain ⟨s, h1, h2, rfl, rfl, rfl, h3, h4, h5⟩ := h
  cases hf : findI L id with
  | none =>
    have hno : lookM s.M id = none := by rw [h2.keys, hf]; rfl
    refine (wdrop_no wb s id w h1 hno).mono ?_
    rintro e w' ⟨rfl, hU⟩
    have hd : dropI L id = L := dropI_none (findI_none.1 hf)
    rw [hd]
    exact ⟨by unfold dropV; rw [hf], h0.step (h1.up hU) h2 rfl rfl (Fr.of hU)⟩
  | some x =>
    obtain ⟨hid, hk1, hk2, hk3, hl3, i, hi, hat, hndB⟩ := wok_place h2 hf
    obtain ⟨l, hl⟩ : ∃ l, lev3 s.wd s.base (kn x) = l := ⟨_, rfl⟩
    obtain ⟨b, hb⟩ : ∃ b, bucN s.wd (kn x) l = b := ⟨_, rfl⟩
    rw [hl] at hl3
    rw [hl, hb] at hi hat hndB
    have hlook : lookM s.M id = some (.int .u64 (kn x)) := by rw [h2.keys, hf, ← hk1]; rfl
    have hxe : x = ((kn x : Int), id) := by rw [← hk1, ← hid]
    refine (wdrop_yes wb l b (kn x) s id w hk2 h1 hlook hk3 hl hl3 hb i hi (by rw [hat]; exact hxe) hndB).mono ?_
    rintro e w' ⟨rfl, hW, hU⟩
    refine ⟨by unfold dropV; rw [hf, ← hxe], ?_⟩
    have hok := wok_drop h2 h1.ndm h1.mw64 hf hl hb
    refine h0.step hW hok ?_ ?_ ⟨fun c hc => ?_, hU⟩
    · split <;> rfl
    · split <;> rfl
    · left
      have hdf : ∀ c, c ∈ (dropS s l b id).fp wb → c ∈ s.fp wb := by
        intro c hc
        have hb64 : b < 64 := by rw [← hb]; exact bucN_lt _ _ _
        rcases WS.mem_fp.1 hc with e | e | ⟨q, hq, e⟩
        · exact WS.mem_fp.2 (.inl e)
        · exact WS.mem_fp.2 (.inr (.inl e))
        · simp only [dropS, setB] at e
          split at e
          · exact WS.mem_fp.2 (.inr (.inr ⟨l * 64 + b, by omega, e⟩))
          · exact WS.mem_fp.2 (.inr (.inr ⟨q, hq, e⟩))
      split at hc
      · exact hdf c (empty_fp hc)
      · exact hdf c hc
end Go.Proofs.YtbnifhdnpeiheaaDoor
