/-
  The document's one who serves, in memory: laws; NewCore. No condition.
-/
import Derived.Test.YtolohheflbmfaaaGreatDoorCf
import Derived.Test.YtolohheflbmfaaaGreatDoorCe5
import Derived.Test.YtolohheflbmfaaaGreatDoorCd
set_option linter.unusedVariables false
set_option linter.unusedSimpArgs false
namespace Go.Proofs.YtolohheflbmfaaaGreatDoor
open Go.RowKit
def rcBlks (kb : Nat) (aoL aoP : Option Addr) : List Nat := kb :: (blkO aoL ++ blkO aoP)
section
variable {W w : World} {kb rb wd : Nat} {aoL aoP : Option Addr} {cL cP : Nat} {R : List Wk} {P : List Int} {at_ key : Nat} {s : CS} {fq : List Nat}
theorem RCAt.ltB (h : RCAt W w kb rb wd aoL aoP cL cP R P at_ key s fq) : ∀ c ∈ rcBlks kb aoL aoP, c < w.heap.size := by
  intro c hc
  simp only [rcBlks, List.mem_cons, List.mem_append] at hc
  rcases hc with rfl | hc | hc
  · exact h.blk.lt
  · exact h.rowL.lt c hc
  · exact h.rowP.lt c hc
theorem RCAt.lt (h : RCAt W w kb rb wd aoL aoP cL cP R P at_ key s fq) : ∀ c ∈ rcBlks kb aoL aoP ++ fq, c < w.heap.size := by
  intro c hc
  rcases List.mem_append.1 hc with hc | hc
  · exact h.ltB c hc
  · exact h.q.lt c hc
theorem RCAt.newB (h : RCAt W w kb rb wd aoL aoP cL cP R P at_ key s fq) : ∀ c ∈ rcBlks kb aoL aoP ++ fq, W.heap.size ≤ c := by
  intro c hc
  rcases List.mem_append.1 hc with hc | hc
  · exact h.new c hc
  · exact h.q.newB c hc
theorem RCAt.updS (h : RCAt W w kb rb wd aoL aoP cL cP R P at_ key s fq) {S : List Nat} {w' : World} (hu : Upd S w w') (hs : ∀ c ∈ rcBlks kb aoL aoP ++ fq, c ∉ S) : RCAt W w' kb rb wd aoL aoP cL cP R P at_ key s fq :=
  { h with
    blk := h.blk.upd hu (hs kb (by simp [rcBlks]))
    rowL := h.rowL.upd hu (fun c hc => hs c (by simp [rcBlks, hc]))
    rowP := h.rowP.upd hu (fun c hc => hs c (by simp [rcBlks, hc]))
    q := h.q.updS hu (fun c hc => hs c (by simp [hc])) }
theorem RCAt.upd (h : RCAt W w kb rb wd aoL aoP cL cP R P at_ key s fq) {w' : World} (hu : Upd [] w w') : RCAt W w' kb rb wd aoL aoP cL cP R P at_ key s fq := h.updS hu (by simp)
theorem RCAt.cells (h : RCAt W w kb rb wd aoL aoP cL cP R P at_ key s fq) : w.cell? ⟨kb, 0, none⟩ = some (.pointer (some ⟨rb, 0, none⟩)) ∧ w.cell? ⟨kb, 1, none⟩ = some (.int .u64 s.v) ∧ w.cell? ⟨kb, 2, none⟩ = some (.int .u64 s.most) ∧ w.cell? ⟨kb, 3, none⟩ = some (.int .i64 s.served) ∧ w.cell? ⟨kb, 4, none⟩ = some (.slice aoL R.length cL) ∧ w.cell? ⟨kb, 5, none⟩ = some (.slice aoP P.length cP) ∧ w.cell? ⟨kb, 6, none⟩ = some (.bool s.is) ∧ w.cell? ⟨kb, 7, none⟩ = some (.int .i64 at_) ∧ w.cell? ⟨kb, 8, none⟩ = some (.int .u64 key) ∧ kb < w.heap.size :=
  ⟨h.blk.cell (j := 0) rfl, h.blk.cell (j := 1) rfl, h.blk.cell (j := 2) rfl, h.blk.cell (j := 3) rfl, h.blk.cell (j := 4) rfl, h.blk.cell (j := 5) rfl, h.blk.cell (j := 6) rfl, h.blk.cell (j := 7) rfl, h.blk.cell (j := 8) rfl, h.blk.lt⟩

/-- The cells of a known object. -/
theorem RCAt.woken (h : RCAt W w kb rb wd aoL aoP cL cP R P at_ key s fq) {i : Nat} {k : Wk} (hk : R[i]? = some k) :
    ∃ g, aoL = some ⟨g, 0, none⟩ ∧ Row w 93 6 g R.length cL (R.flatMap wkVs) ∧ w.cell? ⟨g, i * 6, none⟩ = some (.int .i64 k.obj) ∧ w.cell? ⟨g, i * 6 + 1, none⟩ = some (.int .i64 k.flow) ∧ w.cell? ⟨g, i * 6 + 2, none⟩ = some (.int .i64 k.most) ∧ w.cell? ⟨g, i * 6 + 3, none⟩ = some (.int .u64 k.r) ∧
      w.cell? ⟨g, i * 6 + 4, none⟩ = some (.int .u64 k.fin) ∧ w.cell? ⟨g, i * 6 + 5, none⟩ = some (.int .u64 k.place) := by
  have hi : i < R.length := by
    rcases Nat.lt_or_ge i R.length with h | h
    · exact h
    · rw [List.getElem?_eq_none h] at hk; cases hk
  obtain ⟨g, e, hr⟩ := h.rowL.row (by omega)
  have key : ∀ j v, (wkVs k)[j]? = some v → j < 6 → (R.flatMap wkVs)[i * 6 + j]? = some v := fun j v hv hj => by
    rw [flat_get wkVs 6 wkVs_len R i j hj k hk]; exact hv
  exact ⟨g, e, hr, hr.cell (key 0 _ rfl (by omega)), hr.cell (key 1 _ rfl (by omega)), hr.cell (key 2 _ rfl (by omega)), hr.cell (key 3 _ rfl (by omega)), hr.cell (key 4 _ rfl (by omega)), hr.cell (key 5 _ rfl (by omega))⟩
end
def RG16 (W : World) (kb wd n : Nat) (s : CS) (G : List Nat) (w : World) : Prop := ∃ rb aoL aoP cL cP R P at_ key fq, RCAt W w kb rb wd aoL aoP cL cP R P at_ key s fq ∧ G = rcBlks kb aoL aoP ++ fq ∧ R.length ≤ n ∧ P.length ≤ 2 * n
def RG16To (W : World) (kb wd n : Nat) (s : CS) (G : List Nat) (w w' : World) : Prop := ∃ G', RG16 W kb wd n s G' w' ∧ Fr G G' w w'
section
variable {W w : World} {kb wd n : Nat} {s : CS} {G : List Nat}
theorem RG16.lt (h : RG16 W kb wd n s G w) : ∀ c ∈ G, c < w.heap.size := by obtain ⟨_, _, _, _, _, _, _, _, _, _, h, rfl, _⟩ := h; exact h.lt
theorem RG16.newB (h : RG16 W kb wd n s G w) : ∀ c ∈ G, W.heap.size ≤ c := by obtain ⟨_, _, _, _, _, _, _, _, _, _, h, rfl, _⟩ := h; exact h.newB
theorem RG16.updS (h : RG16 W kb wd n s G w) {S : List Nat} {w' : World} (hu : Upd S w w') (hs : ∀ c ∈ G, c ∉ S) : RG16 W kb wd n s G w' := by
  obtain ⟨rb, aoL, aoP, cL, cP, R, P, at_, key, fq, h, rfl, hl⟩ := h; exact ⟨rb, aoL, aoP, cL, cP, R, P, at_, key, fq, h.updS hu hs, rfl, hl⟩
theorem RG16.upd (h : RG16 W kb wd n s G w) {w' : World} (hu : Upd [] w w') : RG16 W kb wd n s G w' := h.updS hu (by simp)
theorem RG16.mono (h : RG16 W kb wd n s G w) {m : Nat} (hm : n ≤ m) : RG16 W kb wd m s G w := by
  obtain ⟨rb, aoL, aoP, cL, cP, R, P, at_, key, fq, h, rfl, h1, h2⟩ := h; exact ⟨rb, aoL, aoP, cL, cP, R, P, at_, key, fq, h, rfl, by omega, by omega⟩
end

/-! ### known -/
def idxW (R : List Wk) (o : Int) : Nat := R.findIdx (fun k => k.obj == o)
def knownR (R : List Wk) (o : Int) : List Wk := if idxW R o < R.length then R else R ++ [zWk o]
theorem idxW_at {R : List Wk} {o : Int} {i : Nat} {k : Wk} (hk : R[i]? = some k) (ho : k.obj = o) (hj : ∀ j k', j < i → R[j]? = some k' → k'.obj ≠ o) : idxW R o = i ∧ i < R.length := by
  obtain ⟨hi, he⟩ := List.getElem?_eq_some_iff.1 hk
  refine ⟨(List.findIdx_eq hi).2 ⟨by rw [he]; simp [ho], fun j hji => ?_⟩, hi⟩
  have := hj j (R[j]'(by omega)) hji (List.getElem?_eq_getElem _)
  simpa using this
theorem idxW_no {R : List Wk} {o : Int} (hj : ∀ j k', j < R.length → R[j]? = some k' → k'.obj ≠ o) : idxW R o = R.length := by
  refine List.findIdx_eq_length.2 (fun x hx => ?_)
  obtain ⟨j, hj', e⟩ := List.getElem_of_mem hx
  have := hj j x hj' (by rw [List.getElem?_eq_getElem hj', e])
  simpa using this
theorem knownR_in {R : List Wk} {o : Int} (h : idxW R o < R.length) : knownR R o = R := by unfold knownR; rw [if_pos h]
theorem knownR_out {R : List Wk} {o : Int} (h : idxW R o = R.length) : knownR R o = R ++ [zWk o] := by unfold knownR; rw [if_neg (by omega)]
theorem findW_app {R : List Wk} {o : Int} (h : ∀ k ∈ R, k.obj ≠ o) (j : Int) : thW (R ++ [zWk o]) j = thW R j := by
  unfold thW findW
  rw [List.find?_append]
  cases hf : R.find? (fun k => k.obj == j) with
  | some k => rfl
  | none =>
    simp only [Option.none_or, List.find?_cons, List.find?_nil]
    by_cases e : o = j
    · subst e; simp [zWk, wkTh, zTh]
    · have : ((zWk o).obj == j) = false := by simp [zWk, e]
      rw [this]
theorem underlyingWokens : Tryz.prog.underlying 88 = some (.slice 93) := by kernel_rfl
theorem infoWoken : (Tryz.prog.info? 93).map (fun i => (i.zero, i.size, i.bytes)) = some (some (.agg #[.int .i64 0, .int .i64 0, .int .i64 0, .int .u64 0, .int .u64 0, .int .u64 0]), 6, 48) := by kernel_rfl
section
variable {W w w1 w3 : World} {kb rb wd : Nat} {aoL aoP : Option Addr} {cL cP : Nat} {R : List Wk} {P : List Int} {at_ key : Nat} {s : CS} {fq : List Nat}
/-- One object more is known. -/
theorem RCAt.grow (h : RCAt W w kb rb wd aoL aoP cL cP R P at_ key s fq) {k : Wk} {ao' : Option Addr} {cap' : Nat} (hu : Upd [] w w1) (hA : Apped w1 93 6 aoL (R.length + 1) (R.flatMap wkVs ++ wkVs k) ao' cap' w3)
    (hk : ∀ x ∈ R, x.obj ≠ k.obj) (hth : ∀ o, thW (R ++ [k]) o = thW R o) (hsm : R.length < 1000) :
    RCAt W (w3.setCell ⟨kb, 4, none⟩ (.slice ao' (R.length + 1) cap')) kb rb wd ao' aoP cap' cP (R ++ [k]) P at_ key s fq ∧ Fr (rcBlks kb aoL aoP ++ fq) (rcBlks kb ao' aoP ++ fq) w (w3.setCell ⟨kb, 4, none⟩ (.slice ao' (R.length + 1) cap')) := by
  have hs := hu.size
  have hat : ∀ b ∈ blkO ao', b ∈ blkO aoL ∨ w.heap.size ≤ b := fun b hb => (hA.at_ b hb).imp id (fun e => by omega)
  have hlB := h.ltB
  have e : (R ++ [k]).length = R.length + 1 := by simp
  have hkA : kb ∉ blkO ao' := fun hc => by
    rcases hat kb hc with h1 | h1
    · exact h.d1 h1
    · have := h.blk.lt; omega
  have u1 : Upd (blkO aoL) w w3 := hu.nil.trans hA.upd
  have u2 : Upd [kb] w3 (w3.setCell ⟨kb, 4, none⟩ (.slice ao' (R.length + 1) cap')) := (Upd.refl [kb] w3).setCell (.inl (by simp)) _
  have hfq : ∀ c ∈ fq, c ∉ blkO aoL := fun c hc e => h.far c (by simp [e]) hc
  have hkq : kb ∉ fq := h.far kb (by simp)
  have hup : Upd (rcBlks kb aoL aoP ++ fq) w (w3.setCell ⟨kb, 4, none⟩ (.slice ao' (R.length + 1) cap')) := (u1.mono (fun c _ hc => by simp [rcBlks, hc])).trans (u2.mono (fun c _ hc => by simp only [List.mem_cons, List.not_mem_nil, or_false] at hc; simp [rcBlks, hc]))
  refine ⟨{ h with
    blk := by rw [e]; exact (h.blk.upd u1 h.d1).set 4 _
    rowL := by rw [e, List.flatMap_append]; simpa using hA.row.upd u2 (fun c hc hm => by simp only [List.mem_cons, List.not_mem_nil, or_false] at hm; exact hkA (hm ▸ hc))
    rowP := (h.rowP.upd u1 (fun c hc hm => h.d3 c hm hc)).upd u2 (fun c hc hm => by simp only [List.mem_cons, List.not_mem_nil, or_false] at hm; exact h.d2 (hm ▸ hc))
    q := (h.q.updS u1 hfq).updS u2 (fun c hc hm => by simp only [List.mem_cons, List.not_mem_nil, or_false] at hm; exact hkq (hm ▸ hc))
    nd := by
      rw [List.map_append, List.nodup_append]
      refine ⟨h.nd, by simp, fun a ha b hb e => ?_⟩
      simp only [List.map_cons, List.map_nil, List.mem_cons, List.not_mem_nil, or_false] at hb
      obtain ⟨x, hx, hxa⟩ := List.mem_map.1 ha
      exact hk x hx (by rw [hxa, e, hb])
    th := fun o => by rw [hth]; exact h.th o
    pk := fun hi => by
      obtain ⟨h1, k', h2, h3⟩ := h.pk hi
      exact ⟨h1, k', by rw [List.getElem?_append_left (List.getElem?_eq_some_iff.1 h2).1]; exact h2, h3⟩
    d1 := hkA
    d3 := fun c hc hm => by
      rcases hat c hc with h1 | h1
      · exact h.d3 c h1 hm
      · have := h.rowP.lt c hm; omega
    far := fun c hc hm => by
      simp only [List.mem_cons, List.mem_append] at hc
      rcases hc with hc | hc | hc
      · exact hkq (hc ▸ hm)
      · rcases hat c hc with h1 | h1
        · exact hfq c hm h1
        · have := h.q.lt c hm; omega
      · exact h.far c (by simp [hc]) hm
    new := fun c hc => by
      simp only [List.mem_cons, List.mem_append] at hc
      rcases hc with hc | hc | hc
      · exact h.new c (by simp [hc])
      · rcases hat c hc with h1 | h1
        · exact h.new c (by simp [h1])
        · have := h.new kb (by simp); have := h.blk.lt; omega
      · exact h.new c (by simp [hc])
    lenL := by rw [e]; omega }, fun c hc => ?_, hup⟩
  simp only [rcBlks, List.mem_append, List.mem_cons] at hc ⊢
  rcases hc with (hc | hc | hc) | hc
  · exact .inl (.inl (.inl hc))
  · rcases hat c hc with h1 | h1
    · exact .inl (.inl (.inr (.inl h1)))
    · exact .inr h1
  · exact .inl (.inl (.inr (.inr hc)))
  · exact .inl (.inr hc)

/-- One who woke a flow more. -/
theorem RCAt.growP (h : RCAt W w kb rb wd aoL aoP cL cP R P at_ key s fq) {flow obj : Int} {ao' : Option Addr} {cap' : Nat} (hu : Upd [] w w1) (hA : Apped w1 3 1 aoP (P.length + 2) (P.map (Value.int .i64) ++ [.int .i64 flow, .int .i64 obj]) ao' cap' w3)
    (hsm : P.length < 1998) :
    RCAt W (w3.setCell ⟨kb, 5, none⟩ (.slice ao' (P.length + 2) cap')) kb rb wd aoL ao' cL cap' R (P ++ [flow, obj]) at_ key { s with ow := updI s.ow flow obj } fq ∧ Fr (rcBlks kb aoL aoP ++ fq) (rcBlks kb aoL ao' ++ fq) w (w3.setCell ⟨kb, 5, none⟩ (.slice ao' (P.length + 2) cap')) := by
  have hs := hu.size
  have hat : ∀ b ∈ blkO ao', b ∈ blkO aoP ∨ w.heap.size ≤ b := fun b hb => (hA.at_ b hb).imp id (fun e => by omega)
  have hlB := h.ltB
  have e : (P ++ [flow, obj]).length = P.length + 2 := by simp
  have hkA : kb ∉ blkO ao' := fun hc => by
    rcases hat kb hc with h1 | h1
    · exact h.d2 h1
    · have := h.blk.lt; omega
  have u1 : Upd (blkO aoP) w w3 := hu.nil.trans hA.upd
  have u2 : Upd [kb] w3 (w3.setCell ⟨kb, 5, none⟩ (.slice ao' (P.length + 2) cap')) := (Upd.refl [kb] w3).setCell (.inl (by simp)) _
  have hfq : ∀ c ∈ fq, c ∉ blkO aoP := fun c hc e => h.far c (by simp [e]) hc
  have hkq : kb ∉ fq := h.far kb (by simp)
  have hup : Upd (rcBlks kb aoL aoP ++ fq) w (w3.setCell ⟨kb, 5, none⟩ (.slice ao' (P.length + 2) cap')) := (u1.mono (fun c _ hc => by simp [rcBlks, hc])).trans (u2.mono (fun c _ hc => by simp only [List.mem_cons, List.not_mem_nil, or_false] at hc; simp [rcBlks, hc]))
  refine ⟨{ h with
    blk := by rw [e]; exact (h.blk.upd u1 h.d2).set 5 _
    rowP := by rw [e, List.map_append]; exact hA.row.upd u2 (fun c hc hm => by simp only [List.mem_cons, List.not_mem_nil, or_false] at hm; exact hkA (hm ▸ hc))
    rowL := (h.rowL.upd u1 (fun c hc hm => h.d3 c hc hm)).upd u2 (fun c hc hm => by simp only [List.mem_cons, List.not_mem_nil, or_false] at hm; exact h.d1 (hm ▸ hc))
    q := (h.q.updS u1 hfq).updS u2 (fun c hc hm => by simp only [List.mem_cons, List.not_mem_nil, or_false] at hm; exact hkq (hm ▸ hc))
    ow := fun j => by
      obtain ⟨p, hp⟩ := h.even
      rw [lastO_snoc p P flow obj j 0 hp]
      simp only [updI]
      by_cases e : flow = j
      · rw [if_pos e, if_pos e.symm]
      · rw [if_neg e, if_neg (fun h => e h.symm)]; exact h.ow j
    even := by obtain ⟨p, hp⟩ := h.even; exact ⟨p + 1, by rw [e, hp]; omega⟩
    d2 := hkA
    d3 := fun c hc hm => by
      rcases hat c hm with h1 | h1
      · exact h.d3 c hc h1
      · have := h.rowL.lt c hc; omega
    far := fun c hc hm => by
      simp only [List.mem_cons, List.mem_append] at hc
      rcases hc with hc | hc | hc
      · exact hkq (hc ▸ hm)
      · exact h.far c (by simp [hc]) hm
      · rcases hat c hc with h1 | h1
        · exact hfq c hm h1
        · have := h.q.lt c hm; omega
    new := fun c hc => by
      simp only [List.mem_cons, List.mem_append] at hc
      rcases hc with hc | hc | hc
      · exact h.new c (by simp [hc])
      · exact h.new c (by simp [hc])
      · rcases hat c hc with h1 | h1
        · exact h.new c (by simp [h1])
        · have := h.new kb (by simp); have := h.blk.lt; omega
    lenP := by rw [e]; omega }, fun c hc => ?_, hup⟩
  simp only [rcBlks, List.mem_append, List.mem_cons] at hc ⊢
  rcases hc with (hc | hc | hc) | hc
  · exact .inl (.inl (.inl hc))
  · exact .inl (.inl (.inr (.inl hc)))
  · rcases hat c hc with h1 | h1
    · exact .inl (.inl (.inr (.inr h1)))
    · exact .inr h1
  · exact .inl (.inr hc)
end
end Go.Proofs.YtolohheflbmfaaaGreatDoor
