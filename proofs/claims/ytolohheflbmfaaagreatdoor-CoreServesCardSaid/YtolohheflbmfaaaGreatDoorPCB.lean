/-
  Texts of this claim, joined: Cg, Ch, Ci, Cj. No condition.
-/
import Derived.Test.YtolohheflbmfaaaGreatDoorPCA
import Derived.Test.YtolohheflbmfaaaGreatDoorPCT
set_option linter.unusedVariables false
set_option linter.unusedSimpArgs false
/-! Cg -/
namespace Go.Proofs.YtolohheflbmfaaaGreatDoor
open Go.RowKit
def rcBlks (kb : Nat) (aoL aoP : Option Addr) : List Nat := kb :: (blkO aoL ++ blkO aoP)
section
variable {W w : World} {kb rb wd : Nat} {aoL aoP : Option Addr} {cL cP : Nat} {R : List Wk} {P : List Int} {at_ key : Nat} {s : CS} {fq : List Nat}
theorem RCAt.ltB (h : RCAt W w kb rb wd aoL aoP cL cP R P at_ key s fq) : ∀ c ∈ rcBlks kb aoL aoP, c < w.heap.size := by
  intro c hc
  simp only [rcBlks, List.mem_cons, List.mem_append] at hc
  rcases hc with rfl | hc | hc
  · exact h.blk.lt
  · exact h.rowL.lt c hc
  · exact h.rowP.lt c hc
theorem RCAt.lt (h : RCAt W w kb rb wd aoL aoP cL cP R P at_ key s fq) : ∀ c ∈ rcBlks kb aoL aoP ++ fq, c < w.heap.size := by
  intro c hc
  rcases List.mem_append.1 hc with hc | hc
  · exact h.ltB c hc
  · exact h.q.lt c hc
theorem RCAt.newB (h : RCAt W w kb rb wd aoL aoP cL cP R P at_ key s fq) : ∀ c ∈ rcBlks kb aoL aoP ++ fq, W.heap.size ≤ c := by
  intro c hc
  rcases List.mem_append.1 hc with hc | hc
  · exact h.new c hc
  · exact h.q.newB c hc
theorem RCAt.updS (h : RCAt W w kb rb wd aoL aoP cL cP R P at_ key s fq) {S : List Nat} {w' : World} (hu : Upd S w w') (hs : ∀ c ∈ rcBlks kb aoL aoP ++ fq, c ∉ S) : RCAt W w' kb rb wd aoL aoP cL cP R P at_ key s fq :=
  { h with
    blk := h.blk.upd hu (hs kb (by simp [rcBlks]))
    rowL := h.rowL.upd hu (fun c hc => hs c (by simp [rcBlks, hc]))
    rowP := h.rowP.upd hu (fun c hc => hs c (by simp [rcBlks, hc]))
    q := h.q.updS hu (fun c hc => hs c (by simp [hc])) }
theorem RCAt.upd (h : RCAt W w kb rb wd aoL aoP cL cP R P at_ key s fq) {w' : World} (hu : Upd [] w w') : RCAt W w' kb rb wd aoL aoP cL cP R P at_ key s fq := h.updS hu (by simp)
theorem RCAt.cells (h : RCAt W w kb rb wd aoL aoP cL cP R P at_ key s fq) : w.cell? ⟨kb, 0, none⟩ = some (.pointer (some ⟨rb, 0, none⟩)) ∧ w.cell? ⟨kb, 1, none⟩ = some (.int .u64 s.v) ∧ w.cell? ⟨kb, 2, none⟩ = some (.int .u64 s.most) ∧ w.cell? ⟨kb, 3, none⟩ = some (.int .i64 s.served) ∧ w.cell? ⟨kb, 4, none⟩ = some (.slice aoL R.length cL) ∧ w.cell? ⟨kb, 5, none⟩ = some (.slice aoP P.length cP) ∧ w.cell? ⟨kb, 6, none⟩ = some (.bool s.is) ∧ w.cell? ⟨kb, 7, none⟩ = some (.int .i64 at_) ∧ w.cell? ⟨kb, 8, none⟩ = some (.int .u64 key) ∧ kb < w.heap.size :=
  ⟨h.blk.cell (j := 0) rfl, h.blk.cell (j := 1) rfl, h.blk.cell (j := 2) rfl, h.blk.cell (j := 3) rfl, h.blk.cell (j := 4) rfl, h.blk.cell (j := 5) rfl, h.blk.cell (j := 6) rfl, h.blk.cell (j := 7) rfl, h.blk.cell (j := 8) rfl, h.blk.lt⟩

/-- The cells of a known object. -/
theorem RCAt.woken (h : RCAt W w kb rb wd aoL aoP cL cP R P at_ key s fq) {i : Nat} {k : Wk} (hk : R[i]? = some k) :
    ∃ g, aoL = some ⟨g, 0, none⟩ ∧ Row w 93 6 g R.length cL (R.flatMap wkVs) ∧ w.cell? ⟨g, i * 6, none⟩ = some (.int .i64 k.obj) ∧ w.cell? ⟨g, i * 6 + 1, none⟩ = some (.int .i64 k.flow) ∧ w.cell? ⟨g, i * 6 + 2, none⟩ = some (.int .i64 k.most) ∧ w.cell? ⟨g, i * 6 + 3, none⟩ = some (.int .u64 k.r) ∧
      w.cell? ⟨g, i * 6 + 4, none⟩ = some (.int .u64 k.fin) ∧ w.cell? ⟨g, i * 6 + 5, none⟩ = some (.int .u64 k.place) := by
  have hi : i < R.length := by
    rcases Nat.lt_or_ge i R.length with h | h
    · exact h
    · rw [List.getElem?_eq_none h] at hk; cases hk
  obtain ⟨g, e, hr⟩ := h.rowL.row (by omega)
  have key : ∀ j v, (wkVs k)[j]? = some v → j < 6 → (R.flatMap wkVs)[i * 6 + j]? = some v := fun j v hv hj => by
    rw [flat_get wkVs 6 wkVs_len R i j hj k hk]; exact hv
  exact ⟨g, e, hr, hr.cell (key 0 _ rfl (by omega)), hr.cell (key 1 _ rfl (by omega)), hr.cell (key 2 _ rfl (by omega)), hr.cell (key 3 _ rfl (by omega)), hr.cell (key 4 _ rfl (by omega)), hr.cell (key 5 _ rfl (by omega))⟩
end
def RG16 (W : World) (kb wd n : Nat) (s : CS) (G : List Nat) (w : World) : Prop := ∃ rb aoL aoP cL cP R P at_ key fq, RCAt W w kb rb wd aoL aoP cL cP R P at_ key s fq ∧ G = rcBlks kb aoL aoP ++ fq ∧ R.length ≤ n ∧ P.length ≤ 2 * n
def RG16To (W : World) (kb wd n : Nat) (s : CS) (G : List Nat) (w w' : World) : Prop := ∃ G', RG16 W kb wd n s G' w' ∧ Fr G G' w w'
section
variable {W w : World} {kb wd n : Nat} {s : CS} {G : List Nat}
theorem RG16.lt (h : RG16 W kb wd n s G w) : ∀ c ∈ G, c < w.heap.size := by obtain ⟨_, _, _, _, _, _, _, _, _, _, h, rfl, _⟩ := h; exact h.lt
theorem RG16.newB (h : RG16 W kb wd n s G w) : ∀ c ∈ G, W.heap.size ≤ c := by obtain ⟨_, _, _, _, _, _, _, _, _, _, h, rfl, _⟩ := h; exact h.newB
theorem RG16.updS (h : RG16 W kb wd n s G w) {S : List Nat} {w' : World} (hu : Upd S w w') (hs : ∀ c ∈ G, c ∉ S) : RG16 W kb wd n s G w' := by
  obtain ⟨rb, aoL, aoP, cL, cP, R, P, at_, key, fq, h, rfl, hl⟩ := h; exact ⟨rb, aoL, aoP, cL, cP, R, P, at_, key, fq, h.updS hu hs, rfl, hl⟩
theorem RG16.upd (h : RG16 W kb wd n s G w) {w' : World} (hu : Upd [] w w') : RG16 W kb wd n s G w' := h.updS hu (by simp)
theorem RG16.mono (h : RG16 W kb wd n s G w) {m : Nat} (hm : n ≤ m) : RG16 W kb wd m s G w := by
  obtain ⟨rb, aoL, aoP, cL, cP, R, P, at_, key, fq, h, rfl, h1, h2⟩ := h; exact ⟨rb, aoL, aoP, cL, cP, R, P, at_, key, fq, h, rfl, by omega, by omega⟩
end

/-! ### known -/
def idxW (R : List Wk) (o : Int) : Nat := R.findIdx (fun k => k.obj == o)
def knownR (R : List Wk) (o : Int) : List Wk := if idxW R o < R.length then R else R ++ [zWk o]
theorem idxW_at {R : List Wk} {o : Int} {i : Nat} {k : Wk} (hk : R[i]? = some k) (ho : k.obj = o) (hj : ∀ j k', j < i → R[j]? = some k' → k'.obj ≠ o) : idxW R o = i ∧ i < R.length := by
  obtain ⟨hi, he⟩ := List.getElem?_eq_some_iff.1 hk
  refine ⟨(List.findIdx_eq hi).2 ⟨by rw [he]; simp [ho], fun j hji => ?_⟩, hi⟩
  have := hj j (R[j]'(by omega)) hji (List.getElem?_eq_getElem _)
  simpa using this
theorem idxW_no {R : List Wk} {o : Int} (hj : ∀ j k', j < R.length → R[j]? = some k' → k'.obj ≠ o) : idxW R o = R.length := by
  refine List.findIdx_eq_length.2 (fun x hx => ?_)
  obtain ⟨j, hj', e⟩ := List.getElem_of_mem hx
  have := hj j x hj' (by rw [List.getElem?_eq_getElem hj', e])
  simpa using this
theorem knownR_in {R : List Wk} {o : Int} (h : idxW R o < R.length) : knownR R o = R := by unfold knownR; rw [if_pos h]
theorem knownR_out {R : List Wk} {o : Int} (h : idxW R o = R.length) : knownR R o = R ++ [zWk o] := by unfold knownR; rw [if_neg (by omega)]
theorem findW_app {R : List Wk} {o : Int} (h : ∀ k ∈ R, k.obj ≠ o) (j : Int) : thW (R ++ [zWk o]) j = thW R j := by
  unfold thW findW
  rw [List.find?_append]
  cases hf : R.find? (fun k => k.obj == j) with
  | some k => rfl
  | none =>
    simp only [Option.none_or, List.find?_cons, List.find?_nil]
    by_cases e : o = j
    · subst e; simp [zWk, wkTh, zTh]
    · have : ((zWk o).obj == j) = false := by simp [zWk, e]
      rw [this]
theorem underlyingWokens : Tryz.prog.underlying 88 = some (.slice 93) := by kernel_rfl
theorem infoWoken : (Tryz.prog.info? 93).map (fun i => (i.zero, i.size, i.bytes)) = some (some (.agg #[.int .i64 0, .int .i64 0, .int .i64 0, .int .u64 0, .int .u64 0, .int .u64 0]), 6, 48) := by kernel_rfl
section
variable {W w w1 w3 : World} {kb rb wd : Nat} {aoL aoP : Option Addr} {cL cP : Nat} {R : List Wk} {P : List Int} {at_ key : Nat} {s : CS} {fq : List Nat}
/-- One object more is known. -/
theorem RCAt.grow (h : RCAt W w kb rb wd aoL aoP cL cP R P at_ key s fq) {k : Wk} {ao' : Option Addr} {cap' : Nat} (hu : Upd [] w w1) (hA : Apped w1 93 6 aoL (R.length + 1) (R.flatMap wkVs ++ wkVs k) ao' cap' w3)
    (hk : ∀ x ∈ R, x.obj ≠ k.obj) (hth : ∀ o, thW (R ++ [k]) o = thW R o) (hsm : R.length < 1000) :
    RCAt W (w3.setCell ⟨kb, 4, none⟩ (.slice ao' (R.length + 1) cap')) kb rb wd ao' aoP cap' cP (R ++ [k]) P at_ key s fq ∧ Fr (rcBlks kb aoL aoP ++ fq) (rcBlks kb ao' aoP ++ fq) w (w3.setCell ⟨kb, 4, none⟩ (.slice ao' (R.length + 1) cap')) := by
  have hs := hu.size
  have hat : ∀ b ∈ blkO ao', b ∈ blkO aoL ∨ w.heap.size ≤ b := fun b hb => (hA.at_ b hb).imp id (fun e => by omega)
  have hlB := h.ltB
  have e : (R ++ [k]).length = R.length + 1 := by simp
  have hkA : kb ∉ blkO ao' := fun hc => by
    rcases hat kb hc with h1 | h1
    · exact h.d1 h1
    · have := h.blk.lt; omega
  have u1 : Upd (blkO aoL) w w3 := hu.nil.trans hA.upd
  have u2 : Upd [kb] w3 (w3.setCell ⟨kb, 4, none⟩ (.slice ao' (R.length + 1) cap')) := (Upd.refl [kb] w3).setCell (.inl (by simp)) _
  have hfq : ∀ c ∈ fq, c ∉ blkO aoL := fun c hc e => h.far c (by simp [e]) hc
  have hkq : kb ∉ fq := h.far kb (by simp)
  have hup : Upd (rcBlks kb aoL aoP ++ fq) w (w3.setCell ⟨kb, 4, none⟩ (.slice ao' (R.length + 1) cap')) := (u1.mono (fun c _ hc => by simp [rcBlks, hc])).trans (u2.mono (fun c _ hc => by simp only [List.mem_cons, List.not_mem_nil, or_false] at hc; simp [rcBlks, hc]))
  refine ⟨{ h with
    blk := by rw [e]; exact (h.blk.upd u1 h.d1).set 4 _
    rowL := by rw [e, List.flatMap_append]; simpa using hA.row.upd u2 (fun c hc hm => by simp only [List.mem_cons, List.not_mem_nil, or_false] at hm; exact hkA (hm ▸ hc))
    rowP := (h.rowP.upd u1 (fun c hc hm => h.d3 c hm hc)).upd u2 (fun c hc hm => by simp only [List.mem_cons, List.not_mem_nil, or_false] at hm; exact h.d2 (hm ▸ hc))
    q := (h.q.updS u1 hfq).updS u2 (fun c hc hm => by simp only [List.mem_cons, List.not_mem_nil, or_false] at hm; exact hkq (hm ▸ hc))
    nd := by
      rw [List.map_append, List.nodup_append]
      refine ⟨h.nd, by simp, fun a ha b hb e => ?_⟩
      simp only [List.map_cons, List.map_nil, List.mem_cons, List.not_mem_nil, or_false] at hb
      obtain ⟨x, hx, hxa⟩ := List.mem_map.1 ha
      exact hk x hx (by rw [hxa, e, hb])
    th := fun o => by rw [hth]; exact h.th o
    pk := fun hi => by
      obtain ⟨h1, k', h2, h3⟩ := h.pk hi
      exact ⟨h1, k', by rw [List.getElem?_append_left (List.getElem?_eq_some_iff.1 h2).1]; exact h2, h3⟩
    d1 := hkA
    d3 := fun c hc hm => by
      rcases hat c hc with h1 | h1
      · exact h.d3 c h1 hm
      · have := h.rowP.lt c hm; omega
    far := fun c hc hm => by
      simp only [List.mem_cons, List.mem_append] at hc
      rcases hc with hc | hc | hc
      · exact hkq (hc ▸ hm)
      · rcases hat c hc with h1 | h1
        · exact hfq c hm h1
        · have := h.q.lt c hm; omega
      · exact h.far c (by simp [hc]) hm
    new := fun c hc => by
      simp only [List.mem_cons, List.mem_append] at hc
      rcases hc with hc | hc | hc
      · exact h.new c (by simp [hc])
      · rcases hat c hc with h1 | h1
        · exact h.new c (by simp [h1])
        · have := h.new kb (by simp); have := h.blk.lt; omega
      · exact h.new c (by simp [hc])
    lenL := by rw [e]; omega }, fun c hc => ?_, hup⟩
  simp only [rcBlks, List.mem_append, List.mem_cons] at hc ⊢
  rcases hc with (hc | hc | hc) | hc
  · exact .inl (.inl (.inl hc))
  · rcases hat c hc with h1 | h1
    · exact .inl (.inl (.inr (.inl h1)))
    · exact .inr h1
  · exact .inl (.inl (.inr (.inr hc)))
  · exact .inl (.inr hc)

/-- One who woke a flow more. -/
theorem RCAt.growP (h : RCAt W w kb rb wd aoL aoP cL cP R P at_ key s fq) {flow obj : Int} {ao' : Option Addr} {cap' : Nat} (hu : Upd [] w w1) (hA : Apped w1 3 1 aoP (P.length + 2) (P.map (Value.int .i64) ++ [.int .i64 flow, .int .i64 obj]) ao' cap' w3)
    (hsm : P.length < 1998) :
    RCAt W (w3.setCell ⟨kb, 5, none⟩ (.slice ao' (P.length + 2) cap')) kb rb wd aoL ao' cL cap' R (P ++ [flow, obj]) at_ key { s with ow := updI s.ow flow obj } fq ∧ Fr (rcBlks kb aoL aoP ++ fq) (rcBlks kb aoL ao' ++ fq) w (w3.setCell ⟨kb, 5, none⟩ (.slice ao' (P.length + 2) cap')) := by
  have hs := hu.size
  have hat : ∀ b ∈ blkO ao', b ∈ blkO aoP ∨ w.heap.size ≤ b := fun b hb => (hA.at_ b hb).imp id (fun e => by omega)
  have hlB := h.ltB
  have e : (P ++ [flow, obj]).length = P.length + 2 := by simp
  have hkA : kb ∉ blkO ao' := fun hc => by
    rcases hat kb hc with h1 | h1
    · exact h.d2 h1
    · have := h.blk.lt; omega
  have u1 : Upd (blkO aoP) w w3 := hu.nil.trans hA.upd
  have u2 : Upd [kb] w3 (w3.setCell ⟨kb, 5, none⟩ (.slice ao' (P.length + 2) cap')) := (Upd.refl [kb] w3).setCell (.inl (by simp)) _
  have hfq : ∀ c ∈ fq, c ∉ blkO aoP := fun c hc e => h.far c (by simp [e]) hc
  have hkq : kb ∉ fq := h.far kb (by simp)
  have hup : Upd (rcBlks kb aoL aoP ++ fq) w (w3.setCell ⟨kb, 5, none⟩ (.slice ao' (P.length + 2) cap')) := (u1.mono (fun c _ hc => by simp [rcBlks, hc])).trans (u2.mono (fun c _ hc => by simp only [List.mem_cons, List.not_mem_nil, or_false] at hc; simp [rcBlks, hc]))
  refine ⟨{ h with
    blk := by rw [e]; exact (h.blk.upd u1 h.d2).set 5 _
    rowP := by rw [e, List.map_append]; exact hA.row.upd u2 (fun c hc hm => by simp only [List.mem_cons, List.not_mem_nil, or_false] at hm; exact hkA (hm ▸ hc))
    rowL := (h.rowL.upd u1 (fun c hc hm => h.d3 c hc hm)).upd u2 (fun c hc hm => by simp only [List.mem_cons, List.not_mem_nil, or_false] at hm; exact h.d1 (hm ▸ hc))
    q := (h.q.updS u1 hfq).updS u2 (fun c hc hm => by simp only [List.mem_cons, List.not_mem_nil, or_false] at hm; exact hkq (hm ▸ hc))
    ow := fun j => by
      obtain ⟨p, hp⟩ := h.even
      rw [lastO_snoc p P flow obj j 0 hp]
      simp only [updI]
      by_cases e : flow = j
      · rw [if_pos e, if_pos e.symm]
      · rw [if_neg e, if_neg (fun h => e h.symm)]; exact h.ow j
    even := by obtain ⟨p, hp⟩ := h.even; exact ⟨p + 1, by rw [e, hp]; omega⟩
    d2 := hkA
    d3 := fun c hc hm => by
      rcases hat c hm with h1 | h1
      · exact h.d3 c hc h1
      · have := h.rowL.lt c hc; omega
    far := fun c hc hm => by
      simp only [List.mem_cons, List.mem_append] at hc
      rcases hc with hc | hc | hc
      · exact hkq (hc ▸ hm)
      · exact h.far c (by simp [hc]) hm
      · rcases hat c hc with h1 | h1
        · exact hfq c hm h1
        · have := h.q.lt c hm; omega
    new := fun c hc => by
      simp only [List.mem_cons, List.mem_append] at hc
      rcases hc with hc | hc | hc
      · exact h.new c (by simp [hc])
      · exact h.new c (by simp [hc])
      · rcases hat c hc with h1 | h1
        · exact h.new c (by simp [h1])
        · have := h.new kb (by simp); have := h.blk.lt; omega
    lenP := by rw [e]; omega }, fun c hc => ?_, hup⟩
  simp only [rcBlks, List.mem_append, List.mem_cons] at hc ⊢
  rcases hc with (hc | hc | hc) | hc
  · exact .inl (.inl (.inl hc))
  · exact .inl (.inl (.inr (.inl hc)))
  · rcases hat c hc with h1 | h1
    · exact .inl (.inl (.inr (.inr h1)))
    · exact .inr h1
  · exact .inl (.inr hc)
end
end Go.Proofs.YtolohheflbmfaaaGreatDoor

/-! Ch -/
namespace Go.Proofs.YtolohheflbmfaaaGreatDoor
open Go.RowKit
def NewRC (W w : World) (sh wd : Int) (e : Ending) (w' : World) : Prop := ∃ kb G, e = .returned (.pointer (some ⟨kb, 0, none⟩)) ∧ RG16 W kb (heldN wd) 0 (newC (leavesOf sh)) G w' ∧ Upd [] w w' ∧ ∀ c ∈ G, w.heap.size ≤ c

set_option maxRecDepth 100000 in
set_option maxHeartbeats 8000000 in
theorem RG16.new {W w : World} (hU : Upd [] W w) (sh slots workers wd : Int) (unit : Int) : Calls Tryz.prog 34 #[.agg #[.int .i64 sh, .int .i64 slots, .int .i64 workers, .int .i64 wd, .int .u64 unit]] w (NewRC W w sh wd) := by
  have HN : Hid (∀ w', Upd [] w w' → Calls Tryz.prog 54 #[.int .i64 sh, .int .i64 wd] w' (NewRQ W w' sh wd)) := fun w' hu => RQ.new (hU.trans hu) sh wd
  have HS := Lib.hid hU.size
  clear hU
  go_enter Tryz.func34, Tryz.ntmps34
  go_wp2_with fail
  refine (HN.out _ ((Upd.refl [] w).alloc _)).mono ?_
  rintro e w2 ⟨rb, fq, rfl, hQ, hU2, hf⟩
  have HQ := Lib.hid hQ
  have HU2 := Lib.hid (((Upd.refl [] w).alloc (.cells #[.int .i64 sh, .int .i64 slots, .int .i64 workers, .int .i64 wd, .int .u64 unit] 24)).trans hU2)
  have HF : Hid (∀ c ∈ fq, w.heap.size ≤ c) := fun c hc => by have := hf c hc; simp at this; omega
  clear hQ hU2 hf
  go_wp2
  go_ret
  have hs := HU2.out.size
  have hS := HS.out
  have uA : Upd [] w2 (w2.alloc (.cells #[.pointer (some ⟨rb, 0, none⟩), .int .u64 0, .int .u64 0, .int .i64 0, .slice none 0 0, .slice none 0 0, .bool false, .int .i64 0, .int .u64 0] 91)) := (Upd.refl [] w2).alloc _
  refine ⟨w2.heap.size, _, rfl, ⟨rb, none, none, 0, 0, [], [], 0, 0, fq, { blk := Blk.new w2 91 [.pointer (some ⟨rb, 0, none⟩), .int .u64 0, .int .u64 0, .int .i64 0, .slice none 0 0, .slice none 0 0, .bool false, .int .i64 0, .int .u64 0], rowL := RowO.nil _ _ _, rowP := RowO.nil _ _ _, q := HQ.out.upd uA, nd := List.nodup_nil, th := fun o => rfl, ow := fun f => rfl, even := ⟨0, rfl⟩, pk := fun h => (by cases h), d1 := by simp [blkO], d2 := by simp [blkO], d3 := by simp [blkO], far := fun c hc e => ?_, new := fun c hc => ?_, lenL := by simp, lenP := by simp }, rfl, Nat.le_refl _, Nat.le_refl _⟩, HU2.out.trans uA, fun c hc => ?_⟩
  · have := HQ.out.lt c e
    simp only [blkO, List.append_nil, List.mem_cons, List.not_mem_nil, or_false] at hc
    omega
  · simp only [blkO, List.append_nil, List.mem_cons, List.not_mem_nil, or_false] at hc
    omega
  · simp only [rcBlks, blkO, List.append_nil, List.mem_cons, List.mem_append, List.not_mem_nil, or_false] at hc
    rcases hc with h | h
    · omega
    · exact HF.out c h

/-! ### known -/
def KnownAt (R : List Wk) (o : Int) (w : World) (iv : Value) (wr : World) : Prop := ∃ i : Nat, iv = .int .i64 i ∧ i ≤ R.length ∧ (∀ j k, j < i → R[j]? = some k → k.obj ≠ o) ∧ wr = w

/-- What known leaves. -/
def KnownTo (W w : World) (kb rb wd : Nat) (aoL aoP : Option Addr) (cP : Nat) (R : List Wk) (P : List Int) (at_ key : Nat) (s : CS) (fq : List Nat) (o : Int) (e : Ending) (w' : World) : Prop :=
  e = .returned (.int .i64 (idxW R o)) ∧ ∃ aoL' cL', RCAt W w' kb rb wd aoL' aoP cL' cP (knownR R o) P at_ key s fq ∧ Fr (rcBlks kb aoL aoP ++ fq) (rcBlks kb aoL' aoP ++ fq) w w'
section
variable {W w : World} {kb rb wd : Nat} {aoL aoP : Option Addr} {cL cP : Nat} {R : List Wk} {P : List Int} {at_ key : Nat} {s : CS} {fq : List Nat}
set_option maxRecDepth 100000 in
set_option maxHeartbeats 8000000 in
theorem RCAt.known (h : RCAt W w kb rb wd aoL aoP cL cP R P at_ key s fq) (hsm : R.length < 1000) (o : Int) :
    Calls Tryz.prog 39 #[.pointer (some ⟨kb, 0, none⟩), .int .i64 o] w (KnownTo W w kb rb wd aoL aoP cP R P at_ key s fq o) := by
  have HH := Lib.hid h
  obtain ⟨-, -, -, -, c4, -, -, -, -, lb⟩ := h.cells
  have z4 := h.blk.free 4
  obtain ⟨n, hn⟩ : ∃ n, R.length = n := ⟨_, rfl⟩
  rw [hn] at c4 hsm
  have HN := Lib.hid hn
  clear h hn
  go_enter Tryz.func39, Tryz.ntmps39
  go_wp2
  go_loopw [5] (fun iv wr => KnownAt R o w iv wr) (fun iv _ => R.length - (intOf iv).toNat)
  case atStart => exact ⟨0, rfl, by omega, fun j k hj => by omega, rfl⟩
  case round =>
    obtain ⟨i, rfl, hi, hj, rfl⟩ := hrel
    have HJ := Lib.hid hj
    rw [HN.out] at hi
    clear hj
    by_cases hlt : i < n
    · have t1 : decide (i < n) = true := by simp [hlt]
      have b1 : (i : Int) < (n : Int) := by omega
      obtain ⟨k, hk⟩ : ∃ k, R[i]? = some k := ⟨_, List.getElem?_eq_getElem (by rw [HN.out]; exact hlt)⟩
      obtain ⟨g, hg, -, x0, -⟩ := HH.out.woken hk
      subst hg
      obtain ⟨y, hy⟩ : ∃ y, k.obj = y := ⟨_, rfl⟩
      rw [hy] at x0
      have HY := Lib.hid hy
      have HK := Lib.hid hk
      clear hk hy
      by_cases he : y = o
      · have t2 : (y == o) = true := by simp [he]
        have hp : Hid (idxW R o = i ∧ i < R.length) := idxW_at HK.out (by rw [HY.out]; exact he) HJ.out
        clear he
        go_wp2
        go_ret
        exact ⟨by rw [hp.out.1]; rfl, _, _, by rw [knownR_in (by rw [hp.out.1]; exact hp.out.2)]; exact HH.out, Fr.refl _ _⟩
      · have t2 : (y == o) = false := by simp [he]
        have hne : Hid (y ≠ o) := he
        clear he
        go_wp2
        exact ⟨⟨i + 1, by congr 1, by rw [HN.out]; omega, fun j k' hj' hk' => by
          by_cases e : j = i
          · subst e
            have := HK.out
            rw [hk'] at this
            cases this
            rw [HY.out]; exact hne.out
          · exact HJ.out j k' (by omega) hk', rfl⟩, by have := HN.out; first | (simp [intOf]; done) | (simp [intOf]; omega)⟩
    · have t1 : decide (i < n) = false := by simp; omega
      have hin : i = n := by omega
      subst hin
      have hp : Hid (idxW R o = R.length) := idxW_no (by rw [HN.out]; exact HJ.out)
      obtain ⟨i0, hi0, hz0, hz1, hz2⟩ := info_parts infoWoken
      have HG : Hid (RowO (wr.alloc (.cells #[.int .i64 o, .int .i64 0, .int .i64 0, .int .u64 0, .int .u64 0, .int .u64 0] 93)) 93 6 aoL i cL (R.flatMap wkVs)) := by
        have := (HH.out.upd ((Upd.refl [] wr).alloc (.cells #[.int .i64 o, .int .i64 0, .int .i64 0, .int .u64 0, .int .u64 0, .int .u64 0] 93))).rowL
        rw [HN.out] at this; exact this
      have HNW : Hid (∀ j u, (wkVs (zWk o))[j]? = some u → (wr.alloc (.cells #[.int .i64 o, .int .i64 0, .int .i64 0, .int .u64 0, .int .u64 0, .int .u64 0] 93)).cell? ((⟨wr.heap.size, 0, none⟩ : Addr).add j) = some u) :=
        World.news_of_block (cs := #[.int .i64 o, .int .i64 0, .int .i64 0, .int .u64 0, .int .u64 0, .int .u64 0]) (t := 93) (fr := (0, 0)) (heap_alloc_new wr _)
      have HG6 : Hid (∀ u ∈ wkVs (zWk o), u.oneCell' = true) := by unfold Hid wkVs; simp [Value.oneCell']
      have HG7 : Hid (i + 1 ≤ maxLen) := by unfold Hid maxLen; omega
      have HG8 : Hid ((i + 1) * 48 ≤ 140737488355328) := by unfold Hid; omega
      have e1 : IntKind.i64.wrap ((i : Int) + 1 - 1) = (i : Int) := by rw [IntKind.wrap_i64]; omega
      have HNK : Hid (∀ x ∈ R, x.obj ≠ (zWk o).obj) := fun x hx => by
        obtain ⟨j, hj', e⟩ := List.getElem_of_mem hx
        exact HJ.out j x (by rw [← HN.out]; exact hj') (by rw [List.getElem?_eq_getElem hj', e])
      clear hlt hi
      go_wp2_with (at_builtin; (refine wpList_app _ rfl _ _ _ rfl 93 i0 _ 6 48 underlyingWokens hi0 hz0 hz1 hz2 rfl (by omega) aoL i cL (R.flatMap wkVs) rfl HG.out ⟨wr.heap.size, 0, none⟩ 1 1 (wkVs (zWk o)) rfl rfl HNW.out HG6.out HG7.out HG8.out ?_); (intro ao1 cap1 w3 hA; have k4 := ((hA.upd.cell (by simp; omega) HH.out.d1 4).trans ((((Upd.refl [] wr).alloc _).cell lb (by simp) 4))).trans c4; have f4 := ((hA.upd.frozen (by simp; omega) HH.out.d1 4).trans ((((Upd.refl [] wr).alloc _).frozen lb (by simp) 4))).trans z4; have HA := Lib.hid hA; clear hA))
      go_ret
      have hA := HA.out
      rw [← HN.out] at hA
      obtain ⟨h1, h2⟩ := HH.out.grow ((Upd.refl [] wr).alloc _) hA HNK.out (findW_app HNK.out) (by rw [HN.out]; exact hsm)
      rw [HN.out] at h1 h2
      exact ⟨by rw [hp.out, HN.out]; rfl, _, _, by rw [knownR_out hp.out]; exact h1, h2⟩
end
end Go.Proofs.YtolohheflbmfaaaGreatDoor

/-! Ci -/
namespace Go.Proofs.YtolohheflbmfaaaGreatDoor
open Go.RowKit
def finF (o : Int) (a : Nat) (k : Wk) : Nat := if k.obj = o then k.fin else a
def finTo (R : List Wk) (o : Int) (i : Nat) : Nat := (R.take i).foldl (finF o) 0
theorem finTo_zero (R : List Wk) (o : Int) : finTo R o 0 = 0 := rfl
theorem finTo_succ {R : List Wk} {o : Int} {i : Nat} {k : Wk} (hk : R[i]? = some k) : finTo R o (i + 1) = finF o (finTo R o i) k := by
  unfold finTo
  rw [List.take_add_one, hk, List.foldl_append]
  rfl
theorem fin_none {o : Int} : ∀ (R : List Wk) (a : Nat), (∀ k ∈ R, k.obj ≠ o) → R.foldl (finF o) a = a
  | [], _, _ => rfl
  | k :: R, a, h => by
    rw [List.foldl_cons, show finF o a k = a by unfold finF; rw [if_neg (h k (by simp))]]
    exact fin_none R a (fun x hx => h x (by simp [hx]))
theorem fin_all {o : Int} : ∀ (R : List Wk), (R.map (·.obj)).Nodup → R.foldl (finF o) 0 = (thW R o).finish
  | [], _ => rfl
  | k :: R, h => by
    rw [List.map_cons, List.nodup_cons] at h
    rw [List.foldl_cons]
    by_cases e : k.obj = o
    · have hn : ∀ x ∈ R, x.obj ≠ o := fun x hx hxo => h.1 (List.mem_map.2 ⟨x, hx, by rw [hxo, e]⟩)
      rw [fin_none R _ hn]
      simp [finF, thW, findW, e, wkTh]
    · rw [show finF o 0 k = 0 by unfold finF; rw [if_neg e], fin_all R h.2]
      simp [thW, findW, e]
theorem finTo_all {R : List Wk} {o : Int} (h : (R.map (·.obj)).Nodup) : finTo R o R.length = (thW R o).finish := by unfold finTo; rw [List.take_length]; exact fin_all R h
def RWakeAt (R : List Wk) (o : Int) (w : World) (kv iv : Value) (wr : World) : Prop := ∃ i : Nat, iv = .int .i64 i ∧ kv = .int .u64 (finTo R o i) ∧ i ≤ R.length ∧ wr = w

/-- An object's flow, most and r anew. -/
def setW (R : List Wk) (i : Nat) (flow most : Int) (r : Nat) : List Wk := match R[i]? with
  | some k => R.set i { k with flow := flow, most := most, r := r }
  | none => R

/-- A deed on the queue. -/
theorem RCAt.queue {W w : World} {kb rb wd : Nat} {aoL aoP : Option Addr} {cL cP : Nat} {R : List Wk} {P : List Int} {at_ key : Nat} {s : CS} {fq : List Nat} (h : RCAt W w kb rb wd aoL aoP cL cP R P at_ key s fq) {M' : List Sh} (L' : List It) {w' : World} (k : RQTo W rb wd M' fq w w') :
    ∃ fq', RCAt W w' kb rb wd aoL aoP cL cP R P at_ key { s with M := M', L := L' } fq' ∧ Fr (rcBlks kb aoL aoP ++ fq) (rcBlks kb aoL aoP ++ fq') w w' := by
  obtain ⟨fq', k1, k2⟩ := k
  have hl := h.ltB
  refine ⟨fq', { h with
    blk := h.blk.upd k2.2 (h.far kb (by simp))
    rowL := h.rowL.upd k2.2 (fun c hc => h.far c (by simp [hc]))
    rowP := h.rowP.upd k2.2 (fun c hc => h.far c (by simp [hc]))
    q := k1
    far := fun c hc => k2.far (hl c hc) (h.far c hc) }, fun c hc => ?_, k2.2.mono (fun c _ hc => by simp [hc])⟩
  rcases List.mem_append.1 hc with hc | hc
  · exact .inl (by simp [hc])
  · rcases k2.1 c hc with h | h
    · exact .inl (by simp [h])
    · exact .inr h
theorem knownR_at (R : List Wk) (o : Int) : ∃ k, (knownR R o)[idxW R o]? = some k ∧ k.obj = o := by
  unfold knownR
  split
  · rename_i h
    have h' : R.findIdx (fun k => k.obj == o) < R.length := h
    refine ⟨R[R.findIdx (fun k => k.obj == o)]'h', by unfold idxW; exact List.getElem?_eq_getElem h', ?_⟩
    have := List.findIdx_getElem (p := fun k : Wk => k.obj == o) (w := h')
    simpa using this
  · rename_i h
    have e : idxW R o = R.length := Nat.le_antisymm List.findIdx_le_length (by omega)
    exact ⟨zWk o, by rw [e]; simp, rfl⟩
theorem knownR_len (R : List Wk) (o : Int) : R.length ≤ (knownR R o).length ∧ (knownR R o).length ≤ R.length + 1 := by
  unfold knownR; split
  · omega
  · simp
theorem thW_set : ∀ (R : List Wk) (i : Nat) (k k' : Wk), (R.map (·.obj)).Nodup → R[i]? = some k → k'.obj = k.obj → ∀ o, thW (R.set i k') o = updI (thW R) k.obj (wkTh k') o
  | [], i, k, k', _, hk, _, o => by simp at hk
  | a :: R, 0, k, k', _, hk, he, o => by
    simp only [List.getElem?_cons_zero, Option.some.injEq] at hk
    subst hk
    simp only [List.set_cons_zero, thW, findW, List.find?_cons, updI, he]
    by_cases e : o = a.obj
    · subst e; simp
    · have e' : (a.obj == o) = false := by simp; exact fun h => e h.symm
      rw [e', if_neg e]
  | a :: R, i + 1, k, k', hn, hk, he, o => by
    rw [List.map_cons, List.nodup_cons] at hn
    simp only [List.getElem?_cons_succ] at hk
    have ih := thW_set R i k k' hn.2 hk he o
    have hm : k.obj ∈ R.map (·.obj) := List.mem_map.2 ⟨k, List.mem_of_getElem? hk, rfl⟩
    simp only [List.set_cons_succ, thW, findW, List.find?_cons, updI] at ih ⊢
    by_cases e : a.obj = o
    · have e1 : (a.obj == o) = true := by simp [e]
      have e2 : o ≠ k.obj := fun h => hn.1 (by rw [e, h]; exact hm)
      rw [e1, if_neg e2]
    · have e1 : (a.obj == o) = false := by simp [e]
      rw [e1]
      exact ih

/-- One object anew. -/
theorem RCAt.setK {W w w' : World} {kb rb wd : Nat} {aoL aoP : Option Addr} {cL cP : Nat} {R : List Wk} {P : List Int} {at_ key : Nat} {s : CS} {fq : List Nat} (h : RCAt W w kb rb wd aoL aoP cL cP R P at_ key s fq) {i : Nat} {k k' : Wk} (hk : R[i]? = some k) (ho : k'.obj = k.obj)
    (hu : Upd (blkO aoL) w w') (hr : RowO w' 93 6 aoL R.length cL ((R.set i k').flatMap wkVs)) :
    RCAt W w' kb rb wd aoL aoP cL cP (R.set i k') P at_ key { s with th := updI s.th k.obj (wkTh k') } fq :=
  { h with
    blk := by rw [List.length_set]; exact h.blk.upd hu h.d1
    rowL := by rw [List.length_set]; exact hr
    rowP := h.rowP.upd hu (fun c hc hm => h.d3 c hm hc)
    q := h.q.updS hu (fun c hc hm => h.far c (by simp [hm]) hc)
    nd := by
      have : (R.set i k').map (·.obj) = R.map (·.obj) := by
        apply List.ext_getElem?
        intro j
        rw [List.getElem?_map, List.getElem?_map, List.getElem?_set]
        by_cases e : i = j
        · subst e
          rw [if_pos rfl, hk]
          have := (List.getElem?_eq_some_iff.1 hk).1
          simp [this, ho]
        · rw [if_neg e]
      rw [this]; exact h.nd
    th := fun o => by
      rw [thW_set R i k k' h.nd hk ho o]
      simp only [updI]
      split
      · rfl
      · exact h.th o
    pk := fun hi => by
      obtain ⟨h1, k2, h2, h3⟩ := h.pk hi
      refine ⟨h1, ?_⟩
      rw [List.getElem?_set]
      by_cases e : i = at_
      · subst e
        rw [hk] at h2
        cases h2
        have := (List.getElem?_eq_some_iff.1 hk).1
        exact ⟨k', by simp [this], ho.trans h3⟩
      · rw [if_neg e]; exact ⟨k2, h2, h3⟩
    lenL := by rw [List.length_set]; exact h.lenL }
theorem woken_set {R : List Wk} {i : Nat} {k : Wk} (hk : R[i]? = some k) (flow most : Int) (r : Nat) :
    (((R.flatMap wkVs).set (i * 6 + 1) (.int .i64 flow)).set (i * 6 + 2) (.int .i64 most)).set (i * 6 + 3) (.int .u64 r) = (R.set i { k with flow := flow, most := most, r := r }).flatMap wkVs := by
  have hl := (List.getElem?_eq_some_iff.1 hk).1
  rw [flat_set wkVs 6 wkVs_len R i k { k with flow := flow } hk 1 _ (by omega) rfl,
    flat_set wkVs 6 wkVs_len _ i { k with flow := flow } { k with flow := flow, most := most } (by simp [hl]) 2 _ (by omega) rfl,
    flat_set wkVs 6 wkVs_len _ i { k with flow := flow, most := most } { k with flow := flow, most := most, r := r } (by simp [hl]) 3 _ (by omega) rfl]
  simp
theorem thW_at {R : List Wk} {i : Nat} {k : Wk} (hn : (R.map (·.obj)).Nodup) (hk : R[i]? = some k) : thW R k.obj = wkTh k := by
  have h := thW_set R i k k hn hk rfl k.obj
  have e : R.set i k = R := by
    apply List.ext_getElem?
    intro j
    rw [List.getElem?_set]
    by_cases e : i = j
    · subst e
      rw [if_pos rfl, hk]
      simp [(List.getElem?_eq_some_iff.1 hk).1]
    · rw [if_neg e]
  rw [e] at h
  simpa [updI] using h
section
variable {W w : World} {kb rb wd : Nat} {aoL aoP : Option Addr} {cL cP : Nat} {R : List Wk} {P : List Int} {at_ key : Nat} {s : CS} {fq : List Nat}
set_option maxRecDepth 100000 in
set_option maxHeartbeats 16000000 in
theorem RCAt.wake {n : Nat} (h : RCAt W w kb rb wd aoL aoP cL cP R P at_ key s fq) (hci : CI s n) (hn : n < 900) (hRn : R.length ≤ n) (hPn : P.length ≤ 2 * n) (obj flow most : Int) (r : Nat) (hr : r < 18446744073709551616) :
    Calls Tryz.prog 18 #[.pointer (some ⟨kb, 0, none⟩), .int .i64 obj, .agg #[.int .i64 flow, .int .i64 most, .int .u64 r]] w (fun e w' => e = .returned (.bool (wakeB s obj flow)) ∧ RG16To W kb wd (n + 1) (wakeC s obj flow r) (rcBlks kb aoL aoP ++ fq) w w') := by
  have hR : R.length < 1000 := by omega
  have hP : P.length < 1998 := by omega
  have HRN : Hid (R.length ≤ n ∧ P.length ≤ 2 * n) := ⟨hRn, hPn⟩
  clear hRn hPn
  have HH := Lib.hid h
  obtain ⟨c0, c1, c2, c3, c4, c5, c6, c7, c8, lb⟩ := h.cells
  obtain ⟨k, hk⟩ : ∃ k, wakeK s obj = k := ⟨_, rfl⟩
  have hk64 := hci.wakeK obj
  rw [hk] at hk64
  obtain ⟨b, hb⟩ : ∃ b, wakeB s obj flow = b := ⟨_, rfl⟩
  have htk : takeQ s.M k flow = b := by rw [← hb]; unfold wakeB; rw [hk]
  have HP : Hid (∀ w', Upd [] w w' → Calls Tryz.prog 38 #[.pointer (some ⟨rb, 0, none⟩), .agg #[.int .u64 k, .int .i64 flow]] w' (fun e w'' => e = .returned (.bool b) ∧ RQTo W rb wd (pushM s.M k flow) fq w' w'')) := fun w' hu => by
    have := (h.q.upd hu).push hci.ok k hk64 flow (by have := hci.len; omega)
    rw [htk] at this; exact this
  have hfin : (thW R obj).finish = (s.th obj).finish := by rw [h.th obj]
  have hmx : Max.max (s.v : Int) ((thW R obj).finish : Int) = (k : Int) := by
    rw [hfin, ← hk]; unfold wakeK; omega
  have HFA : Hid (finTo R obj R.length = (thW R obj).finish) := finTo_all h.nd
  have HB := Lib.hid hb
  have HK := Lib.hid hk
  obtain ⟨n1, hn1⟩ : ∃ n, R.length = n := ⟨_, rfl⟩
  rw [hn1] at c4 hR HFA
  have HN := Lib.hid hn1
  rw [hb]
  clear h hci hk hb htk hfin hn1
  go_enter Tryz.func18, Tryz.ntmps18
  go_wp2
  go_loopw [7, 8] (fun kv iv wr => RWakeAt R obj (w.alloc (.cells #[.int .i64 flow, .int .i64 most, .int .u64 r] 35)) kv iv wr) (fun _ iv _ => R.length - (intOf iv).toNat)
  case atStart => exact ⟨0, rfl, rfl, by omega, rfl⟩
  case round =>
    obtain ⟨i, rfl, rfl, hi, rfl⟩ := hrel
    rw [HN.out] at hi
    by_cases hlt : i < n1
    · have t1 : decide (i < n1) = true := by simp [hlt]
      have b1 : (i : Int) < (n1 : Int) := by omega
      obtain ⟨k', hk'⟩ : ∃ k, R[i]? = some k := ⟨_, List.getElem?_eq_getElem (by rw [HN.out]; exact hlt)⟩
      have hU1 : Upd [] w (w.alloc (.cells #[.int .i64 flow, .int .i64 most, .int .u64 r] 35)) := (Upd.refl [] w).alloc _
      obtain ⟨g, hg, -, x0, -, -, -, x4, -⟩ := (HH.out.upd hU1).woken hk'
      subst hg
      obtain ⟨y, hy⟩ : ∃ y, k'.obj = y := ⟨_, rfl⟩
      rw [hy] at x0
      have hgt : g < w.heap.size := HH.out.ltB g (by simp [rcBlks, blkO])
      have HY := Lib.hid hy
      have HK' := Lib.hid hk'
      obtain ⟨f, hf⟩ : ∃ f, finTo R obj i = f := ⟨_, rfl⟩
      rw [hf]
      have HFI := Lib.hid hf
      clear hk' hy hf hU1
      by_cases he : y = obj
      · have t2 : (y == obj) = true := by simp [he]
        have hne : Hid (finTo R obj (i + 1) = k'.fin) := by unfold Hid; rw [finTo_succ HK'.out]; unfold finF; rw [if_pos (HY.out.trans he)]
        clear he
        go_wp2
        exact ⟨⟨i + 1, by congr 1, by rw [hne.out], by rw [HN.out]; omega, rfl⟩, by have := HN.out; first | (simp [intOf]; done) | (simp [intOf]; omega)⟩
      · have t2 : (y == obj) = false := by simp [he]
        have hne : Hid (finTo R obj (i + 1) = f) := by unfold Hid; rw [finTo_succ HK'.out]; unfold finF; rw [if_neg (by rw [HY.out]; exact he), HFI.out]
        clear he
        go_wp2
        exact ⟨⟨i + 1, by congr 1, by rw [hne.out], by rw [HN.out]; omega, rfl⟩, by have := HN.out; first | (simp [intOf]; done) | (simp [intOf]; omega)⟩
    · have t1 : decide (i < n1) = false := by simp; omega
      have hin : i = n1 := by omega
      subst hin
      rw [HFA.out]
      go_wp2_with fail
      refine wp_region_tail 13 (by kernel_rfl) (by kernel_rfl) ?_
      simp only [List.take_succ_cons, List.take_zero, List.drop_succ_cons, List.drop_zero]
      repeat (go_big_quiet_step (fail))
      refine wpQuiet_nil ?_
      go_wp2_with fail
      refine (HP.out _ ((Upd.refl [] w).alloc _).drew).mono ?_
      rintro e w2 ⟨rfl, h2⟩
      have hU1 : Upd [] w (w.alloc (.cells #[.int .i64 flow, .int .i64 most, .int .u64 r] 35)).drew := ((Upd.refl [] w).alloc _).drew
      obtain ⟨fq2, g2, f2⟩ := (HH.out.upd hU1).queue (pushL s.M s.L k flow) h2
      have F2 := Lib.hid ((Fr.of hU1).trans f2)
      have hob : w.heap.size ∉ rcBlks kb aoL aoP ++ fq := fun e => absurd (HH.out.lt _ e) (by omega)
      have B2 := Lib.hid (((Blk.new w 35 [.int .i64 flow, .int .i64 most, .int .u64 r]).upd (Upd.refl [] _).drew (by simp)).upd f2.2 hob)
      have HOB := Lib.hid (f2.far (by simp) hob)
      have G2 := Lib.hid g2
      clear h2 g2 f2 hU1 hob
      cases b with
      | false =>
        go_wp2
        go_ret
        obtain ⟨j1, j2, j3⟩ := wakeC_false (r := r) HB.out HK.out
        rw [j1]
        refine ⟨rfl, _, ⟨rb, aoL, aoP, cL, cP, R, P, at_, key, fq2, ?_, rfl, by have := HRN.out; omega, by have := HRN.out; omega⟩, F2.out⟩
        have := G2.out
        rw [j2, j3] at this
        exact this
      | true =>
        go_wp2_with fail
        refine (G2.out.known (by rw [HN.out]; exact hR) obj).mono ?_
        rintro e w3 ⟨rfl, ao3, cL3, g3, f3⟩
        have F3 := Lib.hid (F2.out.trans f3)
        have hB3 := B2.out.upd f3.2 HOB.out
        have HOB3 := Lib.hid (f3.far B2.out.lt HOB.out)
        obtain ⟨k2, hk2, ho2⟩ := knownR_at R obj
        have hl3 := knownR_len R obj
        obtain ⟨R3, hR3⟩ : ∃ x, knownR R obj = x := ⟨_, rfl⟩
        obtain ⟨i3, hi3⟩ : ∃ x, idxW R obj = x := ⟨_, rfl⟩
        rw [hR3] at g3 hk2 hl3
        rw [hi3] at hk2 ⊢
        have hi3l : i3 < R3.length := (List.getElem?_eq_some_iff.1 hk2).1
        obtain ⟨g, hg, hrow, x0, x1, x2, x3, -⟩ := g3.woken hk2
        subst hg
        obtain ⟨-, -, -, -, d4, d5, -, -, -, ld⟩ := g3.cells
        obtain ⟨n3, hn3⟩ : ∃ x, R3.length = x := ⟨_, rfl⟩
        rw [hn3] at d4 hi3l hl3
        rw [HN.out] at hl3
        have y1 := hrow.free (i3 * 6 + 1)
        have y2 := hrow.free (i3 * 6 + 2)
        have y3 := hrow.free (i3 * 6 + 3)
        have q0 := hB3.cell (j := 0) rfl
        have q1 := hB3.cell (j := 1) rfl
        have q2 := hB3.cell (j := 2) rfl
        have b3 : (i3 : Int) < (n3 : Int) := by omega
        have HL3 := Lib.hid hl3
        have HN3 := Lib.hid hn3
        have HK2 := Lib.hid hk2
        have HO2 := Lib.hid ho2
        have HRW := Lib.hid hrow
        have G3 := Lib.hid g3
        have HB3 := Lib.hid hB3
        clear g3 f3 hB3 hk2 ho2 hl3 hR3 hi3 hrow hn3 hi hlt hi3l
        clear c0 c1 c2 c3 c4 c5 c6 c7 c8 hmx
        go_wp2_with fail
        go_region
        all_goals
          go_wp2_with fail
          obtain ⟨w4, hw4⟩ : ∃ x, (((w3.setCell ⟨g, i3 * 6 + 1, none⟩ (.int .i64 flow)).setCell ⟨g, i3 * 6 + 1 + 1, none⟩ (.int .i64 most)).setCell ⟨g, i3 * 6 + 1 + 2, none⟩ (.int .u64 r)).drew = x := ⟨_, rfl⟩
          rw [hw4]
          have hU4 : Upd (blkO (some ⟨g, 0, none⟩)) w3 w4 := by rw [← hw4]; exact ((((Upd.refl _ w3).setCell (.inl (by simp [blkO])) _).setCell (.inl (by simp [blkO])) _).setCell (.inl (by simp [blkO])) _).drew
          have g4 := G3.out.setK HK2.out (k' := { k2 with flow := flow, most := most, r := r }) rfl hU4 (by
            rw [← hw4, ← woken_set HK2.out flow most r]
            exact ((((HRW.out.set (i3 * 6 + 1) (.int .i64 flow)).set (i3 * 6 + 1 + 1) (.int .i64 most)).set (i3 * 6 + 1 + 2) (.int .u64 r)).drew).o)
          have G4 := Lib.hid g4
          have HU4 := Lib.hid hU4
          clear g4 hU4 hw4 x0 x1 x2 x3 y1 y2 y3 q0 q1 q2 d4 d5
          have hU4' := HU4.out
          have hgo : w.heap.size ∉ blkO (some (⟨g, 0, none⟩ : Addr)) := fun e => HOB3.out (by simp only [rcBlks, List.mem_append, List.mem_cons]; exact .inl (.inr (.inl e)))
          have hB4 := HB3.out.upd hU4' hgo
          have q0 := hB4.cell (j := 0) rfl
          obtain ⟨-, -, -, -, -, d5, -, -, -, ld4⟩ := G4.out.cells
          have z5 := G4.out.blk.free 5
          obtain ⟨i0, hi0, hz0, hz1, hz2⟩ := info_parts infoInt5
          have uA : Upd [] w4 (w4.alloc (.cells #[.int .i64 flow, .int .i64 obj] 3)).drew := ((Upd.refl [] w4).alloc _).drew
          have HROW := Lib.hid ((G4.out.upd uA).rowP)
          have HSRC : Hid (Src (w4.alloc (.cells #[.int .i64 flow, .int .i64 obj] 3)).drew 1 (some ⟨w4.heap.size, 0, none⟩) 2 [.int .i64 flow, .int .i64 obj]) :=
            ⟨rfl, by simp [Value.oneCell'], .inr ⟨_, rfl, World.news_of_block (cs := #[.int .i64 flow, .int .i64 obj]) (t := 3) (fr := (0, 0)) (heap_alloc_new w4 _)⟩⟩
          have HG7 : Hid (P.length + 2 ≤ maxLen) := by unfold Hid maxLen; omega
          have HG8 : Hid ((P.length + 2) * 8 ≤ 140737488355328) := by unfold Hid; omega
          have HUA := Lib.hid uA
          clear hU4' hgo hB4 uA
          go_region_law (refine step_app2 _ (by rfl) _ _ _ (by rfl) 3 i0 _ 1 8 underlyingInts5 hi0 hz0 hz1 hz2 rfl Nat.one_pos aoP P.length cP (P.map (Value.int .i64)) (by rfl) HROW.out (some ⟨w4.heap.size, 0, none⟩) 2 2 [.int .i64 flow, .int .i64 obj] (by rfl) HSRC.out HG7.out HG8.out ?_; intro ao5 cap5 w5 hA; have c5 := ((hA.upd.cell (Nat.lt_of_lt_of_le ld4 HUA.out.size) G4.out.d2 5).trans (HUA.out.cell ld4 (by simp) 5)).trans d5; have f5 := ((hA.upd.frozen (Nat.lt_of_lt_of_le ld4 HUA.out.size) G4.out.d2 5).trans (HUA.out.frozen ld4 (by simp) 5)).trans z5; have HA := Lib.hid hA; clear hA)
          all_goals
            go_wp2_with fail
            go_ret
            obtain ⟨h1, h2⟩ := G4.out.growP HUA.out HA.out hP
            have hth : s.th obj = wkTh k2 := by
              have h3 := G3.out.th obj
              rw [← HO2.out, thW_at G3.out.nd HK2.out, HO2.out] at h3
              exact h3
            rw [wakeC_true HB.out HK.out hth]
            rw [HO2.out] at h1
            exact ⟨rfl, _, ⟨rb, _, _, _, _, _, _, at_, key, fq2, h1, rfl, by rw [List.length_set, HN3.out]; have := HRN.out; have := HL3.out; have := HN.out; omega, by rw [List.length_append]; have := HRN.out; simp only [List.length_cons, List.length_nil]; omega⟩, (F3.out.trans ⟨fun c hc => .inl hc, HU4.out.mono (fun c _ hc => by simp [rcBlks, hc])⟩).trans h2⟩
end
end Go.Proofs.YtolohheflbmfaaaGreatDoor

/-! Cj -/
namespace Go.Proofs.YtolohheflbmfaaaGreatDoor
open Go.RowKit
theorem woken_set2 {R : List Wk} {i : Nat} {k : Wk} (hk : R[i]? = some k) (fin place : Nat) :
    ((R.flatMap wkVs).set (i * 6 + 4) (.int .u64 fin)).set (i * 6 + 5) (.int .u64 place) = (R.set i { k with fin := fin, place := place }).flatMap wkVs := by
  have hl := (List.getElem?_eq_some_iff.1 hk).1
  rw [flat_set wkVs 6 wkVs_len R i k { k with fin := fin } hk 4 _ (by omega) rfl,
    flat_set wkVs 6 wkVs_len _ i { k with fin := fin } { k with fin := fin, place := place } (by simp [hl]) 5 _ (by omega) rfl]
  simp
section
variable {W w : World} {kb rb wd : Nat} {aoL aoP : Option Addr} {cL cP : Nat} {R : List Wk} {P : List Int} {at_ key : Nat} {s : CS} {fq : List Nat}
/-- The block anew. -/
theorem RCAt.reblk (h : RCAt W w kb rb wd aoL aoP cL cP R P at_ key s fq) {w' : World} (hu : Upd [kb] w w') (v most served : Nat) (is : Bool) (obj : Int) (key' at2 key2 : Nat)
    (hb : Blk w' kb 91 [.pointer (some ⟨rb, 0, none⟩), .int .u64 v, .int .u64 most, .int .i64 served, .slice aoL R.length cL, .slice aoP P.length cP, .bool is, .int .i64 at2, .int .u64 key2])
    (hpk : is = true → key2 = key' ∧ ∃ k, R[at2]? = some k ∧ k.obj = obj) :
    RCAt W w' kb rb wd aoL aoP cL cP R P at2 key2 { s with v := v, most := most, served := served, is := is, obj := obj, key := key' } fq :=
  { h with
    blk := hb
    rowL := h.rowL.upd hu (fun c hc e => by simp only [List.mem_cons, List.not_mem_nil, or_false] at e; exact h.d1 (e ▸ hc))
    rowP := h.rowP.upd hu (fun c hc e => by simp only [List.mem_cons, List.not_mem_nil, or_false] at e; exact h.d2 (e ▸ hc))
    q := h.q.updS hu (fun c hc e => by simp only [List.mem_cons, List.not_mem_nil, or_false] at e; exact h.far kb (by simp) (e ▸ hc))
    pk := hpk }

set_option maxRecDepth 100000 in
set_option maxHeartbeats 16000000 in
theorem RCAt.done {n : Nat} (h : RCAt W w kb rb wd aoL aoP cL cP R P at_ key s fq) (hci : CI s n) (hn : n < 900) (hRn : R.length ≤ n) (hPn : P.length ≤ 2 * n) (size : Int) (hs : size < 9223372036854775808) (more : Bool) :
    Calls Tryz.prog 21 #[.pointer (some ⟨kb, 0, none⟩), .int .i64 size, .bool more] w (fun e w' => e = .returned (.bool s.is) ∧ RG16To W kb wd (n + 1) (doneC s size more) (rcBlks kb aoL aoP ++ fq) w w') := by
  have HRN : Hid (R.length ≤ n + 1 ∧ P.length ≤ 2 * (n + 1)) := ⟨by omega, by omega⟩
  clear hRn hPn
  have HH := Lib.hid h
  obtain ⟨c0, c1, c2, c3, c4, c5, c6, c7, c8, lb⟩ := h.cells
  cases his : s.is with
  | false =>
    have HN : Hid (doneC s size more = s) := by unfold Hid doneC; rw [if_neg (by simp [his])]
    rw [HN.out]
    rw [his] at c6
    clear h hci
    go_enter Tryz.func21, Tryz.ntmps21
    go_wp2_with fail
    go_ret
    exact ⟨rfl, _, ⟨rb, aoL, aoP, cL, cP, R, P, at_, key, fq, HH.out, rfl, HRN.out⟩, Fr.refl _ _⟩
  | true =>
    rw [his] at c6
    obtain ⟨hkey, k2, hk2, ho2⟩ := h.pk his
    obtain ⟨g, hg, hrow, x0, x1, x2, x3, x4, x5⟩ := h.woken hk2
    subst hg
    have hth : s.th s.obj = wkTh k2 := by
      have h3 := h.th k2.obj
      rw [thW_at h.nd hk2] at h3
      rw [← ho2]; exact h3
    obtain ⟨c, hc⟩ : ∃ c, mulT (sizeN size) k2.r = c := ⟨_, rfl⟩
    obtain ⟨fin, hfin⟩ : ∃ f, addT key c = f := ⟨_, rfl⟩
    have HC : Hid (∀ w, Calls Tryz.prog 42 #[.int .i64 size, .int .u64 k2.r] w (fun e w' => e = .returned (.int .u64 c) ∧ w = w')) := fun w => by rw [← hc]; exact rfcost size hs k2.r (by have := hci.r64 s.obj; rw [hth] at this; exact this) w
    have HA : Hid (∀ w, Calls Tryz.prog 41 #[.int .u64 key, .int .u64 c] w (fun e w' => e = .returned (.int .u64 fin) ∧ w = w')) := fun w => by rw [← hfin]; exact rfadd key c (by rw [hkey]; exact hci.k64) (by rw [← hc]; exact mulT_lt _ _) w
    obtain ⟨p1, hp1⟩ : ∃ p, k2.place + 1 = p := ⟨_, rfl⟩
    obtain ⟨sv, hsv⟩ : ∃ p, s.served + 1 = p := ⟨_, rfl⟩
    obtain ⟨mx, hmx⟩ : ∃ p, Max.max s.most fin = p := ⟨_, rfl⟩
    have hwp : IntKind.u64.wrap ((k2.place : Int) + 1) = (p1 : Int) := by
      have := hci.place s.obj; rw [hth] at this; simp only [wkTh] at this; rw [IntKind.wrap_u64]; omega
    have hws : IntKind.i64.wrap ((s.served : Int) + 1) = (sv : Int) := by
      have := hci.srv; rw [IntKind.wrap_i64]; omega
    have hmax : Max.max (s.most : Int) (fin : Int) = (mx : Int) := by omega
    have HDN : Hid (doneC s size more = { s with is := false, obj := 0, key := 0, th := updI s.th s.obj ⟨k2.flow, k2.r, fin, p1⟩, most := mx, served := sv, M := if more = true then pushM s.M fin k2.flow else s.M, L := if more = true then pushL s.M s.L fin k2.flow else s.L }) := by
      unfold Hid; rw [← hmx, ← hsv]; exact doneC_true more his rfl rfl hth hc (by rw [← hkey]; exact hfin) hp1
    have HLN : Hid (s.L.length < 1000) := by unfold Hid; have := hci.len; omega
    have HF64 : Hid (fin < 18446744073709551616) := by unfold Hid; rw [← hfin]; exact addT_lt _ _
    have HQK := Lib.hid hci.ok
    have HK2 := Lib.hid hk2
    have HO2 := Lib.hid ho2
    have HRW := Lib.hid hrow
    have y4 := hrow.free (at_ * 6 + 4)
    have y5 := hrow.free (at_ * 6 + 5)
    have z2 := h.blk.free 2
    have z3 := h.blk.free 3
    have z6 := h.blk.free 6
    have hal : at_ < R.length := (List.getElem?_eq_some_iff.1 hk2).1
    obtain ⟨n3, hn3⟩ : ∃ x, R.length = x := ⟨_, rfl⟩
    rw [hn3] at c4 hal
    have b3 : (at_ : Int) < (n3 : Int) := by omega
    have hl3 : n3 ≤ 1000 := by rw [← hn3]; exact h.lenL
    clear h hci hkey hk2 ho2 hth hc hfin hp1 hsv hmx hrow hn3
    go_enter Tryz.func21, Tryz.ntmps21
    go_wp2_with fail
    go_region
    go_wp2_with fail
    refine wp_region_tail 15 (by kernel_rfl) (by kernel_rfl) ?_
    simp only [List.take_succ_cons, List.take_zero, List.drop_succ_cons, List.drop_zero]
    repeat (go_big_quiet_step (first | (exact ((HC.out _).mono (fun _ _ h => ⟨h.1, h.2.symm⟩)) _) | (exact ((HA.out _).mono (fun _ _ h => ⟨h.1, h.2.symm⟩)) _)))
    refine wpQuiet_nil ?_
    go_wp2_with fail
    obtain ⟨w2, hw2⟩ : ∃ x, ((w.setCell ⟨g, at_ * 6 + 4, none⟩ (.int .u64 fin)).setCell ⟨g, at_ * 6 + 5, none⟩ (.int .u64 p1)).drew.drew = x := ⟨_, rfl⟩
    rw [hw2]
    have hU2 : Upd (blkO (some ⟨g, 0, none⟩)) w w2 := by rw [← hw2]; exact (((Upd.refl _ w).setCell (.inl (by simp [blkO])) _).setCell (.inl (by simp [blkO])) _).drew.drew
    have g2 := HH.out.setK HK2.out (k' := { k2 with fin := fin, place := p1 }) rfl hU2 (by
      rw [← hw2, ← woken_set2 HK2.out fin p1]
      exact (((HRW.out.set (at_ * 6 + 4) (.int .u64 fin)).set (at_ * 6 + 5) (.int .u64 p1)).drew.drew).o)
    have hkk : (R.set at_ { k2 with fin := fin, place := p1 })[at_]? = some { k2 with fin := fin, place := p1 } := by
      rw [List.getElem?_set, if_pos rfl]; simp [(List.getElem?_eq_some_iff.1 HK2.out).1]
    obtain ⟨g', hg', -, v0, v1, -, -, v4, -⟩ := g2.woken hkk
    cases hg'
    have G2 := Lib.hid g2
    have HU2 := Lib.hid hU2
    obtain ⟨d0, d1, d2, d3, d4, d5, d6, d7, d8, ld⟩ := g2.cells
    have z2 := g2.blk.free 2
    have z3 := g2.blk.free 3
    have z6 := g2.blk.free 6
    clear g2 hU2 hw2 hkk c0 c1 c2 c3 c4 c5 c6 c7 c8 x0 x1 x2 x3 x4 x5 y4 y5
    go_region
    all_goals
      obtain ⟨w3, hw3⟩ : ∃ x, (((w2.setCell ⟨kb, 2, none⟩ (.int .u64 mx)).setCell ⟨kb, 3, none⟩ (.int .i64 sv)).setCell ⟨kb, 6, none⟩ (.bool false)).drew = x := ⟨_, rfl⟩
      have hU3 : Upd [kb] w2 w3 := by rw [← hw3]; exact ((((Upd.refl [kb] w2).setCell (.inl (by simp)) _).setCell (.inl (by simp)) _).setCell (.inl (by simp)) _).drew
      have g3 := G2.out.reblk hU3 s.v mx sv false 0 0 at_ key (by rw [← hw3]; exact (((G2.out.blk.set 2 (.int .u64 mx)).set 3 (.int .i64 sv)).set 6 (.bool false)).upd (Upd.refl [] _).drew (by simp)) (fun h => (by cases h))
      have hFr : Fr (rcBlks kb (some ⟨g, 0, none⟩) aoP ++ fq) (rcBlks kb (some ⟨g, 0, none⟩) aoP ++ fq) w w3 := ⟨fun c hc => .inl hc, (HU2.out.mono (fun c _ hc => by simp [rcBlks, hc])).trans (hU3.mono (fun c _ hc => by simp only [List.mem_cons, List.not_mem_nil, or_false] at hc; simp [rcBlks, hc]))⟩
      rw [HO2.out] at g3
      have HFr := Lib.hid hFr
      have G3 := Lib.hid g3
      clear hU3 g3 hFr
      cases more with
      | false =>
        go_wp2_with fail
        try rw [hw3]
        go_ret
        rw [HDN.out]
        exact ⟨rfl, _, ⟨rb, _, _, _, _, _, _, at_, key, fq, G3.out, rfl, by rw [List.length_set]; exact HRN.out⟩, HFr.out⟩
      | true =>
        go_wp2_with fail
        try rw [hw3]
        clear hw3 d0 d1 d2 d3 d4 d5 d6 d7 d8 z2 z3 z6 v0 v1 v4
        have hkk : (R.set at_ ⟨s.obj, k2.flow, k2.most, k2.r, fin, p1⟩)[at_]? = some ⟨s.obj, k2.flow, k2.most, k2.r, fin, p1⟩ := by
          rw [List.getElem?_set, if_pos rfl]; simp [(List.getElem?_eq_some_iff.1 HK2.out).1]
        obtain ⟨g', hg', -, v0, v1, -, -, v4, -⟩ := G3.out.woken hkk
        cases hg'
        obtain ⟨d0, -, -, -, -, -, -, -, -, ld3⟩ := G3.out.cells
        have HP := Lib.hid ((G3.out.upd (Upd.refl [] w3).drew).q.push (L := s.L) HQK.out fin HF64.out k2.flow HLN.out)
        clear hkk
        refine wp_region_tail 14 (by kernel_rfl) (by kernel_rfl) ?_
        simp only [List.take_succ_cons, List.take_zero, List.drop_succ_cons, List.drop_zero]
        repeat (go_big_quiet_step (fail))
        refine wpQuiet_nil ?_
        go_wp2_with fail
        refine HP.out.mono ?_
        rintro e w7 ⟨rfl, h7⟩
        obtain ⟨fq7, g7, f7⟩ := (G3.out.upd (Upd.refl [] w3).drew).queue (pushL s.M s.L fin k2.flow) h7
        have G7 := Lib.hid g7
        have F7 := Lib.hid f7
        clear h7 g7 f7 d0 v0 v1 v4 ld3
        go_wp2_with fail
        go_ret
        rw [HDN.out]
        exact ⟨rfl, _, ⟨rb, _, _, _, _, _, _, at_, key, fq7, G7.out, rfl, by rw [List.length_set]; exact HRN.out⟩, (HFr.out.up (Upd.refl [] w3).drew).trans F7.out⟩
end
end Go.Proofs.YtolohheflbmfaaaGreatDoor
