/-
  The document's Sfq: flows by rising number, in plain words and in memory; At. No condition.
-/
import Derived.Test.YtmfndemnogpmcaaFc
import Derived.Test.YtmfndemnogpmcaaFr
set_option linter.unusedVariables false
set_option linter.unusedSimpArgs false
namespace Go.Proofs.Ytmfndemnogpmcaa
open Go.RowKit

structure Sf where
  F : List Fl
  v : Nat
  most : Nat
def posF (F : List Fl) (id : Int) : Int := match F.findIdx? (fun f => f.id == id) with
  | some i => i
  | none => -1
theorem posF_at {F : List Fl} {id : Int} {i : Nat} {f : Fl} (hf : F[i]? = some f) (he : f.id = id) (hj : ∀ j g, j < i → F[j]? = some g → g.id ≠ id) : posF F id = i := by
  obtain ⟨hi, he2⟩ := List.getElem?_eq_some_iff.1 hf
  have : F.findIdx? (fun f => f.id == id) = some i := by
    rw [List.findIdx?_eq_some_iff_getElem]
    refine ⟨hi, by rw [he2]; simp [he], fun j hji => ?_⟩
    have := hj j (F[j]'(by omega)) hji (List.getElem?_eq_getElem _)
    simpa using this
  unfold posF; rw [this]
theorem posF_no {F : List Fl} {id : Int} (hj : ∀ j g, j < F.length → F[j]? = some g → g.id ≠ id) : posF F id = -1 := by
  have : F.findIdx? (fun f => f.id == id) = none := by
    rw [List.findIdx?_eq_none_iff]
    intro x hx
    obtain ⟨j, hj', e⟩ := List.getElem_of_mem hx
    have := hj j x hj' (by rw [List.getElem?_eq_getElem hj', e])
    simpa using this
  unfold posF; rw [this]
theorem posF_cases (F : List Fl) (id : Int) : (posF F id = -1 ∧ ∀ f ∈ F, f.id ≠ id) ∨ ∃ (i : Nat) (f : Fl), posF F id = i ∧ F[i]? = some f ∧ f.id = id := by
  by_cases h : ∃ f ∈ F, f.id = id
  · right
    cases hf : F.findIdx? (fun f => f.id == id) with
    | none =>
      rw [List.findIdx?_eq_none_iff] at hf
      obtain ⟨f, h1, h2⟩ := h
      have := hf f h1
      simp [h2] at this
    | some i =>
      have := hf
      rw [List.findIdx?_eq_some_iff_getElem] at this
      obtain ⟨hi, h2, -⟩ := this
      exact ⟨i, F[i], by unfold posF; rw [hf], List.getElem?_eq_getElem hi, by simpa using h2⟩
  · left
    have h2 : ∀ f ∈ F, f.id ≠ id := fun f h1 h3 => h ⟨f, h1, h3⟩
    exact ⟨posF_no (fun j g _ hg => h2 g (List.mem_of_getElem? hg)), h2⟩
def entV (e : Ent) : Value := .pointer (some ⟨e.b, 0, none⟩)
structure SfAt (W w : World) (sb : Nat) (ao : Option Addr) (cap : Nat) (Z : List Ent) (v most : Nat) : Prop where
  blk : Blk w sb 89 [.slice ao Z.length cap, .int .u64 v, .int .u64 most]
  row : RowO w 115 1 ao Z.length cap (Z.map entV)
  ents : ∀ e ∈ Z, EntAt w e
  dis : Z.Pairwise (fun a b => ∀ c ∈ entB a, c ∉ entB b)
  own : ∀ e ∈ Z, ∀ c ∈ entB e, c ≠ sb ∧ c ∉ blkO ao
  d : sb ∉ blkO ao
  new : ∀ c ∈ sb :: blkO ao, W.heap.size ≤ c
  newE : ∀ e ∈ Z, ∀ c ∈ entB e, W.heap.size ≤ c
  srt : Z.Pairwise (fun a b => a.f.id < b.f.id)
  small : Z.length ≤ 1000
  v64 : v < 18446744073709551616
  m64 : most < 18446744073709551616
def sfB (sb : Nat) (ao : Option Addr) (Z : List Ent) : List Nat := sb :: (blkO ao ++ Z.flatMap entB)
section
variable {W w w' : World} {sb : Nat} {ao : Option Addr} {cap : Nat} {Z : List Ent} {v most : Nat}
theorem sfB_ent {e : Ent} (he : e ∈ Z) {c : Nat} (hc : c ∈ entB e) : c ∈ sfB sb ao Z := by
  simp only [sfB, List.mem_cons, List.mem_append, List.mem_flatMap]; exact .inr (.inr ⟨e, he, hc⟩)
theorem SfAt.lt (h : SfAt W w sb ao cap Z v most) : ∀ c ∈ sfB sb ao Z, c < w.heap.size := by
  intro c hc
  simp only [sfB, List.mem_cons, List.mem_append, List.mem_flatMap] at hc
  rcases hc with rfl | hc | ⟨e, he, hc⟩
  · exact h.blk.lt
  · exact h.row.lt c hc
  · exact (h.ents e he).lt c hc
theorem SfAt.newB (h : SfAt W w sb ao cap Z v most) : ∀ c ∈ sfB sb ao Z, W.heap.size ≤ c := by
  intro c hc
  simp only [sfB, List.mem_cons, List.mem_append, List.mem_flatMap] at hc
  rcases hc with rfl | hc | ⟨e, he, hc⟩
  · exact h.new _ (by simp)
  · exact h.new c (by simp [hc])
  · exact h.newE e he c hc
theorem SfAt.updS {S : List Nat} (h : SfAt W w sb ao cap Z v most) (hu : Upd S w w') (hs : ∀ c ∈ sfB sb ao Z, c ∉ S) : SfAt W w' sb ao cap Z v most :=
  { h with
    blk := h.blk.upd hu (hs sb (by simp [sfB]))
    row := h.row.upd hu (fun c hc => hs c (by simp [sfB, hc]))
    ents := fun e he => (h.ents e he).upd hu (fun c hc => hs c (sfB_ent he hc)) }
theorem SfAt.upd (h : SfAt W w sb ao cap Z v most) (hu : Upd [] w w') : SfAt W w' sb ao cap Z v most := h.updS hu (by simp)
theorem SfAt.cells (h : SfAt W w sb ao cap Z v most) : w.cell? ⟨sb, 0, none⟩ = some (.slice ao Z.length cap) ∧ w.cell? ⟨sb, 1, none⟩ = some (.int .u64 v) ∧ w.cell? ⟨sb, 2, none⟩ = some (.int .u64 most) ∧ sb < w.heap.size :=
  ⟨h.blk.cell (j := 0) rfl, h.blk.cell (j := 1) rfl, h.blk.cell (j := 2) rfl, h.blk.lt⟩

/-- Where the i-th flow stands. -/
theorem SfAt.at_ (h : SfAt W w sb ao cap Z v most) {i : Nat} {e : Ent} (he : Z[i]? = some e) : ∃ g, ao = some ⟨g, 0, none⟩ ∧ w.cell? ⟨g, i, none⟩ = some (.pointer (some ⟨e.b, 0, none⟩)) ∧ g < w.heap.size ∧ EntAt w e ∧ i < Z.length := by
  have hi := (List.getElem?_eq_some_iff.1 he).1
  obtain ⟨g, hg, hr⟩ := h.row.row (by omega)
  exact ⟨g, hg, hr.cell (by rw [List.getElem?_map, he]; rfl), hr.lt, h.ents e (List.mem_of_getElem? he), hi⟩

/-- One flow is changed. -/
theorem SfAt.put {i : Nat} {e e' : Ent} (h : SfAt W w sb ao cap Z v most) (he : Z[i]? = some e) (hb : e'.b = e.b) (hid : e'.f.id = e.f.id) (hat : EntAt w' e') (hn : ∀ c ∈ blkO e'.ao, c ∈ blkO e.ao ∨ w.heap.size ≤ c) (hu : Upd [e.b] w w') :
    SfAt W w' sb ao cap (Z.set i e') v most ∧ Fr (sfB sb ao Z) (sfB sb ao (Z.set i e')) w w' := by
  have hm : e ∈ Z := List.mem_of_getElem? he
  have hi := (List.getElem?_eq_some_iff.1 he).1
  have hW : W.heap.size ≤ w.heap.size := by have := h.new sb (by simp); have := h.blk.lt; omega
  have hsub : ∀ c ∈ entB e', c ∈ entB e ∨ w.heap.size ≤ c := fun c hc => by
    rcases List.mem_cons.1 hc with rfl | hc
    · exact .inl (by simp [entB, hb])
    · exact (hn c hc).imp (fun k => by simp [entB, k]) id
  have hother : ∀ j x, j ≠ i → Z[j]? = some x → ∀ c ∈ entB x, c ∉ entB e := fun j x hji hx c hc hce => by
    obtain ⟨hj, rfl⟩ := List.getElem?_eq_some_iff.1 hx
    obtain ⟨_, rfl⟩ := List.getElem?_eq_some_iff.1 he
    rcases Nat.lt_or_ge j i with hlt | hge
    · exact List.pairwise_iff_getElem.1 h.dis j i hj hi hlt c hc hce
    · exact List.pairwise_iff_getElem.1 h.dis i j hi hj (by omega) c hce hc
  have hmem : ∀ x ∈ Z.set i e', x = e' ∨ ∃ j, j ≠ i ∧ Z[j]? = some x := fun x hx => by
    obtain ⟨j, hj, rfl⟩ := List.getElem_of_mem hx
    rw [List.length_set] at hj
    by_cases e1 : i = j
    · left; subst e1; simp
    · right; exact ⟨j, fun k => e1 k.symm, by rw [List.getElem_set_ne e1]; exact List.getElem?_eq_getElem hj⟩
  have hsb : sb ∉ [e.b] := fun hc => by simp only [List.mem_cons, List.not_mem_nil, or_false] at hc; exact (h.own e hm e.b (by simp [entB])).1 hc.symm
  refine ⟨{ h with
    blk := by rw [List.length_set]; exact h.blk.upd hu hsb
    row := by
      have e1 : (Z.set i e').map entV = Z.map entV := by
        rw [List.map_set]
        apply List.ext_getElem?
        intro j
        rw [List.getElem?_set]
        split
        · rename_i k; subst k; simp only [List.length_map, hi, if_true, List.getElem?_map, he, Option.map_some]; unfold entV; rw [hb]
        · rfl
      rw [List.length_set, e1]
      exact h.row.upd hu (fun c hc hce => by simp only [List.mem_cons, List.not_mem_nil, or_false] at hce; subst hce; exact (h.own e hm _ (by simp [entB])).2 hc)
    ents := fun x hx => by
      rcases hmem x hx with rfl | ⟨j, hji, hxj⟩
      · exact hat
      · exact (h.ents x (List.mem_of_getElem? hxj)).upd hu (fun c hc hce => by simp only [List.mem_cons, List.not_mem_nil, or_false] at hce; subst hce; exact hother j x hji hxj _ hc (by simp [entB]))
    dis := by
      rw [List.pairwise_iff_getElem]
      intro a b ha hb2 hab c hc hc2
      rw [List.length_set] at ha hb2
      rw [List.getElem_set] at hc hc2
      split at hc
      · rename_i k; subst k
        rw [if_neg (by omega)] at hc2
        rcases hsub c hc with k | k
        · exact hother b _ (by omega) (List.getElem?_eq_getElem hb2) c hc2 k
        · have := (h.ents _ (List.getElem_mem hb2)).lt c hc2; omega
      · split at hc2
        · rename_i k1 k; subst k
          rcases hsub c hc2 with k | k
          · exact hother a _ (by omega) (List.getElem?_eq_getElem ha) c hc k
          · have := (h.ents _ (List.getElem_mem ha)).lt c hc; omega
        · exact List.pairwise_iff_getElem.1 h.dis a b ha hb2 hab c hc hc2
    own := fun x hx c hc => by
      rcases hmem x hx with rfl | ⟨j, hji, hxj⟩
      · rcases hsub c hc with k | k
        · exact h.own e hm c k
        · exact ⟨fun k2 => by have := h.blk.lt; omega, fun k2 => by have := h.row.lt c k2; omega⟩
      · exact h.own x (List.mem_of_getElem? hxj) c hc
    newE := fun x hx c hc => by
      rcases hmem x hx with rfl | ⟨j, hji, hxj⟩
      · rcases hsub c hc with k | k
        · exact h.newE e hm c k
        · omega
      · exact h.newE x (List.mem_of_getElem? hxj) c hc
    srt := by
      rw [List.pairwise_iff_getElem]
      intro a b ha hb2 hab
      rw [List.length_set] at ha hb2
      have key := List.pairwise_iff_getElem.1 h.srt a b ha hb2 hab
      obtain ⟨_, hze⟩ := List.getElem?_eq_some_iff.1 he
      rw [List.getElem_set, List.getElem_set]
      split
      · rename_i k; subst k
        rw [if_neg (by omega), hid, ← hze]; exact key
      · split
        · rename_i k; subst k
          rw [hid, ← hze]; exact key
        · exact key
    small := by rw [List.length_set]; exact h.small }, fun c hc => ?_, hu.mono (fun c _ hc => by simp only [List.mem_cons, List.not_mem_nil, or_false] at hc; subst hc; exact sfB_ent hm (by simp [entB]))⟩
  simp only [sfB, List.mem_cons, List.mem_append, List.mem_flatMap] at hc
  rcases hc with rfl | hc | ⟨x, hx, hc⟩
  · left; simp [sfB]
  · left; simp [sfB, hc]
  · rcases hmem x hx with rfl | ⟨j, hji, hxj⟩
    · exact (hsub c hc).imp (fun k => sfB_ent hm k) id
    · left; exact sfB_ent (List.mem_of_getElem? hxj) hc

/-- The numbers anew. -/
theorem SfAt.nums (h : SfAt W w sb ao cap Z v most) {v' m' : Nat} (hB : Blk w' sb 89 [.slice ao Z.length cap, .int .u64 v', .int .u64 m']) (hu : Upd [sb] w w') (hv : v' < 18446744073709551616) (hm : m' < 18446744073709551616) : SfAt W w' sb ao cap Z v' m' :=
  { h with
    blk := hB
    row := h.row.upd hu (fun c hc hce => by simp only [List.mem_cons, List.not_mem_nil, or_false] at hce; subst hce; exact h.d hc)
    ents := fun e he => (h.ents e he).upd hu (fun c hc hce => by simp only [List.mem_cons, List.not_mem_nil, or_false] at hce; exact (h.own e he c hc).1 hce)
    v64 := hv
    m64 := hm }
end
def SfG (W : World) (sb : Nat) (S : Sf) (G : List Nat) (w : World) : Prop := ∃ ao cap Z, SfAt W w sb ao cap Z S.v S.most ∧ Z.map (·.f) = S.F ∧ G = sfB sb ao Z
def SfTo (W : World) (sb : Nat) (S : Sf) (G : List Nat) (w w' : World) : Prop := ∃ G', SfG W sb S G' w' ∧ Fr G G' w w'
section
variable {W w w' : World} {sb : Nat} {S : Sf} {G : List Nat}
theorem SfG.lt (h : SfG W sb S G w) : ∀ c ∈ G, c < w.heap.size := by obtain ⟨_, _, _, h, _, rfl⟩ := h; exact h.lt
theorem SfG.newB (h : SfG W sb S G w) : ∀ c ∈ G, W.heap.size ≤ c := by obtain ⟨_, _, _, h, _, rfl⟩ := h; exact h.newB
theorem SfG.updS {T : List Nat} (h : SfG W sb S G w) (hu : Upd T w w') (hs : ∀ c ∈ G, c ∉ T) : SfG W sb S G w' := by obtain ⟨ao, cap, Z, h, h2, rfl⟩ := h; exact ⟨ao, cap, Z, h.updS hu hs, h2, rfl⟩
theorem SfG.upd (h : SfG W sb S G w) (hu : Upd [] w w') : SfG W sb S G w' := h.updS hu (by simp)
theorem SfTo.up (h : SfTo W sb S G w w') : Upd G w w' := by obtain ⟨_, _, h⟩ := h; exact h.2
end
theorem map_at {Z : List Ent} {F : List Fl} (h : Z.map (·.f) = F) {i : Nat} {f : Fl} (hf : F[i]? = some f) : ∃ e, Z[i]? = some e ∧ e.f = f := by
  rw [← h, List.getElem?_map] at hf
  cases hz : Z[i]? with
  | none => rw [hz] at hf; cases hf
  | some e => rw [hz] at hf; exact ⟨e, rfl, by simpa using hf⟩

/-! ### At -/
def SfAtAt (F : List Fl) (id : Int) (w : World) (iv : Value) (wr : World) : Prop := ∃ i : Nat, iv = .int .i64 i ∧ i ≤ F.length ∧ (∀ j f, j < i → F[j]? = some f → f.id ≠ id) ∧ wr = w

set_option maxRecDepth 100000 in
set_option maxHeartbeats 8000000 in
theorem SfG.at_ {W w : World} {sb : Nat} {S : Sf} {G : List Nat} (h : SfG W sb S G w) (id : Int) :
    Calls Try.prog 64 #[.pointer (some ⟨sb, 0, none⟩), .int .i64 id] w (fun e w' => e = .returned (.int .i64 (posF S.F id)) ∧ w = w') := by
  obtain ⟨ao, cap, Z, h, hF, -⟩ := h
  have HH := Lib.hid h
  have HF := Lib.hid hF
  obtain ⟨c0, -, -, lb⟩ := h.cells
  have hZF : Z.length = S.F.length := by rw [← hF, List.length_map]
  obtain ⟨n, hn⟩ : ∃ n, Z.length = n := ⟨_, rfl⟩
  rw [hn] at c0
  have HN : Hid (S.F.length = n) := by unfold Hid; omega
  have HNZ := Lib.hid hn
  have hsm := h.small
  rw [hn] at hsm
  clear h hF hZF hn
  go_enter Try.func64, Try.ntmps64
  go_wp2_with fail
  go_loopw [5] (fun iv wr => SfAtAt S.F id w iv wr) (fun iv _ => n - (intOf iv).toNat)
  case atStart => exact ⟨0, rfl, Nat.zero_le _, fun j f hj => by omega, rfl⟩
  case round =>
    obtain ⟨i, rfl, hi, hj, rfl⟩ := hrel
    rw [HN.out] at hi
    have HJ := Lib.hid hj
    clear hj
    by_cases hlt : i < n
    · have t1 : decide (i < n) = true := by simp [hlt]
      have b1 : (i : Int) < (n : Int) := by omega
      obtain ⟨f, hf⟩ : ∃ f, S.F[i]? = some f := ⟨_, List.getElem?_eq_getElem (by rw [HN.out]; exact hlt)⟩
      obtain ⟨e, he, hef⟩ := map_at HF.out hf
      obtain ⟨g, hg, x0, lg, hE, -⟩ := HH.out.at_ he
      subst hg
      obtain ⟨y0, -, -, -, -, -, ly⟩ := hE.cells
      rw [hef] at y0
      obtain ⟨y, hy⟩ : ∃ y, f.id = y := ⟨_, rfl⟩
      rw [hy] at y0
      have HY := Lib.hid hy
      have HFF := Lib.hid hf
      have HLT := Lib.hid hlt
      clear hE hy hf he hef
      by_cases heq : y = id
      · have t2 : (y == id) = true := by simp [heq]
        have hp : Hid (posF S.F id = i) := posF_at HFF.out (by rw [HY.out, heq]) HJ.out
        clear heq
        go_wp2
        go_ret
        exact ⟨by rw [hp.out]; rfl, rfl⟩
      · have t2 : (y == id) = false := by simp [heq]
        have hne : Hid (f.id ≠ id) := by unfold Hid; rw [HY.out]; exact heq
        clear heq
        go_wp2
        exact ⟨⟨i + 1, by congr 1, by rw [HN.out]; exact HLT.out, fun j f' hj2 hf' => by
          rcases Nat.lt_or_ge j i with k | k
          · exact HJ.out j f' k hf'
          · have : j = i := by omega
            subst this
            rw [HFF.out] at hf'
            obtain rfl := Option.some.inj hf'
            exact hne.out, rfl⟩, by have := HLT.out; simp [intOf]; omega⟩
    · have t1 : decide (i < n) = false := by simp; omega
      have hp : Hid (posF S.F id = -1) := posF_no (fun j g hj2 hg => HJ.out j g (by rw [HN.out] at hj2; omega) hg)
      go_wp2
      go_ret
      exact ⟨by rw [hp.out]; rfl, rfl⟩
end Go.Proofs.Ytmfndemnogpmcaa
