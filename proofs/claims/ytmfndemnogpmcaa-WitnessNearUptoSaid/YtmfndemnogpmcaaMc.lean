/-
  The program's flows in memory: a map of flows. No condition.
-/
import Derived.Test.YtmfndemnogpmcaaMb
import Derived.Test.YtmfndemnogpmcaaMapF
import Derived.Test.YtmfndemnogpmcaaIter
set_option linter.unusedVariables false
set_option linter.unusedSimpArgs false
namespace Go.Proofs.Ytmfndemnogpmcaa
open Go.RowKit

/-- A flow of the program. -/
structure PFl (w : World) (e : Ent) : Prop where
  blk : Blk w e.b 143 [.int .u64 e.f.r, .int .i64 e.f.most, .slice e.ao e.f.L.length e.cap, .int .u64 e.f.start, .int .u64 e.f.fin]
  row : RowO w 94 3 e.ao e.f.L.length e.cap (e.f.L.flatMap pkVs)
  d : e.b ∉ blkO e.ao
  ok : FlOk e.f
theorem PFl.upd {S : List Nat} {w w' : World} {e : Ent} (h : PFl w e) (hu : Upd S w w') (hs : ∀ c ∈ entB e, c ∉ S) : PFl w' e :=
  { h with blk := h.blk.upd hu (hs e.b (by simp [entB])), row := h.row.upd hu (fun c hc => hs c (by simp [entB, hc])) }
theorem PFl.lt {w : World} {e : Ent} (h : PFl w e) : ∀ c ∈ entB e, c < w.heap.size := by
  intro c hc
  rcases List.mem_cons.1 hc with rfl | hc
  · exact h.blk.lt
  · exact h.row.lt c hc
theorem PFl.cells {w : World} {e : Ent} (h : PFl w e) : w.cell? ⟨e.b, 0, none⟩ = some (.int .u64 e.f.r) ∧ w.cell? ⟨e.b, 1, none⟩ = some (.int .i64 e.f.most) ∧ w.cell? ⟨e.b, 2, none⟩ = some (.slice e.ao e.f.L.length e.cap) ∧ w.cell? ⟨e.b, 3, none⟩ = some (.int .u64 e.f.start) ∧ w.cell? ⟨e.b, 4, none⟩ = some (.int .u64 e.f.fin) ∧ e.b < w.heap.size :=
  ⟨h.blk.cell (j := 0) rfl, h.blk.cell (j := 1) rfl, h.blk.cell (j := 2) rfl, h.blk.cell (j := 3) rfl, h.blk.cell (j := 4) rfl, h.blk.lt⟩

/-- What a deed on a flow leaves. -/
def PFlTo (w : World) (e : Ent) (f' : Fl) (w' : World) : Prop := ∃ ao cap, PFl w' ⟨e.b, f', ao, cap⟩ ∧ (∀ c ∈ blkO ao, c ∈ blkO e.ao ∨ w.heap.size ≤ c) ∧ Upd [e.b] w w'

def flM (Z : List Ent) : AL := Z.map (fun e => (e.f.id, entV e))
structure PS (W w : World) (sb fb : Nat) (Z : List Ent) (v most : Nat) : Prop where
  blk : Blk w sb 124 [.map (some fb), .int .u64 v, .int .u64 most]
  map : IMap w fb (flM Z)
  ents : ∀ e ∈ Z, PFl w e
  dis : Z.Pairwise (fun a b => ∀ c ∈ entB a, c ∉ entB b)
  own : ∀ e ∈ Z, ∀ c ∈ entB e, c ≠ sb ∧ c ≠ fb
  d : sb ≠ fb
  new : W.heap.size ≤ sb ∧ W.heap.size ≤ fb
  newE : ∀ e ∈ Z, ∀ c ∈ entB e, W.heap.size ≤ c
  nd : (Z.map (·.f.id)).Nodup
  v64 : v < 18446744073709551616
  m64 : most < 18446744073709551616
def psB (sb fb : Nat) (Z : List Ent) : List Nat := sb :: fb :: Z.flatMap entB
section
variable {W w w' : World} {sb fb : Nat} {Z : List Ent} {v most : Nat}
theorem psB_ent {e : Ent} (he : e ∈ Z) {c : Nat} (hc : c ∈ entB e) : c ∈ psB sb fb Z := by
  simp only [psB, List.mem_cons, List.mem_flatMap]; exact .inr (.inr ⟨e, he, hc⟩)
theorem mem_psB {c : Nat} : c ∈ psB sb fb Z ↔ c = sb ∨ c = fb ∨ ∃ e ∈ Z, c ∈ entB e := by
  simp only [psB, List.mem_cons, List.mem_flatMap]
theorem PS.lt (h : PS W w sb fb Z v most) : ∀ c ∈ psB sb fb Z, c < w.heap.size := by
  intro c hc
  rcases mem_psB.1 hc with rfl | rfl | ⟨e, he, hc⟩
  · exact h.blk.lt
  · exact h.map.lt
  · exact (h.ents e he).lt c hc
theorem PS.newB (h : PS W w sb fb Z v most) : ∀ c ∈ psB sb fb Z, W.heap.size ≤ c := by
  intro c hc
  rcases mem_psB.1 hc with rfl | rfl | ⟨e, he, hc⟩
  · exact h.new.1
  · exact h.new.2
  · exact h.newE e he c hc
theorem PS.updS {S : List Nat} (h : PS W w sb fb Z v most) (hu : Upd S w w') (hs : ∀ c ∈ psB sb fb Z, c ∉ S) : PS W w' sb fb Z v most :=
  { h with
    blk := h.blk.upd hu (hs sb (by simp [psB]))
    map := h.map.upd hu (hs fb (by simp [psB]))
    ents := fun e he => (h.ents e he).upd hu (fun c hc => hs c (psB_ent he hc)) }
theorem PS.upd (h : PS W w sb fb Z v most) (hu : Upd [] w w') : PS W w' sb fb Z v most := h.updS hu (by simp)
theorem PS.cells (h : PS W w sb fb Z v most) : w.cell? ⟨sb, 0, none⟩ = some (.map (some fb)) ∧ w.cell? ⟨sb, 1, none⟩ = some (.int .u64 v) ∧ w.cell? ⟨sb, 2, none⟩ = some (.int .u64 most) ∧ sb < w.heap.size :=
  ⟨h.blk.cell (j := 0) rfl, h.blk.cell (j := 1) rfl, h.blk.cell (j := 2) rfl, h.blk.lt⟩
theorem PS.nums (h : PS W w sb fb Z v most) {v' m' : Nat} (hB : Blk w' sb 124 [.map (some fb), .int .u64 v', .int .u64 m']) (hu : Upd [sb] w w') (hv : v' < 18446744073709551616) (hm : m' < 18446744073709551616) : PS W w' sb fb Z v' m' :=
  { h with
    blk := hB
    map := h.map.upd hu (by simpa using fun e : fb = sb => h.d e.symm)
    ents := fun e he => (h.ents e he).upd hu (fun c hc => by simpa using (h.own e he c hc).1)
    v64 := hv
    m64 := hm }
end
/-! ### Looking a flow up -/
theorem look_fl : ∀ {Z : List Ent} {i : Nat} {e : Ent}, (Z.map (·.f.id)).Nodup → Z[i]? = some e → idxM (flM Z) e.f.id 0 = some (i, entV e) ∧ lookM (flM Z) e.f.id = some (entV e) := by
  have key : ∀ (Z : List Ent) (i k : Nat) (e : Ent), (Z.map (·.f.id)).Nodup → Z[i]? = some e → idxM (flM Z) e.f.id k = some (k + i, entV e) := by
    intro Z
    induction Z with
    | nil => intro i k e _ h; simp at h
    | cons x Z ih =>
      intro i k e hn h
      simp only [List.map_cons, List.nodup_cons] at hn
      cases i with
      | zero =>
        simp only [List.getElem?_cons_zero, Option.some.injEq] at h
        subst h
        simp [flM, idxM]
      | succ i =>
        simp only [List.getElem?_cons_succ] at h
        have hne : e.f.id ≠ x.f.id := fun hh => hn.1 (by rw [← hh]; exact List.mem_map_of_mem (List.mem_of_getElem? h))
        have := ih i (k + 1) e hn.2 h
        simp only [flM, List.map_cons, idxM, if_neg hne]
        simp only [flM] at this
        rw [this]
        congr 2; omega
  intro Z i e hn h
  have h1 := key Z i 0 e hn h
  rw [Nat.zero_add] at h1
  refine ⟨h1, ?_⟩
  rw [← lookM_idx _ _ 0, h1]; rfl
theorem look_no {Z : List Ent} {id : Int} (h : ∀ e ∈ Z, e.f.id ≠ id) : idxM (flM Z) id 0 = none ∧ lookM (flM Z) id = none := by
  have h2 : lookM (flM Z) id = none := look_none.2 (by
    simp only [flM, List.map_map]
    intro hm
    obtain ⟨e, he, h1⟩ := List.mem_map.1 hm
    exact h e he h1)
  refine ⟨?_, h2⟩
  have := lookM_idx (flM Z) id 0
  rw [h2] at this
  cases hi : idxM (flM Z) id 0 with
  | none => rfl
  | some p => rw [hi] at this; cases this
/-! ### Two orders of the same things -/
theorem erase_perm {α : Type} : ∀ (L : List α) (i : Nat) (x : α), L[i]? = some x → L.Perm (x :: L.eraseIdx i)
  | [], _, _, h => by simp at h
  | a :: L, 0, x, h => by simp at h; subst h; exact List.Perm.refl _
  | a :: L, i + 1, x, h => by
    simp only [List.getElem?_cons_succ] at h
    simp only [List.eraseIdx_cons_succ]
    exact ((erase_perm L i x h).cons a).trans (List.Perm.swap x a _)
theorem set_perm {α : Type} : ∀ (L : List α) (i : Nat) (x y : α), L[i]? = some x → (L.set i y).Perm (y :: L.eraseIdx i)
  | [], _, _, _, h => by simp at h
  | a :: L, 0, x, y, h => by simp only [List.set_cons_zero, List.eraseIdx_cons_zero]; exact List.Perm.refl _
  | a :: L, i + 1, x, y, h => by
    simp only [List.getElem?_cons_succ] at h
    simp only [List.eraseIdx_cons_succ, List.set_cons_succ]
    exact ((set_perm L i x y h).cons a).trans (List.Perm.swap y a _)
theorem perm_set {α : Type} {A B : List α} (h : A.Perm B) {i j : Nat} {x : α} (hi : A[i]? = some x) (hj : B[j]? = some x) (y : α) : (A.set i y).Perm (B.set j y) ∧ (A.eraseIdx i).Perm (B.eraseIdx j) := by
  have p1 := erase_perm A i x hi
  have p2 := erase_perm B j x hj
  have p3 : (A.eraseIdx i).Perm (B.eraseIdx j) := (p1.symm.trans (h.trans p2)).cons_inv
  exact ⟨(set_perm A i x y hi).trans ((p3.cons y).trans (set_perm B j x y hj).symm), p3⟩

/-- The program's flows, with what they are in order. -/
def PG (W : World) (sb : Nat) (S : Sf) (G : List Nat) (w : World) : Prop := ∃ fb Z, PS W w sb fb Z S.v S.most ∧ (Z.map (·.f)).Perm S.F ∧ S.F.Pairwise (fun a b => a.id < b.id) ∧ G = psB sb fb Z
def PTo (W : World) (sb : Nat) (S : Sf) (G : List Nat) (w w' : World) : Prop := ∃ G', PG W sb S G' w' ∧ Fr G G' w w'
section
variable {W w w' : World} {sb : Nat} {S : Sf} {G : List Nat}
theorem PG.lt (h : PG W sb S G w) : ∀ c ∈ G, c < w.heap.size := by obtain ⟨_, _, h, _, _, rfl⟩ := h; exact h.lt
theorem PG.newB (h : PG W sb S G w) : ∀ c ∈ G, W.heap.size ≤ c := by obtain ⟨_, _, h, _, _, rfl⟩ := h; exact h.newB
theorem PG.updS {T : List Nat} (h : PG W sb S G w) (hu : Upd T w w') (hs : ∀ c ∈ G, c ∉ T) : PG W sb S G w' := by obtain ⟨fb, Z, h, h2, h3, rfl⟩ := h; exact ⟨fb, Z, h.updS hu hs, h2, h3, rfl⟩
theorem PG.upd (h : PG W sb S G w) (hu : Upd [] w w') : PG W sb S G w' := h.updS hu (by simp)
theorem PTo.same (h : PG W sb S G w) (hu : Upd [] w w') : PTo W sb S G w w' := ⟨G, h.upd hu, fun c hc => .inl hc, hu.nil⟩
end
theorem perm_at {Z : List Ent} {F : List Fl} (h : (Z.map (·.f)).Perm F) {f : Fl} (hf : f ∈ F) : ∃ (i : Nat) (e : Ent), Z[i]? = some e ∧ e.f = f := by
  obtain ⟨e, he, hef⟩ := List.mem_map.1 (h.mem_iff.2 hf)
  obtain ⟨i, hi, h2⟩ := List.getElem_of_mem he
  exact ⟨i, e, by rw [List.getElem?_eq_getElem hi, h2], hef⟩

/-- A flow's number: it is there, or not. -/
theorem pos_look {Z : List Ent} {F : List Fl} (h : (Z.map (·.f)).Perm F) (hn : (Z.map (·.f.id)).Nodup) (id : Int) :
    (posF F id = -1 ∧ lookM (flM Z) id = none ∧ idxM (flM Z) id 0 = none ∧ ∀ f ∈ F, f.id ≠ id) ∨ ∃ (i k : Nat) (e : Ent), posF F id = i ∧ F[i]? = some e.f ∧ Z[k]? = some e ∧ e.f.id = id ∧ lookM (flM Z) id = some (entV e) ∧ idxM (flM Z) id 0 = some (k, entV e) := by
  rcases posF_cases F id with ⟨h1, h2⟩ | ⟨i, f, h1, h2, h3⟩
  · have := look_no (Z := Z) (id := id) (fun e he => h2 e.f (h.mem_iff.1 (List.mem_map_of_mem he)))
    exact .inl ⟨h1, this.2, this.1, h2⟩
  · obtain ⟨k, e, hk, rfl⟩ := perm_at h (List.mem_of_getElem? h2)
    have := look_fl hn hk
    rw [h3] at this
    exact .inr ⟨i, k, e, h1, h2, hk, h3, this.2, this.1⟩
end Go.Proofs.Ytmfndemnogpmcaa
