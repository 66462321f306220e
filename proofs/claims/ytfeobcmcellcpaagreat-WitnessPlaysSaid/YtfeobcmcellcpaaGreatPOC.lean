/-
  Texts of this claim, joined: Oj, Ok, Ol, Om. No condition.
-/
import Derived.Test.YtfeobcmcellcpaaGreatOi
import Derived.Test.YtfeobcmcellcpaaGreatMh
set_option linter.unusedVariables false
set_option linter.unusedSimpArgs false
/-! Oj -/
namespace Go.Proofs.YtfeobcmcellcpaaGreat
open Go.RowKit

/-! ### Maps in any order -/
def offM (M : AL) (k : Int) : AL := M.filter (fun p => !decide (p.1 = k))
theorem delM_off : ∀ {M : AL}, NdM M → ∀ k, delM M k = offM M k := by
  intro M
  induction M with
  | nil => intro _ k; rfl
  | cons p M ih =>
    intro h k
    obtain ⟨a, x⟩ := p
    have h1 : a ∉ M.map (·.1) ∧ (M.map (·.1)).Nodup := by simpa [NdM] using h
    have h2 := ih h1.2 k
    unfold offM at h2 ⊢
    by_cases hk : k = a
    · subst hk
      have : M.filter (fun p => !decide (p.1 = k)) = M := by
        rw [List.filter_eq_self]
        intro q hq
        have : q.1 ≠ k := fun e => h1.1 (by rw [← e]; exact List.mem_map_of_mem hq)
        simp [this]
      simp [delM, this]
    · have hk2 : ¬ a = k := fun e => hk e.symm
      simp [delM, hk, hk2, h2]
theorem putM_off : ∀ {M : AL}, NdM M → ∀ k v, (putM M k v).Perm ((k, v) :: offM M k) := by
  intro M
  induction M with
  | nil => intro _ k v; exact List.Perm.refl _
  | cons p M ih =>
    intro h k v
    obtain ⟨a, x⟩ := p
    have h1 : a ∉ M.map (·.1) ∧ (M.map (·.1)).Nodup := by simpa [NdM] using h
    have h2 := ih h1.2 k v
    unfold offM at h2 ⊢
    by_cases hk : k = a
    · subst hk
      have : M.filter (fun p => !decide (p.1 = k)) = M := by
        rw [List.filter_eq_self]
        intro q hq
        have : q.1 ≠ k := fun e => h1.1 (by rw [← e]; exact List.mem_map_of_mem hq)
        simp [this]
      simp [putM, this]
    · have hk2 : ¬ a = k := fun e => hk e.symm
      simp only [putM, hk, if_false, List.filter_cons, hk2, decide_false, Bool.not_false, if_true]
      exact (h2.cons _).trans (List.Perm.swap _ _ _)
theorem look_mem {M : AL} (h : NdM M) {k : Int} {v : Value} (hm : (k, v) ∈ M) : lookM M k = some v := by
  cases hl : lookM M k with
  | none => exact absurd (List.mem_map_of_mem (f := (·.1)) hm) (look_none.1 hl)
  | some v' =>
    have h2 := mem_of_look hl
    have : ∀ {N : AL}, NdM N → (k, v) ∈ N → (k, v') ∈ N → v = v' := by
      intro N
      induction N with
      | nil => intro _ h; cases h
      | cons p N ih =>
        intro hn a b
        have h1 : p.1 ∉ N.map (·.1) ∧ (N.map (·.1)).Nodup := by simpa [NdM] using hn
        rcases List.mem_cons.1 a with e1 | a <;> rcases List.mem_cons.1 b with e2 | b
        · have := e1.trans e2.symm; simpa using this
        · exact absurd (by rw [← e1]; exact List.mem_map_of_mem (f := (·.1)) b) h1.1
        · exact absurd (by rw [← e2]; exact List.mem_map_of_mem (f := (·.1)) a) h1.1
        · exact ih h1.2 a b
    rw [this h hm h2]
section
variable {M : AL} {F : List Fl}
theorem lenM_nd (hs : F.Pairwise (fun a b => a.id < b.id)) (h : M.Perm (lenM F)) : NdM M := by
  unfold NdM
  rw [(h.map (·.1)).nodup_iff]
  unfold lenM
  rw [List.map_map, List.nodup_iff_pairwise_ne, List.pairwise_map]
  exact hs.imp (fun h => by simp only [Function.comp]; omega)
theorem lenM_look (hs : F.Pairwise (fun a b => a.id < b.id)) (h : M.Perm (lenM F)) {i : Nat} {f : Fl} (hf : F[i]? = some f) : lookM M f.id = some (.int .i64 (f.L.length : Int)) :=
  look_mem (lenM_nd hs h) (h.mem_iff.2 (by unfold lenM; exact List.mem_map.2 ⟨f, List.mem_of_getElem? hf, rfl⟩))
theorem lenM_no (h : M.Perm (lenM F)) {id : Int} (hn : ∀ f ∈ F, f.id ≠ id) : lookM M id = none := look_none.2 (fun hm => by
  obtain ⟨p, hp, e⟩ := List.mem_map.1 hm
  have := h.mem_iff.1 hp
  unfold lenM at this
  obtain ⟨f, hf, rfl⟩ := List.mem_map.1 this
  exact hn f hf e)
theorem lenM_off : ∀ {F : List Fl}, F.Pairwise (fun a b => a.id < b.id) → ∀ {i : Nat} {f : Fl}, F[i]? = some f → offM (lenM F) f.id = lenM (F.eraseIdx i) := by
  intro F
  induction F with
  | nil => intro _ i f h; simp at h
  | cons x F ih =>
    intro hs i f h
    obtain ⟨h1, h2⟩ := List.pairwise_cons.1 hs
    cases i with
    | zero =>
      simp only [List.getElem?_cons_zero, Option.some.injEq] at h
      subst h
      have : (lenM F).filter (fun p => !decide (p.1 = x.id)) = lenM F := by
        rw [List.filter_eq_self]
        intro q hq
        unfold lenM at hq
        obtain ⟨g, hg, rfl⟩ := List.mem_map.1 hq
        have := h1 g hg
        have : ¬ g.id = x.id := by omega
        simp [this]
      unfold offM
      simp only [lenM, List.map_cons, List.filter_cons, decide_true, Bool.not_true, Bool.false_eq_true, if_false, List.eraseIdx_cons_zero]
      exact this
    | succ i =>
      simp only [List.getElem?_cons_succ] at h
      have hne : ¬ x.id = f.id := by have := h1 f (List.mem_of_getElem? h); omega
      have := ih h2 h
      unfold offM at this ⊢
      simp only [lenM, List.map_cons, List.filter_cons, hne, decide_false, Bool.not_false, if_true, List.eraseIdx_cons_succ] at this ⊢
      rw [this]
theorem off_perm {M N : AL} (h : M.Perm N) (k : Int) : (offM M k).Perm (offM N k) := h.filter _

/-- A length of it is another one. -/
theorem lenM_put (hs : F.Pairwise (fun a b => a.id < b.id)) (h : M.Perm (lenM F)) {i : Nat} {f f' : Fl} (hf : F[i]? = some f) (hid : f'.id = f.id) : (putM M f.id (.int .i64 (f'.L.length : Int))).Perm (lenM (F.set i f')) := by
  refine (putM_off (lenM_nd hs h) _ _).trans ?_
  refine ((off_perm h f.id).cons _).trans ?_
  rw [lenM_off hs hf, ← hid]
  have := (set_perm F i f f' hf).map (fun f => (f.id, Value.int .i64 (f.L.length : Int)))
  exact this.symm
theorem lenM_del (hs : F.Pairwise (fun a b => a.id < b.id)) (h : M.Perm (lenM F)) {i : Nat} {f : Fl} (hf : F[i]? = some f) : (delM M f.id).Perm (lenM (F.eraseIdx i)) := by
  rw [delM_off (lenM_nd hs h), ← lenM_off hs hf]
  exact off_perm h f.id
theorem lenM_add (hs : F.Pairwise (fun a b => a.id < b.id)) (h : M.Perm (lenM F)) {f : Fl} (hn : ∀ g ∈ F, g.id ≠ f.id) : (putM M f.id (.int .i64 (f.L.length : Int))).Perm (lenM (insF F f)) := by
  refine (putM_off (lenM_nd hs h) _ _).trans ?_
  refine ((off_perm h f.id).cons _).trans ?_
  have e : offM (lenM F) f.id = lenM F := by
    unfold offM
    rw [List.filter_eq_self]
    intro q hq
    unfold lenM at hq
    obtain ⟨g, hg, rfl⟩ := List.mem_map.1 hq
    simp [hn g hg]
  rw [e]
  have := ((insF_perm hn).trans (List.perm_append_singleton f F)).map (fun f => (f.id, Value.int .i64 (f.L.length : Int)))
  exact this.symm
end
/-! ### The parts of a model -/
structure MRaw (W w : World) (mb sb lb : Nat) (c : Cf) (n : Nat) (S : Sf) (M : AL) (GS : List Nat) : Prop where
  blk : Blk w mb 121 [.int .i64 c.sh, .int .i64 c.sl, .int .i64 c.wo, .int .i64 c.wd, .int .u64 c.unit, .pointer (some ⟨sb, 0, none⟩), .map (some lb), .int .i64 n]
  s : PG W sb S GS w
  lens : IMap w lb M
  d : mb ≠ lb
  far : ∀ x ∈ [mb, lb], x ∉ GS
  new : W.heap.size ≤ mb ∧ W.heap.size ≤ lb
section
variable {W w w0 w1 w' : World} {mb sb lb n : Nat} {c : Cf} {m : Ms} {S S' : Sf} {M M' : AL} {GS GS' G : List Nat}
theorem MAt.raw (h : MAt W w mb sb lb c m M GS) : MRaw W w mb sb lb c m.n m.S M GS := ⟨h.blk, h.s, h.lens, h.d, h.far, h.new⟩
theorem MRaw.lt (h : MRaw W w mb sb lb c n S M GS) : ∀ x ∈ mb :: lb :: GS, x < w.heap.size := by
  intro x hx
  simp only [List.mem_cons] at hx
  rcases hx with rfl | rfl | hx
  · exact h.blk.lt
  · exact h.lens.lt
  · exact h.s.lt x hx
theorem MRaw.updS {T : List Nat} (h : MRaw W w mb sb lb c n S M GS) (hu : Upd T w w') (hs : ∀ x ∈ mb :: lb :: GS, x ∉ T) : MRaw W w' mb sb lb c n S M GS :=
  { h with
    blk := h.blk.upd hu (hs mb (by simp))
    s := h.s.updS hu (fun x hx => hs x (by simp [hx]))
    lens := h.lens.upd hu (hs lb (by simp)) }
theorem MRaw.upd (h : MRaw W w mb sb lb c n S M GS) (hu : Upd [] w w') : MRaw W w' mb sb lb c n S M GS := h.updS hu (by simp)
theorem MRaw.cells (h : MRaw W w mb sb lb c n S M GS) : w.cell? ⟨mb, 0, none⟩ = some (.int .i64 c.sh) ∧ w.cell? ⟨mb, 1, none⟩ = some (.int .i64 c.sl) ∧ w.cell? ⟨mb, 4, none⟩ = some (.int .u64 c.unit) ∧ w.cell? ⟨mb, 5, none⟩ = some (.pointer (some ⟨sb, 0, none⟩)) ∧ w.cell? ⟨mb, 6, none⟩ = some (.map (some lb)) ∧ w.cell? ⟨mb, 7, none⟩ = some (.int .i64 n) ∧ mb < w.heap.size :=
  ⟨h.blk.cell (j := 0) rfl, h.blk.cell (j := 1) rfl, h.blk.cell (j := 4) rfl, h.blk.cell (j := 5) rfl, h.blk.cell (j := 6) rfl, h.blk.cell (j := 7) rfl, h.blk.lt⟩

/-- Its flows have changed. -/
theorem MRaw.pto (h : MRaw W w mb sb lb c n S M GS) (hT : PTo W sb S' GS w w1) : ∃ GS', MRaw W w1 mb sb lb c n S' M GS' ∧ Fr (mb :: lb :: GS) (mb :: lb :: GS') w w1 := by
  obtain ⟨GS', hP, hF⟩ := hT
  have hm := h.far mb (by simp)
  have hl := h.far lb (by simp)
  refine ⟨GS', { h with blk := h.blk.upd hF.2 hm, s := hP, lens := h.lens.upd hF.2 hl, far := fun x hx hc => ?_ }, fun x hx => ?_, hF.2.mono (fun i _ hi => by simp [hi])⟩
  · rcases hF.1 x hc with k | k
    · exact h.far x hx k
    · have := h.lt x (by simp only [List.mem_cons, List.not_mem_nil, or_false] at hx; rcases hx with rfl | rfl <;> simp); omega
  · simp only [List.mem_cons] at hx
    rcases hx with rfl | rfl | hx
    · exact .inl (by simp)
    · exact .inl (by simp)
    · exact (hF.1 x hx).imp (fun k => by simp [k]) id

/-- Its lens have changed. -/
theorem MRaw.map (h : MRaw W w mb sb lb c n S M GS) (hm : MapTo w lb M' w1) : MRaw W w1 mb sb lb c n S M' GS ∧ Fr (mb :: lb :: GS) (mb :: lb :: GS) w w1 :=
  ⟨{ h with blk := h.blk.upd hm.upd (by simpa using h.d), s := h.s.updS hm.upd (fun x hx e => by simp only [List.mem_cons, List.not_mem_nil, or_false] at e; exact h.far lb (by simp) (e ▸ hx)), lens := hm.map }, fun x hx => .inl hx, hm.upd.mono (fun i _ hi => by simp only [List.mem_cons, List.not_mem_nil, or_false] at hi; simp [hi])⟩
theorem MRaw.num (h : MRaw W w mb sb lb c n S M GS) (n' : Nat) : MRaw W (w.setCell ⟨mb, 7, none⟩ (.int .i64 n')) mb sb lb c n' S M GS ∧ Fr (mb :: lb :: GS) (mb :: lb :: GS) w (w.setCell ⟨mb, 7, none⟩ (.int .i64 n')) := by
  have hu : Upd [mb] w (w.setCell ⟨mb, 7, none⟩ (.int .i64 n')) := (Upd.refl [mb] w).setCell (.inl (by simp)) _
  exact ⟨{ h with blk := h.blk.set 7 _, s := h.s.updS hu (fun x hx e => by simp only [List.mem_cons, List.not_mem_nil, or_false] at e; exact h.far mb (by simp) (e ▸ hx)), lens := h.lens.upd hu (by simpa using fun e : lb = mb => h.d e.symm) }, fun x hx => .inl hx, hu.mono (fun i _ hi => by simp only [List.mem_cons, List.not_mem_nil, or_false] at hi; simp [hi])⟩
theorem MRaw.at_ (h : MRaw W w mb sb lb c m.n m.S M GS) (lm : M.Perm (lenM m.S.F)) (ok : MOk c m) : MAt W w mb sb lb c m M GS := ⟨h.blk, h.s, h.lens, lm, h.d, h.far, h.new, ok⟩
theorem PG.srt (h : PG W sb S G w) : S.F.Pairwise (fun a b => a.id < b.id) := by obtain ⟨_, _, _, _, h, _⟩ := h; exact h
end
end Go.Proofs.YtfeobcmcellcpaaGreat

/-! Ok -/
namespace Go.Proofs.YtfeobcmcellcpaaGreat
open Go.RowKit

theorem count_ids (F : List Fl) (s q : Int) : F.countP (fun f => decide (f.id % s = q)) = (F.map (·.id)).countP (fun x => decide (x % s = q)) := by
  rw [List.countP_map]; rfl
theorem MOk.ids_ {c : Cf} {m m' : Ms} (h : MOk c m) (hi : m'.S.F.map (·.id) = m.S.F.map (·.id)) (hp : ∀ f ∈ m'.S.F, ∀ p ∈ f.L, p.flow = f.id) : MOk c m' := by
  refine ⟨h.right, fun f hf => ?_, fun q => ?_, hp⟩
  · have : f.id ∈ m.S.F.map (·.id) := by rw [← hi]; exact List.mem_map_of_mem hf
    obtain ⟨g, hg, e⟩ := List.mem_map.1 this
    rw [← e]; exact h.ids g hg
  · rw [count_ids, hi, ← count_ids]; exact h.mates q
theorem MOk.erase {c : Cf} {m m' : Ms} (h : MOk c m) {i : Nat} (hi : m'.S.F = m.S.F.eraseIdx i) : MOk c m' := by
  refine ⟨h.right, fun f hf => h.ids f (by rw [hi] at hf; exact List.mem_of_mem_eraseIdx hf), fun q => ?_, fun f hf => h.pk f (by rw [hi] at hf; exact List.mem_of_mem_eraseIdx hf)⟩
  have h1 := (List.eraseIdx_sublist m.S.F i).countP_le (p := fun f => decide (f.id % c.sh = q))
  have h2 := h.mates q
  rw [hi]
  omega
theorem pk_set {F : List Fl} {i : Nat} {f' : Fl} (h : ∀ f ∈ F, ∀ p ∈ f.L, p.flow = f.id) (h' : ∀ p ∈ f'.L, p.flow = f'.id) : ∀ f ∈ F.set i f', ∀ p ∈ f.L, p.flow = f.id := fun f hf => by
  rcases List.mem_or_eq_of_mem_set hf with hf | rfl
  · exact h f hf
  · exact h'
theorem ids_setF {F : List Fl} {i : Nat} {f f' : Fl} (hf : F[i]? = some f) (hid : f'.id = f.id) : (F.set i f').map (·.id) = F.map (·.id) := by
  apply List.ext_getElem?
  intro j
  rw [List.getElem?_map, List.getElem?_map, List.getElem?_set]
  split
  · rename_i h; subst h
    have hk := (List.getElem?_eq_some_iff.1 hf).1
    simp only [hk, if_true, hf, Option.map_some, hid]
  · rfl
theorem MRaw.done {W w w2 w4 w5 : World} {mb sb lb n b4 : Nat} {c : Cf} {m' : Ms} {S : Sf} {M M' : AL} {GS GS' : List Nat} (h0 : MRaw W w mb sb lb c n S M GS) (hU2 : Upd [] w w2) (hfr : Fr (mb :: lb :: GS) (mb :: lb :: GS') w2 w4) (h4 : MRaw W w4 mb sb lb c m'.n m'.S M' GS') (lm : M'.Perm (lenM m'.S.F)) (ok : MOk c m')
    (hb1 : w.heap.size ≤ b4) (hb2 : b4 < w2.heap.size) (hu : Upd [b4] w4 w5) : MG W mb c m' (mb :: lb :: GS') w5 ∧ Fr (mb :: lb :: GS) (mb :: lb :: GS') w w5 := by
  have hbn : ∀ x ∈ mb :: lb :: GS', x ∉ [b4] := fun x hx e => by
    simp only [List.mem_cons, List.not_mem_nil, or_false] at e
    subst e
    rcases hfr.1 x hx with k | k
    · have := h0.lt x k; omega
    · omega
  refine ⟨⟨sb, lb, M', GS', (h4.updS hu hbn).at_ lm ok, rfl⟩, ((Fr.of hU2).trans hfr).thenT hu (fun x hx => ?_)⟩
  simp only [List.mem_cons, List.not_mem_nil, or_false] at hx
  exact .inr (by omega)
theorem lookLen {w : World} {lb : Nat} {M : AL} (h : IMap w lb M) (id : Int) : (Instr.lookup 119 (.map (some lb)) (.int .i64 id) false).run Tryz.prog w = .ok ((lookM M id).getD (.int .i64 0)) w := by
  have := h.look underlyingIntMap underlyingIntM zeroIntM id false
  simpa using this
theorem PG.flok {W w : World} {sb : Nat} {S : Sf} {G : List Nat} (h : PG W sb S G w) : ∀ f ∈ S.F, FlOk f := by
  obtain ⟨fb, Z, hz, hp, -, -⟩ := h
  intro f hf
  obtain ⟨e, he, rfl⟩ := List.mem_map.1 (hp.mem_iff.2 hf)
  exact (hz.ents e he).ok
theorem arr_ok {S : Sf} {p : Pk} (h : arrCode S p = 0) : ∃ (i : Nat) (f : Fl), S.F[i]? = some f ∧ f.id = p.flow ∧ flFull f = false ∧ arrS S p = { S with F := S.F.set i (flPut f S.v p) } := by
  rcases posF_cases S.F p.flow with ⟨hpos, hno⟩ | ⟨i, f, hpos, hf, hid⟩
  · exfalso; unfold arrCode at h; rw [hpos] at h; simp at h
  · refine ⟨i, f, hf, hid, ?_, ?_⟩
    · have h2 := h
      unfold arrCode at h2
      rw [hpos, if_neg (by omega), flAt_get hf] at h2
      cases hfl : flFull f with
      | false => rfl
      | true => rw [hfl] at h2; simp at h2
    · unfold arrS; rw [h, if_pos rfl, hpos, flAt_get hf, Int.toNat_natCast]
theorem arr_no {S : Sf} {p : Pk} (h : arrCode S p ≠ 0) : arrS S p = S := by unfold arrS; rw [if_neg h]

/-- What a walk of a deed begins with: the call in a box, a Ret. -/
structure Deed27 (w w2 : World) (b3 b4 : Nat) (k : Cl) : Prop where
  upd : Upd [] w w2
  box : Blk w2 b3 46 [.int .i64 k.op, .int .i64 k.flow, .int .i64 k.a, .int .i64 k.b]
  ret : Blk w2 b4 57 [.int .i64 0, .slice none 0 0, .int .i64 0, .int .u64 0]
  n3 : w.heap.size = b3
  n4 : b3 + 1 = b4
theorem Deed27.new (w : World) (k : Cl) : Deed27 w ((w.alloc (.cells #[.int .i64 k.op, .int .i64 k.flow, .int .i64 k.a, .int .i64 k.b] 46)).alloc (.cells #[.int .i64 0, .slice none 0 0, .int .i64 0, .int .u64 0] 57)) w.heap.size (w.heap.size + 1) k := by
  refine ⟨((Upd.refl [] w).alloc _).alloc _, (Blk.new w 46 [.int .i64 k.op, .int .i64 k.flow, .int .i64 k.a, .int .i64 k.b]).alloc _, ?_, rfl, rfl⟩
  have := Blk.new (w.alloc (.cells #[.int .i64 k.op, .int .i64 k.flow, .int .i64 k.a, .int .i64 k.b] 46)) 57 [.int .i64 0, .slice none 0 0, .int .i64 0, .int .u64 0]
  simpa using this

set_option maxRecDepth 100000 in
set_option maxHeartbeats 16000000 in
theorem menqueue_any {W w : World} {mb : Nat} {c : Cf} {m : Ms} {G : List Nat} (h : MG W mb c m G w) (k : Cl) : Calls Tryz.prog 91 #[.pointer (some ⟨mb, 0, none⟩), clV k] w (MTo W mb c (enqM m k) G w) := by
  have HM := Lib.hid h
  obtain ⟨sb, lb, M, GS, h, hGe⟩ := h
  have hd := Deed27.new w k
  obtain ⟨w2, hw2⟩ : ∃ y, (w.alloc (.cells #[.int .i64 k.op, .int .i64 k.flow, .int .i64 k.a, .int .i64 k.b] 46)).alloc (.cells #[.int .i64 0, .slice none 0 0, .int .i64 0, .int .u64 0] 57) = y := ⟨_, rfl⟩
  obtain ⟨b3, hb3⟩ : ∃ y, w.heap.size = y := ⟨_, rfl⟩
  rw [hw2, hb3] at hd
  obtain ⟨b4, hb4⟩ : ∃ y, b3 + 1 = y := ⟨_, rfl⟩
  rw [hb4] at hd
  have HD := Lib.hid hd
  have HGE := Lib.hid hGe
  have H0 := Lib.hid h
  have y1 := hd.box.cell (j := 1) rfl
  have y2 := hd.box.cell (j := 2) rfl
  have y3 := hd.box.cell (j := 3) rfl
  have ly := hd.box.lt
  have HWI := Lib.hid (fun w' => mwithin_any k.a 1 65536 w')
  unfold clV
  clear hd hGe
  by_cases ha : 1 ≤ k.a ∧ k.a ≤ 65536
  · have hraw := h.raw.upd HD.out.upd
    obtain ⟨-, -, -, c5, c6, -, lm⟩ := hraw.cells
    have d5 : w2.drew.cell? ⟨mb, 5, none⟩ = some (.pointer (some ⟨sb, 0, none⟩)) := c5
    have ld : mb < w2.drew.heap.size := lm
    have e1 : w2.drew.cell? ⟨b3, 1, none⟩ = some (.int .i64 k.flow) := y1
    have e2 : w2.drew.cell? ⟨b3, 2, none⟩ = some (.int .i64 k.a) := y2
    have e3 : w2.drew.cell? ⟨b3, 3, none⟩ = some (.int .i64 k.b) := y3
    have le : b3 < w2.drew.heap.size := ly
    have HE : Hid (enqM m k = (rtE (arrCode m.S ⟨k.flow, k.a, k.b⟩), { m with S := arrS m.S ⟨k.flow, k.a, k.b⟩ })) := by unfold Hid enqM; rw [if_neg (by omega)]
    rw [decide_eq_true ha] at HWI
    have HARR := Lib.hid ((hraw.upd (Upd.refl [] w2).drew).s.arrive ⟨k.flow, k.a, k.b⟩ (by simp only; omega))
    have HRAW := Lib.hid (hraw.upd (Upd.refl [] w2).drew)
    obtain ⟨cd, hcd⟩ : ∃ y, arrCode m.S ⟨k.flow, k.a, k.b⟩ = y := ⟨_, rfl⟩
    rw [hcd] at HARR HE
    have HCD := Lib.hid hcd
    clear ha h hraw hcd
    go_enter Tryz.func91, Tryz.ntmps91
    go_wp2_with fail
    refine (HWI.out _).mono ?_
    rintro e w3 ⟨rfl, rfl⟩
    go_upto_region 3 with (fail)
    refine wp_region_tail 11 (by kernel_rfl) (by kernel_rfl) ?_
    simp only [List.take_succ_cons, List.take_zero, List.drop_succ_cons, List.drop_zero]
    iterate 11 go_big_quiet_step (fail)
    refine wpQuiet_nil ?_
    go_wp2_with fail
    refine HARR.out.mono ?_
    rintro e w3 ⟨rfl, hT⟩
    have HT := Lib.hid hT
    obtain ⟨GS', hr3, hf3⟩ := HRAW.out.pto hT
    have HR3 := Lib.hid hr3
    have HF3 := Lib.hid hf3
    have hn3 : b3 ∉ mb :: lb :: GS := fun hm => by have := H0.out.lt b3 hm; have := HD.out.n3; omega
    have hn4 : b4 ∉ mb :: lb :: GS := fun hm => by have := H0.out.lt b4 hm; have := HD.out.n3; have := HD.out.n4; omega
    have hb3' := Blk.upd (w := w2.drew) HD.out.box hf3.2 hn3
    have hb4' := Blk.upd (w := w2.drew) HD.out.ret hf3.2 hn4
    have HB4 := Lib.hid hb4'
    clear hT y1 y2 y3 ly c5 c6 lm d5 ld e1 e2 e3 le
    by_cases hc0 : cd = 0
    · obtain ⟨i, f, hfi, hid, hfull, hS⟩ := arr_ok (S := m.S) (p := ⟨k.flow, k.a, k.b⟩) (by rw [HCD.out]; exact hc0)
      have hfk := HRAW.out.s.flok f (List.mem_of_getElem? hfi)
      have h8 : f.L.length < 8 := by
        have h1 := hfk.most
        unfold flFull at hfull
        simp only [decide_eq_false_iff_not] at hfull
        omega
      have hlk := lookLen (w := w3.drew) (hr3.lens.upd (Upd.refl [] w3).drew (by simp)) k.flow
      have hid2 : f.id = k.flow := hid
      have hlo := lenM_look HRAW.out.s.srt H0.out.lm hfi
      rw [hid2] at hlo
      rw [hlo] at hlk
      simp only [Option.getD_some] at hlk
      obtain ⟨nl, hnl⟩ : ∃ y, f.L.length = y := ⟨_, rfl⟩
      rw [hnl] at hlk h8
      obtain ⟨w4, hput, hmt⟩ := ((hr3.upd (Upd.refl [] w3).drew).lens).put (P := Tryz.prog) underlyingIntMap underlyingIntM k.flow (.int .i64 ((nl : Int) + 1))
      obtain ⟨hr4, hf4⟩ := (hr3.upd (Upd.refl [] w3).drew).map hmt
      have hlm4 : (putM M k.flow (.int .i64 ((nl : Int) + 1))).Perm (lenM (arrS m.S ⟨k.flow, k.a, k.b⟩).F) := by
        rw [hS]
        have := lenM_put (f' := flPut f m.S.v ⟨k.flow, k.a, k.b⟩) HRAW.out.s.srt H0.out.lm hfi rfl
        rw [hid2] at this
        have e : (((flPut f m.S.v ⟨k.flow, k.a, k.b⟩).L.length : Nat) : Int) = (nl : Int) + 1 := by
          show (((f.L ++ [_]).length : Nat) : Int) = _
          rw [List.length_append, hnl]; simp
        rw [e] at this
        exact this
      have HOK : Hid (MOk c { m with S := arrS m.S ⟨k.flow, k.a, k.b⟩ }) := H0.out.ok.ids_ (by rw [hS]; exact ids_setF hfi rfl) (by rw [hS]; exact pk_set H0.out.ok.pk (fun p hp => by rcases List.mem_append.1 hp with h | h; (exact (H0.out.ok.pk f (List.mem_of_getElem? hfi) p h)); (simp only [List.mem_cons, List.not_mem_nil, or_false] at h; rw [h]; exact hid2.symm)))
      have HLM := Lib.hid hlm4
      have HR4 := Lib.hid hr4
      have HF4 : Hid (Fr (mb :: lb :: GS) (mb :: lb :: GS') w2 w4) := ((Fr.of ((Upd.refl [] w2).drew)).trans HF3.out).trans ((Fr.of ((Upd.refl [] w3).drew)).trans hf4)
      have hb5 := hb4'.upd (S := []) (w' := w3.drew) ((Upd.refl [] w3).drew) (by simp)
      have hb6 : Blk w4 b4 57 [.int .i64 0, .slice none 0 0, .int .i64 0, .int .u64 0] := by
        refine HD.out.ret.upd HF4.out.2 hn4
      have q0 := hb6.cell (j := 0) rfl
      have q1 := hb6.cell (j := 1) rfl
      have q2 := hb6.cell (j := 2) rfl
      have q3 := hb6.cell (j := 3) rfl
      have f0 := hb6.free 0
      have f1 := hb6.free 1
      have f2 := hb6.free 2
      have f3 := hb6.free 3
      have l9 := hb6.lt
      obtain ⟨-, -, -, -, c6, -, lm⟩ := hr3.cells
      have d6 : w3.drew.cell? ⟨mb, 6, none⟩ = some (.map (some lb)) := c6
      have ld : mb < w3.drew.heap.size := lm
      have e1 : w3.drew.cell? ⟨b3, 1, none⟩ = some (.int .i64 k.flow) := hb3'.cell (j := 1) rfl
      have le : b3 < w3.drew.heap.size := hb3'.lt
      have fin1 : (nl : Int) + 1 ≤ 9223372036854775807 := by omega
      clear hr3 hf3 hr4 hf4 hlm4 hmt hfk hlo hfull hS hfi hid hid2 hb3' hb4' hb5 hb6 hnl
      have t1 : (cd != 0) = false := by simp [hc0]
      subst hc0
      go_upto_region 6 with (fail)
      refine wp_region_tail 6 (by kernel_rfl) (by kernel_rfl) ?_
      simp only [List.take_succ_cons, List.take_zero, List.drop_succ_cons, List.drop_zero]
      iterate 6 go_big_quiet_step (fail)
      refine wpQuiet_nil ?_
      go_wp2_with fail
      refine bodyPost_ret (v := .agg #[.int .i64 0, .slice none 0 0, .int .i64 0, .int .u64 0]) (by simp [results, Tryz.results91, go_sem, q0, q1, q2, q3]) rfl ?_
      have hu5 : Upd [b4] w4 _ := (((((Upd.refl [b4] w4).setCell (p := ⟨b4, 0, none⟩) (.inl (by simp)) (.int .i64 0)).setCell (p := ⟨b4, 1, none⟩) (.inl (by simp)) (.slice none 0 0)).setCell (p := ⟨b4, 2, none⟩) (.inl (by simp)) (.int .i64 0)).setCell (p := ⟨b4, 3, none⟩) (.inl (by simp)) (.int .u64 0))
      obtain ⟨k1, k2⟩ := MRaw.done (m' := { m with S := arrS m.S ⟨k.flow, k.a, k.b⟩ }) H0.out.raw HD.out.upd HF4.out HR4.out HLM.out HOK.out (b4 := b4) (by have := HD.out.n3; have := HD.out.n4; omega) HD.out.ret.lt hu5
      rw [HE.out]
      exact ⟨_, _, rfl, k1, by rw [HGE.out]; exact k2, RtN.none_ _ _ _ _ _ _⟩
    · have HOK : Hid (arrS m.S ⟨k.flow, k.a, k.b⟩ = m.S) := arr_no (by rw [HCD.out]; exact hc0)
      have t1 : (cd != 0) = true := by simp [hc0]
      clear hr3 hf3 hb3' hc0
      go_wp2_with fail
      refine (mrefused_any _ _).mono ?_
      rintro e9 w9 ⟨rfl, hu9⟩
      have hr9 := HB4.out.upd hu9 (by simp)
      have HR9 := Lib.hid hr9
      have q0 := hr9.cell (j := 0) rfl
      have q1 := hr9.cell (j := 1) rfl
      have q2 := hr9.cell (j := 2) rfl
      have q3 := hr9.cell (j := 3) rfl
      have f0 := hr9.free 0
      have f1 := hr9.free 1
      have f2 := hr9.free 2
      have f3 := hr9.free 3
      have l9 := hr9.lt
      have HU9 := Lib.hid hu9
      clear hr9 hu9
      go_wp2_with fail
      refine bodyPost_ret (v := .agg #[.int .i64 cd, .slice none 0 0, .int .i64 0, .int .u64 0]) (by simp [results, Tryz.results91, go_sem, q0, q1, q2, q3]) rfl ?_
      have hu5 : Upd [b4] w9 _ := (((((Upd.refl [b4] w9).setCell (p := ⟨b4, 0, none⟩) (.inl (by simp)) (.int .i64 cd)).setCell (p := ⟨b4, 1, none⟩) (.inl (by simp)) (.slice none 0 0)).setCell (p := ⟨b4, 2, none⟩) (.inl (by simp)) (.int .i64 0)).setCell (p := ⟨b4, 3, none⟩) (.inl (by simp)) (.int .u64 0))
      have hr := HR3.out.upd HU9.out
      rw [HOK.out] at hr
      obtain ⟨k1, k2⟩ := MRaw.done (m' := m) H0.out.raw HD.out.upd (((Fr.of (Upd.refl [] w2).drew).trans HF3.out).up HU9.out) hr H0.out.lm H0.out.ok (b4 := b4) (by have := HD.out.n3; have := HD.out.n4; omega) HD.out.ret.lt hu5
      rw [HE.out, HOK.out]
      exact ⟨_, _, rfl, k1, by rw [HGE.out]; exact k2, RtN.none_ _ _ _ _ _ _⟩
  · have HE : Hid (enqM m k = (rtE 3, m)) := by unfold Hid enqM; rw [if_pos (by omega)]
    rw [decide_eq_false ha] at HWI
    clear ha h
    go_enter Tryz.func91, Tryz.ntmps91
    go_wp2_with fail
    refine (HWI.out _).mono ?_
    rintro e w3 ⟨rfl, rfl⟩
    go_wp2_with fail
    refine (mrefused_any _ _).mono ?_
    rintro e9 w9 ⟨rfl, hu9⟩
    have hr9 := HD.out.ret.upd hu9 (by simp)
    have HR9 := Lib.hid hr9
    have q0 := hr9.cell (j := 0) rfl
    have q1 := hr9.cell (j := 1) rfl
    have q2 := hr9.cell (j := 2) rfl
    have q3 := hr9.cell (j := 3) rfl
    have f0 := hr9.free 0
    have f1 := hr9.free 1
    have f2 := hr9.free 2
    have f3 := hr9.free 3
    have l9 := hr9.lt
    have HU9 := Lib.hid hu9
    clear hr9 hu9
    go_wp2_with fail
    refine bodyPost_ret (v := .agg #[.int .i64 3, .slice none 0 0, .int .i64 0, .int .u64 0]) (by simp [results, Tryz.results91, go_sem, q0, q1, q2, q3]) rfl ?_
    rw [HE.out]
    exact MTo.keep HM.out (T := [b4]) ((HD.out.upd.trans HU9.out).nil.trans ((((((Upd.refl [b4] w9).setCell (.inl (by simp)) _).setCell (.inl (by simp)) _).setCell (.inl (by simp)) _).setCell (.inl (by simp)) _))) (fun x hx => by simp only [List.mem_cons, List.not_mem_nil, or_false] at hx; subst hx; have := HD.out.n3; have := HD.out.n4; omega) _ _ _
end Go.Proofs.YtfeobcmcellcpaaGreat

/-! Ol -/
namespace Go.Proofs.YtfeobcmcellcpaaGreat
open Go.RowKit

theorem del_ok {S : Sf} {id : Int} (h : delE S id = 0) : ∃ (i : Nat) (f : Fl), S.F[i]? = some f ∧ f.id = id ∧ delS S id = { S with F := S.F.eraseIdx i } := by
  rcases posF_cases S.F id with ⟨hpos, hno⟩ | ⟨i, f, hpos, hf, hid⟩
  · exfalso; unfold delE at h; rw [hpos] at h; simp at h
  · exact ⟨i, f, hf, hid, by unfold delS; rw [h, if_pos rfl, hpos, Int.toNat_natCast]⟩
theorem del_no {S : Sf} {id : Int} (h : delE S id ≠ 0) : delS S id = S := by unfold delS; rw [if_neg h]

set_option maxRecDepth 100000 in
set_option maxHeartbeats 16000000 in
theorem mshut_any {W w : World} {mb : Nat} {c : Cf} {m : Ms} {G : List Nat} (h : MG W mb c m G w) (k : Cl) : Calls Tryz.prog 90 #[.pointer (some ⟨mb, 0, none⟩), clV k] w (MTo W mb c (delM_ m k) G w) := by
  have HM := Lib.hid h
  obtain ⟨sb, lb, M, GS, h, hGe⟩ := h
  have hd := Deed27.new w k
  obtain ⟨w2, hw2⟩ : ∃ y, (w.alloc (.cells #[.int .i64 k.op, .int .i64 k.flow, .int .i64 k.a, .int .i64 k.b] 46)).alloc (.cells #[.int .i64 0, .slice none 0 0, .int .i64 0, .int .u64 0] 57) = y := ⟨_, rfl⟩
  obtain ⟨b3, hb3⟩ : ∃ y, w.heap.size = y := ⟨_, rfl⟩
  rw [hw2, hb3] at hd
  obtain ⟨b4, hb4⟩ : ∃ y, b3 + 1 = y := ⟨_, rfl⟩
  rw [hb4] at hd
  have HD := Lib.hid hd
  have HGE := Lib.hid hGe
  have H0 := Lib.hid h
  have y1 := hd.box.cell (j := 1) rfl
  have ly := hd.box.lt
  unfold clV
  clear hd hGe
  have hraw := h.raw.upd HD.out.upd
  obtain ⟨-, -, -, c5, c6, -, lm⟩ := hraw.cells
  have d5 : w2.drew.cell? ⟨mb, 5, none⟩ = some (.pointer (some ⟨sb, 0, none⟩)) := c5
  have ld : mb < w2.drew.heap.size := lm
  have e1 : w2.drew.cell? ⟨b3, 1, none⟩ = some (.int .i64 k.flow) := y1
  have le : b3 < w2.drew.heap.size := ly
  have HE : Hid (delM_ m k = (rtE (delE m.S k.flow), { m with S := delS m.S k.flow })) := rfl
  have HREM := Lib.hid ((hraw.upd (Upd.refl [] w2).drew).s.remove k.flow)
  have HRAW := Lib.hid (hraw.upd (Upd.refl [] w2).drew)
  obtain ⟨cd, hcd⟩ : ∃ y, delE m.S k.flow = y := ⟨_, rfl⟩
  rw [hcd] at HREM HE
  have HCD := Lib.hid hcd
  clear h hraw hcd
  go_enter Tryz.func90, Tryz.ntmps90
  go_upto_region 1 with (fail)
  refine wp_region_tail 6 (by kernel_rfl) (by kernel_rfl) ?_
  simp only [List.take_succ_cons, List.take_zero, List.drop_succ_cons, List.drop_zero]
  iterate 6 go_big_quiet_step (fail)
  refine wpQuiet_nil ?_
  go_wp2_with fail
  refine HREM.out.mono ?_
  rintro e w3 ⟨rfl, hT⟩
  obtain ⟨GS', hr3, hf3⟩ := HRAW.out.pto hT
  have HR3 := Lib.hid hr3
  have HF3 := Lib.hid hf3
  have hn3 : b3 ∉ mb :: lb :: GS := fun hm => by have := H0.out.lt b3 hm; have := HD.out.n3; omega
  have hn4 : b4 ∉ mb :: lb :: GS := fun hm => by have := H0.out.lt b4 hm; have := HD.out.n3; have := HD.out.n4; omega
  have hb3' := Blk.upd (w := w2.drew) HD.out.box hf3.2 hn3
  have hb4' := Blk.upd (w := w2.drew) HD.out.ret hf3.2 hn4
  have HB4 := Lib.hid hb4'
  clear hT y1 ly c5 c6 lm d5 ld e1 le
  by_cases hc0 : cd = 0
  · obtain ⟨i, f, hfi, hid, hS⟩ := del_ok (S := m.S) (id := k.flow) (by rw [HCD.out]; exact hc0)
    obtain ⟨w4, hdel, hmt⟩ := ((hr3.upd (Upd.refl [] w3).drew).lens).del (P := Tryz.prog) underlyingIntMap underlyingIntM k.flow 0
    obtain ⟨hr4, hf4⟩ := (hr3.upd (Upd.refl [] w3).drew).map hmt
    have hlm4 : (delM M k.flow).Perm (lenM (delS m.S k.flow).F) := by
      rw [hS, ← hid]
      exact lenM_del HRAW.out.s.srt H0.out.lm hfi
    have HOK : Hid (MOk c { m with S := delS m.S k.flow }) := H0.out.ok.erase (i := i) (by rw [hS])
    have HLM := Lib.hid hlm4
    have HR4 := Lib.hid hr4
    have HF4 : Hid (Fr (mb :: lb :: GS) (mb :: lb :: GS') w2 w4) := ((Fr.of ((Upd.refl [] w2).drew)).trans HF3.out).trans ((Fr.of ((Upd.refl [] w3).drew)).trans hf4)
    have hb6 : Blk w4 b4 57 [.int .i64 0, .slice none 0 0, .int .i64 0, .int .u64 0] := HD.out.ret.upd HF4.out.2 hn4
    have q0 := hb6.cell (j := 0) rfl
    have q1 := hb6.cell (j := 1) rfl
    have q2 := hb6.cell (j := 2) rfl
    have q3 := hb6.cell (j := 3) rfl
    have f0 := hb6.free 0
    have f1 := hb6.free 1
    have f2 := hb6.free 2
    have f3 := hb6.free 3
    have l9 := hb6.lt
    obtain ⟨-, -, -, -, c6, -, lm⟩ := hr3.cells
    have d6 : w3.drew.cell? ⟨mb, 6, none⟩ = some (.map (some lb)) := c6
    have ld : mb < w3.drew.heap.size := lm
    have e1 : w3.drew.cell? ⟨b3, 1, none⟩ = some (.int .i64 k.flow) := hb3'.cell (j := 1) rfl
    have le : b3 < w3.drew.heap.size := hb3'.lt
    clear hr3 hf3 hr4 hf4 hlm4 hmt hS hfi hid hb3' hb4' hb6
    have t1 : (cd != 0) = false := by simp [hc0]
    subst hc0
    go_upto_region 4 with (fail)
    refine wp_region_tail 6 (by kernel_rfl) (by kernel_rfl) ?_
    simp only [List.take_succ_cons, List.take_zero, List.drop_succ_cons, List.drop_zero]
    iterate 6 go_big_quiet_step (fail)
    refine wpQuiet_nil ?_
    go_wp2_with fail
    refine bodyPost_ret (v := .agg #[.int .i64 0, .slice none 0 0, .int .i64 0, .int .u64 0]) (by simp [results, Tryz.results90, go_sem, q0, q1, q2, q3]) rfl ?_
    have hu5 : Upd [b4] w4 _ := (((((Upd.refl [b4] w4).setCell (p := ⟨b4, 0, none⟩) (.inl (by simp)) (.int .i64 0)).setCell (p := ⟨b4, 1, none⟩) (.inl (by simp)) (.slice none 0 0)).setCell (p := ⟨b4, 2, none⟩) (.inl (by simp)) (.int .i64 0)).setCell (p := ⟨b4, 3, none⟩) (.inl (by simp)) (.int .u64 0))
    obtain ⟨k1, k2⟩ := MRaw.done (m' := { m with S := delS m.S k.flow }) H0.out.raw HD.out.upd HF4.out HR4.out HLM.out HOK.out (b4 := b4) (by have := HD.out.n3; have := HD.out.n4; omega) HD.out.ret.lt hu5
    rw [HE.out]
    exact ⟨_, _, rfl, k1, by rw [HGE.out]; exact k2, RtN.none_ _ _ _ _ _ _⟩
  · have HOK : Hid (delS m.S k.flow = m.S) := del_no (by rw [HCD.out]; exact hc0)
    have t1 : (cd != 0) = true := by simp [hc0]
    clear hr3 hf3 hb3' hc0
    go_wp2_with fail
    refine (mrefused_any _ _).mono ?_
    rintro e9 w9 ⟨rfl, hu9⟩
    have hr9 := HB4.out.upd hu9 (by simp)
    have HR9 := Lib.hid hr9
    have q0 := hr9.cell (j := 0) rfl
    have q1 := hr9.cell (j := 1) rfl
    have q2 := hr9.cell (j := 2) rfl
    have q3 := hr9.cell (j := 3) rfl
    have f0 := hr9.free 0
    have f1 := hr9.free 1
    have f2 := hr9.free 2
    have f3 := hr9.free 3
    have l9 := hr9.lt
    have HU9 := Lib.hid hu9
    clear hr9 hu9
    go_wp2_with fail
    refine bodyPost_ret (v := .agg #[.int .i64 cd, .slice none 0 0, .int .i64 0, .int .u64 0]) (by simp [results, Tryz.results90, go_sem, q0, q1, q2, q3]) rfl ?_
    have hu5 : Upd [b4] w9 _ := (((((Upd.refl [b4] w9).setCell (p := ⟨b4, 0, none⟩) (.inl (by simp)) (.int .i64 cd)).setCell (p := ⟨b4, 1, none⟩) (.inl (by simp)) (.slice none 0 0)).setCell (p := ⟨b4, 2, none⟩) (.inl (by simp)) (.int .i64 0)).setCell (p := ⟨b4, 3, none⟩) (.inl (by simp)) (.int .u64 0))
    have hr := HR3.out.upd HU9.out
    rw [HOK.out] at hr
    obtain ⟨k1, k2⟩ := MRaw.done (m' := m) H0.out.raw HD.out.upd (((Fr.of (Upd.refl [] w2).drew).trans HF3.out).up HU9.out) hr H0.out.lm H0.out.ok (b4 := b4) (by have := HD.out.n3; have := HD.out.n4; omega) HD.out.ret.lt hu5
    rw [HE.out, HOK.out]
    exact ⟨_, _, rfl, k1, by rw [HGE.out]; exact k2, RtN.none_ _ _ _ _ _ _⟩
end Go.Proofs.YtfeobcmcellcpaaGreat

/-! Om -/
namespace Go.Proofs.YtfeobcmcellcpaaGreat
open Go.RowKit

theorem serv_cases (S : Sf) : (servP S = none ∧ bestF S.F = -1) ∨ ∃ (b : Nat) (f : Fl) (p : Pk) (l : List Pk), bestF S.F = b ∧ S.F[b]? = some f ∧ f.L = p :: l ∧ servP S = some p := by
  rcases best_spec S.F S.F.length (Nat.le_refl _) with ⟨h1, -⟩ | ⟨b, f, h1, -, h3, h4, -⟩
  · have h1' : bestF S.F = -1 := h1
    exact .inl ⟨by unfold servP; rw [h1', if_pos (by omega)], h1'⟩
  · have h1' : bestF S.F = b := h1
    obtain ⟨p, l, hL⟩ : ∃ p l, f.L = p :: l := by
      cases hc : f.L with
      | nil => unfold nonE at h4; rw [hc] at h4; simp at h4
      | cons p l => exact ⟨p, l, rfl⟩
    exact .inr ⟨b, f, p, l, h1', h3, hL, by unfold servP; rw [h1', if_neg (by omega), flAt_get h3, hL]; rfl⟩

set_option maxRecDepth 100000 in
set_option maxHeartbeats 16000000 in
theorem mdequeue_any {W w : World} {mb : Nat} {c : Cf} {m : Ms} {G : List Nat} (h : MG W mb c m G w) (hn : m.n ≤ 9223372036854775806) (k : Cl) : Calls Tryz.prog 92 #[.pointer (some ⟨mb, 0, none⟩), clV k] w (MTo W mb c (oneM m) G w) := by
  have HM := Lib.hid h
  obtain ⟨sb, lb, M, GS, h, hGe⟩ := h
  have hd := Deed27.new w k
  obtain ⟨w2, hw2⟩ : ∃ y, (w.alloc (.cells #[.int .i64 k.op, .int .i64 k.flow, .int .i64 k.a, .int .i64 k.b] 46)).alloc (.cells #[.int .i64 0, .slice none 0 0, .int .i64 0, .int .u64 0] 57) = y := ⟨_, rfl⟩
  obtain ⟨b3, hb3⟩ : ∃ y, w.heap.size = y := ⟨_, rfl⟩
  rw [hw2, hb3] at hd
  obtain ⟨b4, hb4⟩ : ∃ y, b3 + 1 = y := ⟨_, rfl⟩
  rw [hb4] at hd
  have HD := Lib.hid hd
  have HGE := Lib.hid hGe
  have H0 := Lib.hid h
  unfold clV
  clear hd hGe
  have hraw := h.raw.upd HD.out.upd
  obtain ⟨-, -, -, c5, -, -, lm⟩ := hraw.cells
  have HSRV := Lib.hid (hraw.s.serve (by have := h.ok.small; omega))
  have HRAW := Lib.hid hraw
  have hn4 : b4 ∉ mb :: lb :: GS := fun hm => by have := H0.out.lt b4 hm; have := HD.out.n3; have := HD.out.n4; omega
  clear h hraw
  rcases serv_cases m.S with ⟨hsp, hbe⟩ | ⟨bb, f, p, l, hbe, hfb, hL, hsp⟩
  · have HE : Hid (oneM m = (rtE 10, { m with S := servS m.S })) := by unfold Hid oneM; rw [hsp]
    have hv := servV_no hbe
    rw [hv.1] at HSRV
    have HS : Hid ((servS m.S).F = m.S.F) := by unfold Hid; rw [hv.2]
    clear hsp hbe hv
    go_enter Tryz.func92, Tryz.ntmps92
    go_wp2_with fail
    refine HSRV.out.mono ?_
    rintro e w3 ⟨rfl, hT⟩
    obtain ⟨GS', hr3, hf3⟩ := HRAW.out.pto hT
    have HR3 := Lib.hid hr3
    have HF3 := Lib.hid hf3
    have hb4' := HD.out.ret.upd hf3.2 hn4
    have HB4 := Lib.hid (hb4'.alloc (.cells #[.int .i64 0, .int .i64 0, .int .i64 0] 54))
    clear hT hr3 hf3 hb4' c5 lm
    go_wp2_with fail
    refine (mrefused_any _ _).mono ?_
    rintro e9 w9 ⟨rfl, hu9⟩
    have hr9 := HB4.out.upd hu9 (by simp)
    have HR9 := Lib.hid hr9
    have q0 := hr9.cell (j := 0) rfl
    have q1 := hr9.cell (j := 1) rfl
    have q2 := hr9.cell (j := 2) rfl
    have q3 := hr9.cell (j := 3) rfl
    have f0 := hr9.free 0
    have f1 := hr9.free 1
    have f2 := hr9.free 2
    have f3 := hr9.free 3
    have l9 := hr9.lt
    have HU9 := Lib.hid hu9
    clear hr9 hu9
    go_wp2_with fail
    refine bodyPost_ret (v := .agg #[.int .i64 10, .slice none 0 0, .int .i64 0, .int .u64 0]) (by simp [results, Tryz.results92, go_sem, q0, q1, q2, q3]) rfl ?_
    have hu5 : Upd [b4] w9 _ := (((((Upd.refl [b4] w9).setCell (p := ⟨b4, 0, none⟩) (.inl (by simp)) (.int .i64 10)).setCell (p := ⟨b4, 1, none⟩) (.inl (by simp)) (.slice none 0 0)).setCell (p := ⟨b4, 2, none⟩) (.inl (by simp)) (.int .i64 0)).setCell (p := ⟨b4, 3, none⟩) (.inl (by simp)) (.int .u64 0))
    have hr := (HR3.out.upd ((Upd.refl [] w3).alloc (.cells #[.int .i64 0, .int .i64 0, .int .i64 0] 54))).upd HU9.out
    obtain ⟨k1, k2⟩ := MRaw.done (m' := { m with S := servS m.S }) H0.out.raw HD.out.upd ((HF3.out.up ((Upd.refl [] w3).alloc (.cells #[.int .i64 0, .int .i64 0, .int .i64 0] 54))).up HU9.out) hr (by rw [HS.out]; exact H0.out.lm) (H0.out.ok.ids_ (by rw [HS.out]) (by rw [HS.out]; exact H0.out.ok.pk)) (b4 := b4) (by have := HD.out.n3; have := HD.out.n4; omega) HD.out.ret.lt hu5
    rw [HE.out]
    exact ⟨_, _, rfl, k1, by rw [HGE.out]; exact k2, RtN.none_ _ _ _ _ _ _⟩
  · have HE : Hid (oneM m = (⟨0, [p], 0, 0⟩, ⟨servS m.S, m.n + 1⟩)) := by unfold Hid oneM; rw [hsp]
    have hv := servV_yes hbe hfb hL
    rw [hv.1] at HSRV
    have hpf : p.flow = f.id := H0.out.ok.pk f (List.mem_of_getElem? hfb) p (by rw [hL]; simp)
    have HFB := Lib.hid hfb
    have HL := Lib.hid hL
    have HPF := Lib.hid hpf
    have HS : Hid ((servS m.S).F = m.S.F.set bb (flTake f p)) := by unfold Hid; rw [hv.2]
    clear hsp hbe hv hfb hpf hL
    go_enter Tryz.func92, Tryz.ntmps92
    go_wp2_with fail
    refine HSRV.out.mono ?_
    rintro e w3 ⟨rfl, hT⟩
    obtain ⟨GS', hr3, hf3⟩ := HRAW.out.pto hT
    have HR3 := Lib.hid hr3
    have HF3 := Lib.hid hf3
    have hb4' := HD.out.ret.upd hf3.2 hn4
    have HB4 := Lib.hid (hb4'.alloc (.cells #[.int .i64 p.flow, .int .i64 p.len, .int .i64 p.mark] 54))
    clear hT c5 lm
    go_upto_region 4 with (fail)
    obtain ⟨w4, hw4⟩ : ∃ y, w3.alloc (.cells #[.int .i64 p.flow, .int .i64 p.len, .int .i64 p.mark] 54) = y := ⟨_, rfl⟩
    obtain ⟨bp, hbp⟩ : ∃ y, w3.heap.size = y := ⟨_, rfl⟩
    have hu4 : Upd [] w3 w4 := by rw [← hw4]; exact (Upd.refl [] w3).alloc _
    have hp4 : Blk w4 bp 54 (pkVs p) := by rw [← hw4, ← hbp]; exact Blk.new w3 54 (pkVs p)
    have hr4 := hr3.upd hu4
    rw [hw4] at HB4
    have hnp : bp ∉ mb :: lb :: GS' := fun hm => by have := hr3.lt bp hm; omega
    rw [hw4, hbp]
    obtain ⟨nl, hnl⟩ : ∃ y, f.L.length = y := ⟨_, rfl⟩
    have hnl1 : 1 ≤ nl := by rw [← hnl, HL.out]; simp
    have hfk := HRAW.out.s.flok f (List.mem_of_getElem? HFB.out)
    have hnl8 : nl ≤ 8 := by have h1 := hfk.most; have h2 := hfk.len; omega
    have hlo := lenM_look HRAW.out.s.srt H0.out.lm HFB.out
    rw [← HPF.out, hnl] at hlo
    have hlk := lookLen (w := w4.drew) (hr4.lens.upd (Upd.refl [] w4).drew (by simp)) p.flow
    rw [hlo] at hlk
    simp only [Option.getD_some] at hlk
    obtain ⟨w5, hput, hmt⟩ := ((hr4.upd (Upd.refl [] w4).drew).lens).put (P := Tryz.prog) underlyingIntMap underlyingIntM p.flow (.int .i64 ((nl : Int) - 1))
    obtain ⟨hr5, hf5⟩ := (hr4.upd (Upd.refl [] w4).drew).map hmt
    have hlm5 : (putM M p.flow (.int .i64 ((nl : Int) - 1))).Perm (lenM (servS m.S).F) := by
      rw [HS.out]
      have := lenM_put (f' := flTake f p) HRAW.out.s.srt H0.out.lm HFB.out rfl
      rw [← HPF.out] at this
      have e : (((flTake f p).L.length : Nat) : Int) = (nl : Int) - 1 := by
        show ((f.L.tail.length : Nat) : Int) = _
        rw [List.length_tail, hnl]; omega
      rw [e] at this
      exact this
    have HLM := Lib.hid hlm5
    have HOK : Hid (MOk c ⟨servS m.S, m.n + 1⟩) := H0.out.ok.ids_ (by rw [HS.out]; exact ids_setF HFB.out rfl) (by rw [HS.out]; exact pk_set H0.out.ok.pk (fun q hq => H0.out.ok.pk f (List.mem_of_getElem? HFB.out) q (List.mem_of_mem_tail hq)))
    obtain ⟨hr6, hf6⟩ := hr5.num (m.n + 1)
    have HR6 := Lib.hid hr6
    have hp5 : Blk w5 bp 54 (pkVs p) := hp4.upd (((Fr.of (Upd.refl [] w4).drew).trans hf5).2) hnp
    have HF6 : Hid (Fr (mb :: lb :: GS) (mb :: lb :: GS') w2 (w5.setCell ⟨mb, 7, none⟩ (.int .i64 ((m.n + 1 : Nat) : Int)))) := (HF3.out.up (hu4.trans (Upd.refl [] w4).drew)).trans (hf5.trans hf6)
    have hb6 : Blk (w5.setCell ⟨mb, 7, none⟩ (.int .i64 ((m.n + 1 : Nat) : Int))) b4 57 [.int .i64 0, .slice none 0 0, .int .i64 0, .int .u64 0] := HD.out.ret.upd HF6.out.2 hn4
    have hp6 : Blk (w5.setCell ⟨mb, 7, none⟩ (.int .i64 ((m.n + 1 : Nat) : Int))) bp 54 (pkVs p) := hp5.upd hf6.2 hnp
    obtain ⟨-, -, -, -, c6, -, lm⟩ := hr4.cells
    have d6 : w4.drew.cell? ⟨mb, 6, none⟩ = some (.map (some lb)) := c6
    have ld : mb < w4.drew.heap.size := lm
    have e0 : w4.drew.cell? ⟨bp, 0, none⟩ = some (.int .i64 p.flow) := hp4.cell (j := 0) rfl
    have le : bp < w4.drew.heap.size := hp4.lt
    obtain ⟨-, -, -, -, -, g7, lg⟩ := hr5.cells
    have z7 := hr5.blk.free 7
    have HB6 := Lib.hid hb6
    have HP6 := Lib.hid hp6
    clear hw4 hu4 hr4 hnp hfk hlo hmt hr5 hf5 hlm5 hr6 hf6 hp5 hb6 hp6 hp4 hr3 hf3 hb4' hnl HB4
    refine wp_region_tail 6 (by kernel_rfl) (by kernel_rfl) ?_
    simp only [List.take_succ_cons, List.take_zero, List.drop_succ_cons, List.drop_zero]
    iterate 6 go_big_quiet_step (fail)
    refine wpQuiet_nil ?_
    go_upto_region 5 with (fail)
    go_upto_region 6 with (fail)
    obtain ⟨w6, hw6⟩ : ∃ y, w5.setCell ⟨mb, 7, none⟩ (.int .i64 ((m.n : Int) + 1)) = y := ⟨_, rfl⟩
    have e6 : w5.setCell ⟨mb, 7, none⟩ (.int .i64 ((m.n + 1 : Nat) : Int)) = w6 := by rw [show ((m.n + 1 : Nat) : Int) = (m.n : Int) + 1 by omega]; exact hw6
    rw [e6] at HR6 HF6 HB6 HP6
    rw [hw6]
    clear hw6 e6 hput hlk d6 ld e0 le g7 lg z7
    have v0 := HP6.out.cell (j := 0) rfl
    have v1 := HP6.out.cell (j := 1) rfl
    have v2 := HP6.out.cell (j := 2) rfl
    have lv := HP6.out.lt
    have q0 := HB6.out.cell (j := 0) rfl
    have q1 := HB6.out.cell (j := 1) rfl
    have q2 := HB6.out.cell (j := 2) rfl
    have q3 := HB6.out.cell (j := 3) rfl
    have f0 := HB6.out.free 0
    have f1 := HB6.out.free 1
    have f2 := HB6.out.free 2
    have f3 := HB6.out.free 3
    have l9 := HB6.out.lt
    go_wp2_with fail
    refine bodyPost_ret (v := .agg #[.int .i64 0, .slice (some ⟨w6.heap.size, 0, none⟩) 1 1, .int .i64 0, .int .u64 0]) (by simp [results, Tryz.results92, go_sem, q0, q1, q2, q3, l9]) rfl ?_
    obtain ⟨wq, hwq⟩ : ∃ y, (((w6.setCell ⟨b4, 0, none⟩ (.int .i64 0)).setCell ⟨b4, 1, none⟩ (.slice (some ⟨w6.heap.size, 0, none⟩) 1 1)).setCell ⟨b4, 2, none⟩ (.int .i64 0)).setCell ⟨b4, 3, none⟩ (.int .u64 0) = y := ⟨_, rfl⟩
    have hsz : wq.heap.size = w6.heap.size := by rw [← hwq]; simp
    have huq : Upd [b4] w6 wq := by rw [← hwq]; exact (((((Upd.refl [b4] w6).setCell (.inl (by simp)) _).setCell (.inl (by simp)) _).setCell (.inl (by simp)) _).setCell (.inl (by simp)) _)
    rw [hwq]
    have hbs := Blk.new wq 54 (pkVs p)
    obtain ⟨bs, hbse⟩ : ∃ y, w6.heap.size = y := ⟨_, rfl⟩
    rw [hsz, hbse] at hbs
    rw [hbse]
    have hu5 : Upd [b4] w6 (wq.alloc (.cells #[.int .i64 p.flow, .int .i64 p.len, .int .i64 p.mark] 54)) := huq.alloc _
    obtain ⟨k1, k2⟩ := MRaw.done (m' := ⟨servS m.S, m.n + 1⟩) H0.out.raw HD.out.upd HF6.out HR6.out HLM.out HOK.out (b4 := b4) (by have := HD.out.n3; have := HD.out.n4; omega) HD.out.ret.lt hu5
    rw [HE.out]
    refine ⟨_, _, rfl, k1, by rw [HGE.out]; exact k2, some ⟨bs, 0, none⟩, 1, rfl, ?_, fun x hx => ?_⟩
    · have hrow : Row (wq.alloc (.cells #[.int .i64 p.flow, .int .i64 p.len, .int .i64 p.mark] 54)) 54 3 bs 1 1 (pkVs p) := Row.mk' (cur := #[.int .i64 p.flow, .int .i64 p.len, .int .i64 p.mark]) rfl hbs (Nat.le_refl _) (by unfold maxLen; omega) rfl rfl
      simpa using hrow.o
    · simp only [blkO, List.mem_cons, List.not_mem_nil, or_false] at hx
      subst hx
      have hs := HF6.out.2.size
      have hs2 := HD.out.upd.size
      exact ⟨by omega, fun hm => by have := HR6.out.lt x hm; omega⟩
end Go.Proofs.YtfeobcmcellcpaaGreat
