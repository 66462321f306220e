/-
  The points of a trace, in plain words and in memory. No condition.
-/
import Derived.Test.YtfeobcmcellcpaaGreatPe
import Derived.Test.YtfeobcmcellcpaaGreatMi
import Derived.Test.YtfeobcmcellcpaaGreatRa0
set_option linter.unusedVariables false
set_option linter.unusedSimpArgs false
namespace Go.Proofs.YtfeobcmcellcpaaGreat
open Go.RowKit

def lastOf : Option Int → List Pt → Option Int
  | s, [] => s
  | _, x :: l => lastOf (some x.step) l
theorem lastOf_snoc (s : Option Int) (l : List Pt) (x : Pt) : lastOf s (l ++ [x]) = some x.step := by
  induction l generalizing s with
  | nil => rfl
  | cons y l ih => exact ih _
theorem runM_snoc {p : Pl} {X : List Pt} {x : Pt} {k : Cl} : ∀ {last : Option Int} {m0 m : Ms}, runM p X last m0 = some m → callP p.L x = some k → behind (lastOf last X) x.step = true → rtSame (doM p.c m k).1 x.r = true → runM p (X ++ [x]) last m0 = some (doM p.c m k).2 := by
  induction X with
  | nil =>
    intro last m0 m h hc hb hs
    simp only [runM, Option.some.injEq] at h
    subst h
    simp only [lastOf] at hb
    simp [runM, hc, hb, hs]
  | cons y X ih =>
    intro last m0 m h hc hb hs
    simp only [runM, List.cons_append] at h ⊢
    cases e : callP p.L y with
    | none => rw [e] at h; cases h
    | some q =>
      rw [e] at h
      simp only at h ⊢
      split at h
      · rename_i h1
        rw [if_pos h1]
        exact ih h hc hb hs
      · cases h
theorem rtSame_self (r : Rt) : rtSame r r = true := by
  have : eqPk r.L r.L = true := eqPk_iff.2 rfl
  simp [rtSame, this]

/-- The first ones of points that play, play. -/
theorem runM_take {p : Pl} : ∀ {X : List Pt} {last : Option Int} {m0 m : Ms} (_ : runM p X last m0 = some m) (k : Nat), ∃ m', runM p (X.take k) last m0 = some m' := by
  intro X
  induction X with
  | nil => intro last m0 m h k; rw [List.take_nil]; exact ⟨m, h⟩
  | cons y X ih =>
    intro last m0 m h k
    cases k with
    | zero => exact ⟨m0, rfl⟩
    | succ k =>
      simp only [runM, List.take_succ_cons] at h ⊢
      cases e : callP p.L y with
      | none => rw [e] at h; cases h
      | some q =>
        rw [e] at h
        simp only at h ⊢
        split at h
        · rename_i h1
          rw [if_pos h1]
          exact ih h k
        · cases h
theorem oneM_bd (m : Ms) : 0 ≤ (oneM m).1.n ∧ (oneM m).1.L.length ≤ 1 ∧ ((oneM m).1.e = 0 ∨ (oneM m).1.e = 10) := by
  unfold oneM
  cases servP m.S with
  | none => simp [rtE]
  | some p => simp
theorem batM_bd : ∀ (k : Nat) (m : Ms) (L : List Pk), 0 ≤ (batM k m L).1.n ∧ (batM k m L).1.L.length ≤ L.length + k := by
  intro k
  induction k with
  | zero => intro m L; simp [batM]
  | succ k ih =>
    intro m L
    unfold batM
    split
    · have h1 := ih (oneM m).2 (L ++ (oneM m).1.L)
      have h2 := (oneM_bd m).2.1
      rw [List.length_append] at h1
      exact ⟨h1.1, by omega⟩
    · simp
theorem doM_bd (c : Cf) (m : Ms) (k : Cl) : 0 ≤ (doM c m k).1.n ∧ (doM c m k).1.L.length ≤ 16 := by
  unfold doM
  split
  · simp [regM, rtE]
  split
  · simp [delM_, rtE]
  split
  · unfold enqM; split <;> simp [rtE]
  split
  · have := oneM_bd m; exact ⟨this.1, by omega⟩
  split
  · unfold batchM
    split
    · simp [rtE]
    · rename_i h
      have := batM_bd k.a.toNat m []
      simp only [List.length_nil, Nat.zero_add] at this
      exact ⟨this.1, by omega⟩
  split
  · simp [statM]
  · simp [rtE]

/-! ### In memory -/
structure TrX (w wr : World) (ao : Option Addr) (k cap : Nat) (X : List Pt) (F : List Nat) : Prop where
  row : RowO wr 59 7 ao k cap (X.flatMap ptVs)
  len : X.length = k
  new : ∀ c ∈ blkO ao, w.heap.size ≤ c ∧ c ∉ F
  pts : ∀ x ∈ X, PtAt wr x ∧ ∀ c ∈ lvB x.lv, w.heap.size ≤ c ∧ c ∉ F ∧ c ∉ blkO ao
theorem TrX.nil (w wr : World) (F : List Nat) : TrX w wr none 0 0 [] F := ⟨RowO.nil _ _ _, rfl, fun c hc => (by cases hc), fun x hx => (by cases hx)⟩
theorem TrX.upd {w wr w' : World} {ao : Option Addr} {k cap : Nat} {X : List Pt} {F F' T : List Nat} (h : TrX w wr ao k cap X F) (hu : Upd T wr w') (hT : ∀ c ∈ T, c ∈ F ∨ c < w.heap.size ∨ wr.heap.size ≤ c) (hF : ∀ c ∈ F', c ∈ F ∨ c < w.heap.size ∨ wr.heap.size ≤ c) : TrX w w' ao k cap X F' := by
  have hn : ∀ c, w.heap.size ≤ c → c < wr.heap.size → c ∉ F → c ∉ T ∧ c ∉ F' := fun c h1 h2 h3 => ⟨fun hm => by rcases hT c hm with h | h | h; exact h3 h; omega; omega, fun hm => by rcases hF c hm with h | h | h; exact h3 h; omega; omega⟩
  refine ⟨h.row.upd hu (fun c hc => (hn c (h.new c hc).1 (h.row.lt c hc) (h.new c hc).2).1), h.len, fun c hc => ⟨(h.new c hc).1, (hn c (h.new c hc).1 (h.row.lt c hc) (h.new c hc).2).2⟩, fun x hx => ?_⟩
  obtain ⟨h1, h2⟩ := h.pts x hx
  have hl := SlAt.lvB_lt h1
  exact ⟨SlAt.updS h1 hu (fun c hc => (hn c (h2 c hc).1 (hl c hc) (h2 c hc).2.1).1), fun c hc => ⟨(h2 c hc).1, (hn c (h2 c hc).1 (hl c hc) (h2 c hc).2.1).2, (h2 c hc).2.2⟩⟩
theorem TrX.push {w wr w' : World} {ao ao' : Option Addr} {k cap cap' : Nat} {X : List Pt} {F : List Nat} {y : Pt} (h : TrX w wr ao k cap X F) (hw : w.heap.size ≤ wr.heap.size) (hF : ∀ c ∈ F, c < wr.heap.size) (hA : Apped wr 59 7 ao (k + 1) (X.flatMap ptVs ++ ptVs y) ao' cap' w') (hy : PtAt wr y) (hb : ∀ c ∈ lvB y.lv, w.heap.size ≤ c ∧ c ∉ F ∧ c ∉ blkO ao) : TrX w w' ao' (k + 1) cap' (X ++ [y]) F := by
  have hall : ∀ x ∈ X ++ [y], PtAt wr x ∧ ∀ c ∈ lvB x.lv, w.heap.size ≤ c ∧ c ∉ F ∧ c ∉ blkO ao := fun x hx => by
    rcases List.mem_append.1 hx with hx | hx
    · exact h.pts x hx
    · simp only [List.mem_cons, List.not_mem_nil, or_false] at hx
      subst hx; exact ⟨hy, hb⟩
  refine ⟨by rw [List.flatMap_append]; simpa using hA.row, by rw [List.length_append, h.len]; rfl, fun c hc => ?_, fun x hx => ?_⟩
  · rcases hA.at_ c hc with h3 | h3
    · exact h.new c h3
    · exact ⟨by omega, fun hm => by have := hF c hm; omega⟩
  · obtain ⟨h1, h2⟩ := hall x hx
    have hl := SlAt.lvB_lt h1
    refine ⟨SlAt.updS h1 hA.upd (fun c hc => (h2 c hc).2.2), fun c hc => ⟨(h2 c hc).1, (h2 c hc).2.1, fun hm => ?_⟩⟩
    rcases hA.at_ c hm with h3 | h3
    · exact (h2 c hc).2.2 h3
    · have := hl c hc; omega
theorem TrX.at_ {w wr : World} {ao : Option Addr} {k cap : Nat} {X : List Pt} {F : List Nat} (h : TrX w wr ao k cap X F) : PtsAt' wr (.slice ao k cap) X := ⟨by rw [h.len]; exact h.row.sl, fun x hx => (h.pts x hx).1⟩

/-- The numbers in a row. -/
def inV (a : Int) : List Value := [.int .i64 a]
theorem inV_len (a : Int) : (inV a).length = 1 := rfl
structure TrG (w w0 : World) (mb ba bl : Nat) (G0 : List Nat) : Prop where
  ne : ba ≠ bl
  ha : ba < w0.heap.size ∧ ba ∉ G0 ∧ w.heap.size ≤ ba
  hl : bl < w0.heap.size ∧ bl ∉ G0 ∧ w.heap.size ≤ bl
  g0 : ∀ x ∈ G0, x < w0.heap.size ∧ w.heap.size ≤ x
  up : Upd [] w w0
structure TrS (w w0 wr : World) (mb ba bl n : Nat) (p : Pl) (G0 : List Nat) (i : Nat) (s : Int) (ao : Option Addr) (k cap : Nat) (X : List Pt) (m : Ms) (G : List Nat) (va vl : List Int) : Prop where
  trx : TrX w0 wr ao k cap X (ba :: bl :: G)
  ki : k ≤ i
  s0 : 0 ≤ s ∧ s ≤ 3 * i
  run : runM p X none ms0 = some m
  last : ∀ l, lastOf none X = some l → l ≤ s
  pts : ∀ x ∈ X, 0 ≤ x.step ∧ x.step ≤ 3 * i ∧ 0 ≤ x.r.n ∧ x.r.L.length ≤ 16
  mod : DG w mb p.c m G wr
  g : ∀ x ∈ G, x ∈ G0 ∨ w0.heap.size ≤ x
  mn : m.n ≤ 16 * i
  rowA : Row wr 3 1 ba n n (va.flatMap inV)
  lenA : va.length = n
  a0 : ∀ a ∈ va, 0 ≤ a
  rowL : Row wr 3 1 bl n n (vl.flatMap inV)
  lenL : vl.length = n
  l0 : ∀ a ∈ vl, 0 ≤ a ∧ a ≤ 16
  upd : Upd (ba :: bl :: G0) w0 wr
section
variable {w w0 wr w' : World} {mb ba bl n : Nat} {p : Pl} {G0 : List Nat} {i : Nat} {s : Int} {ao : Option Addr} {k cap : Nat} {X : List Pt} {m : Ms} {G : List Nat} {va vl : List Int}
theorem TrS.far (h : TrS w w0 wr mb ba bl n p G0 i s ao k cap X m G va vl) (hg : TrG w w0 mb ba bl G0) : ba ∉ G ∧ bl ∉ G :=
  ⟨fun hm => by rcases h.g _ hm with e | e; exact hg.ha.2.1 e; have := hg.ha.1; omega, fun hm => by rcases h.g _ hm with e | e; exact hg.hl.2.1 e; have := hg.hl.1; omega⟩
theorem TrS.uw (h : TrS w w0 wr mb ba bl n p G0 i s ao k cap X m G va vl) (hg : TrG w w0 mb ba bl G0) : Upd [] w wr :=
  hg.up.then h.upd (fun _ _ e => e) (fun j hj hm => by
    rcases List.mem_cons.1 hm with e | hm
    · have := hg.ha.2.2; omega
    · rcases List.mem_cons.1 hm with e | hm
      · have := hg.hl.2.2; omega
      · have := (hg.g0 j hm).2; omega)
theorem TrS.upd' (h : TrS w w0 wr mb ba bl n p G0 i s ao k cap X m G va vl) (hu : Upd [] wr w') : TrS w w0 w' mb ba bl n p G0 i s ao k cap X m G va vl :=
  { h with
    trx := h.trx.upd hu (fun c hc => by cases hc) (fun c hc => .inl hc)
    mod := h.mod.upd hu
    rowA := h.rowA.upd hu (by simp)
    rowL := h.rowL.upd hu (by simp)
    upd := h.upd.trans hu.nil }

/-- A round in which nothing is done. -/
theorem TrS.pass (h : TrS w w0 wr mb ba bl n p G0 i s ao k cap X m G va vl) (s' : Int) (h1 : s ≤ s') (h2 : s' ≤ s + 3) : TrS w w0 wr mb ba bl n p G0 (i + 1) s' ao k cap X m G va vl :=
  { h with
    ki := by have := h.ki; omega
    s0 := by have := h.s0; omega
    last := fun l hl => by have := h.last l hl; omega
    pts := fun x hx => by have := h.pts x hx; exact ⟨this.1, by omega, this.2.2⟩
    mn := by have := h.mn; omega }
theorem TrS.step {w6 w7 w8 w9 w10 : World} {G' T : List Nat} {q : Cl} {va' vl' : List Int} {y : Pt} {ao' : Option Addr} {cap' : Nat} {s' : Int} (h : TrS w w0 wr mb ba bl n p G0 i s ao k cap X m G va vl) (hg : TrG w w0 mb ba bl G0)
    (hu6 : Upd [bl] wr w6) (hd : DG w mb p.c (doM p.c m q).2 G' w7) (hf : Fr G G' w6 w7) (hu8 : Upd T w7 w8) (hT : ∀ c ∈ T, c = ba ∨ c = bl ∨ (wr.heap.size ≤ c ∧ c < w6.heap.size))
    (hA : Row w8 3 1 ba n n (va'.flatMap inV)) (hA1 : va'.length = n) (hA2 : ∀ a ∈ va', 0 ≤ a) (hL : Row w8 3 1 bl n n (vl'.flatMap inV)) (hL1 : vl'.length = n) (hL2 : ∀ a ∈ vl', 0 ≤ a ∧ a ≤ 16)
    (hu9 : Upd [] w8 w9) (hap : Apped w9 59 7 ao (k + 1) (X.flatMap ptVs ++ ptVs y) ao' cap' w10) (hy : PtAt w9 y) (hyb : ∀ c ∈ lvB y.lv, w6.heap.size ≤ c ∧ c ∉ G')
    (hcall : callP p.L y = some q) (hst : y.step = s') (h1 : s < s') (h2 : s' ≤ s + 3) (hr : y.r = (doM p.c m q).1) : TrS w w0 w10 mb ba bl n p G0 (i + 1) s' ao' (k + 1) cap' (X ++ [y]) (doM p.c m q).2 G' va' vl' := by
  have z6 := hu6.size
  have z7 := hf.2.size
  have z8 := hu8.size
  have z9 := hu9.size
  have zw := h.upd.size
  obtain ⟨na, nl⟩ := h.far hg
  have hGlt := h.mod.lt
  have hG' : ∀ x ∈ G', x ∈ G0 ∨ w0.heap.size ≤ x := fun x hx => by
    rcases hf.1 x hx with e | e
    · exact h.g x e
    · right; omega
  have na' : ba ∉ G' := fun hm => by rcases hG' _ hm with e | e; exact hg.ha.2.1 e; have := hg.ha.1; omega
  have nl' : bl ∉ G' := fun hm => by rcases hG' _ hm with e | e; exact hg.hl.2.1 e; have := hg.hl.1; omega
  have hG'6 : ∀ x ∈ G', x ∈ G ∨ w6.heap.size ≤ x := hf.1
  have hGT : ∀ x ∈ G', x ∉ T := fun x hx hm => by
    rcases hT x hm with e | e | e
    · exact na' (e ▸ hx)
    · exact nl' (e ▸ hx)
    · rcases hG'6 x hx with e' | e'
      · have := hGlt x e'; omega
      · omega
  have hnew := h.trx.new
  have hrow := h.trx.row.lt
  have hba : ba ∉ blkO ao := fun hm => (hnew ba hm).2 (by simp)
  have hbl : bl ∉ blkO ao := fun hm => (hnew bl hm).2 (by simp)
  have haoG : ∀ x ∈ blkO ao, x ∉ G' := fun x hx hm => by
    have h3 := (hnew x hx).2
    rcases hG'6 x hm with e | e
    · exact h3 (by simp [e])
    · have := hrow x hx; omega
  have trx7 : TrX w0 w7 ao k cap X (ba :: bl :: G') :=
    (h.trx.upd (F' := ba :: bl :: G) hu6 (fun c hc => .inl (by simp only [List.mem_cons, List.not_mem_nil, or_false] at hc; simp [hc])) (fun c hc => .inl hc)).upd hf.2 (fun c hc => .inl (by simp [hc])) (fun c hc => by
      rcases List.mem_cons.1 hc with e | hc
      · exact .inl (by simp [e])
      · rcases List.mem_cons.1 hc with e | hc
        · exact .inl (by simp [e])
        · rcases hG'6 c hc with e | e
          · exact .inl (by simp [e])
          · exact .inr (.inr e))
  have trx9 : TrX w0 w9 ao k cap X (ba :: bl :: G') := by
    refine TrX.upd (F := ba :: bl :: G') (F' := ba :: bl :: G') (T := []) ?_ hu9 (fun c hc => by cases hc) (fun c hc => .inl hc)
    refine ⟨trx7.row.upd hu8 (fun c hc hm => ?_), trx7.len, trx7.new, fun x hx => ?_⟩
    · rcases hT c hm with e | e | e
      · exact hba (e ▸ hc)
      · exact hbl (e ▸ hc)
      · have := hrow c hc; omega
    · obtain ⟨k1, k2⟩ := trx7.pts x hx
      refine ⟨SlAt.updS k1 hu8 (fun c hc hm => ?_), k2⟩
      have k3 := (k2 c hc).2.1
      rcases hT c hm with e | e | e
      · exact k3 (by simp [e])
      · exact k3 (by simp [e])
      · have := SlAt.lvB_lt (h.trx.pts x hx).1 c hc; omega
  have hfin : TrX w0 w10 ao' (k + 1) cap' (X ++ [y]) (ba :: bl :: G') := by
    refine trx9.push (by omega) (fun c hc => ?_) hap hy (fun c hc => ?_)
    · rcases List.mem_cons.1 hc with e | hc
      · have := hg.ha.1; omega
      · rcases List.mem_cons.1 hc with e | hc
        · have := hg.hl.1; omega
        · have := hd.lt c hc; omega
    · have h3 := hyb c hc
      refine ⟨by omega, fun hm => ?_, fun hm => by have := hrow c hm; omega⟩
      rcases List.mem_cons.1 hm with e | hm
      · have := hg.ha.1; omega
      · rcases List.mem_cons.1 hm with e | hm
        · have := hg.hl.1; omega
        · exact h3.2 hm
  have bd := doM_bd p.c m q
  exact {
    trx := hfin
    ki := by have := h.ki; omega
    s0 := by have := h.s0; omega
    run := runM_snoc h.run hcall (by
      cases e : lastOf none X with
      | none => rfl
      | some l => have := h.last l e; simp [behind, hst]; omega) (by rw [hr]; exact rtSame_self _)
    last := fun l hl => by rw [lastOf_snoc] at hl; cases hl; omega
    pts := fun x hx => by
      rcases List.mem_append.1 hx with hx | hx
      · have := h.pts x hx; exact ⟨this.1, by omega, this.2.2⟩
      · simp only [List.mem_cons, List.not_mem_nil, or_false] at hx
        subst hx
        have := h.s0
        rw [hr]
        exact ⟨by omega, by omega, bd⟩
    mod := ((hd.updS hu8 hGT).upd hu9).updS hap.upd (fun x hx hm => haoG x hm hx)
    g := hG'
    mn := by have := doM_n p.c m q; have := h.mn; omega
    rowA := (hA.upd hu9 (by simp)).upd hap.upd hba
    lenA := hA1
    a0 := hA2
    rowL := (hL.upd hu9 (by simp)).upd hap.upd hbl
    lenL := hL1
    l0 := hL2
    upd := by
      have e1 : Upd (ba :: bl :: G0) w0 w6 := h.upd.trans (hu6.mono (fun _ _ e => by simp only [List.mem_cons, List.not_mem_nil, or_false] at e; simp [e]))
      have e2 : Upd (ba :: bl :: G0) w0 w7 := e1.then hf.2 (fun _ _ e => e) (fun j hj hm => by
        rcases h.g j hm with e | e
        · simp [e]
        · omega)
      have e3 : Upd (ba :: bl :: G0) w0 w8 := e2.then hu8 (fun _ _ e => e) (fun j hj hm => by
        rcases hT j hm with e | e | e
        · simp [e]
        · simp [e]
        · omega)
      exact (e3.trans hu9.nil).then hap.upd (fun _ _ e => e) (fun j hj hm => by have := (hnew j hm).1; omega) }
end
/-- What a trace tells. -/
def TrTo (w : World) (p : Pl) (most : Nat) (e : Ending) (w' : World) : Prop := ∃ ao k cap X, e = .returned (.slice ao k cap) ∧ TrX w w' ao k cap X [] ∧ k ≤ most ∧ (∃ m, runM p X none ms0 = some m) ∧ (∀ x ∈ X, 0 ≤ x.step ∧ x.step ≤ 3 * most ∧ 0 ≤ x.r.n ∧ x.r.L.length ≤ 16) ∧ Upd [] w w'
end Go.Proofs.YtfeobcmcellcpaaGreat
