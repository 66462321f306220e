/-
  Arguments that are plans, points, calls of a history: what they hold. No condition.
-/
import Derived.Test.YtfeobcmcellcpaaGreatPM
set_option linter.unusedVariables false
set_option linter.unusedSimpArgs false
namespace Go.Proofs.YtfeobcmcellcpaaGreat
open Go.ChangeShapes Go.WideShapes Go.ChangeAt Go.RowKit Go.Deep

theorem field_trod {H : Type} {enc : TypeId × Value → H} {P : Program} {w : World} {base : Nat} {spare : Nat → Bool} {held : Bool} {n : Nat} {t : TypeId} {fs : Array Field} {cs : List Value} {x : DataW H × List MemPlace} (hu : P.underlying t = some (.struct fs)) (hx : DataW.trod enc P w base spare held n t cs = some x) {i : Nat} {fld : Field} (hf : fs[i]? = some fld) :
    ∃ m y, DataW.trod enc P w base spare held m fld.type ((cs.drop fld.offset).take (P.cellsOf fld.type)) = some y := by
  obtain ⟨xs, m, _, _, _, hlen, hff⟩ := DataW.trod_struct hu hx
  have hil : i < fs.size := (Array.getElem?_eq_some_iff.1 hf).1
  exact ⟨m, _, (hff i fld hf).trans (List.getElem?_eq_getElem (by omega))⟩

/-- A row of structs of numbers as a list. -/
theorem flat_listG {α : Type} (vs : α → List Value) (ks : List (Option IntKind)) (mk : (Nat → Value) → α) (hk : ∀ d : Nat → Value, (∀ j k, ks[j]? = some k → skOk k (d j)) → ∀ j, j < ks.length → (vs (mk d))[j]? = some (d j)) (hl : ∀ x, (vs x).length = ks.length) (h0 : 0 < ks.length)
    {w : World} {v : Value} {n : Nat} {D : Nat → Nat → Value} (h : FlatAt w ks v n D) : ∃ L : List α, L.length = n ∧ SlAt w ks.length v n (L.flatMap vs) ∧ ∀ x ∈ L, ∃ d : Nat → Value, (∀ j k, ks[j]? = some k → skOk k (d j)) ∧ x = mk d := by
  obtain ⟨ao, cap, rfl, h1, h2⟩ := h
  rcases h2 with rfl | ⟨b, off, rfl, hb, hc⟩
  · exact ⟨[], rfl, ⟨ao, cap, rfl, h1, by simp, .inl rfl⟩, fun x hx => by cases hx⟩
  · have hsk : ∀ i, i < n → ∀ j k, ks[j]? = some k → skOk k (D i j) := fun i hi j k hj => (hc i hi j k hj).2
    refine ⟨(List.range n).map (fun i => mk (D i)), by simp, ⟨some ⟨b, off, none⟩, cap, rfl, h1, by rw [flat_len vs ks.length hl]; simp, .inr ⟨b, off, rfl, hb, fun j u hj => ?_⟩⟩, fun x hx => ?_⟩
    · have hjn : j < n * ks.length := by
        have := (List.getElem?_eq_some_iff.1 hj).1
        rw [flat_len vs ks.length hl] at this; simpa using this
      have e1 : j = (j / ks.length) * ks.length + j % ks.length := by rw [Nat.mul_comm]; exact (Nat.div_add_mod j ks.length).symm
      have hi : j / ks.length < n := Nat.div_lt_of_lt_mul (by rw [Nat.mul_comm]; exact hjn)
      have hm : j % ks.length < ks.length := Nat.mod_lt _ h0
      have hg : ((List.range n).map (fun i => mk (D i)))[j / ks.length]? = some (mk (D (j / ks.length))) := by
        rw [List.getElem?_map, List.getElem?_range hi]; rfl
      rw [e1, flat_get vs ks.length hl _ _ _ hm _ hg, hk _ (hsk _ hi) _ hm] at hj
      obtain ⟨k, hkk⟩ : ∃ k, ks[j % ks.length]? = some k := ⟨_, List.getElem?_eq_getElem hm⟩
      have := (hc _ hi _ k hkk).1
      rw [← e1] at this
      rw [this]; exact hj
    · obtain ⟨i, hi, rfl⟩ := List.mem_map.1 hx
      exact ⟨D i, hsk i (by simpa using hi), rfl⟩
def I64 (x : Int) : Prop := -9223372036854775808 ≤ x ∧ x < 9223372036854775808
theorem skOk_i64 {v : Value} (h : skOk (some .i64) v) : v = .int .i64 (intOf v) ∧ I64 (intOf v) := by
  obtain ⟨x, rfl, hw⟩ := h
  refine ⟨rfl, ?_⟩
  have hb := wf_i64_bd hw
  unfold I64
  have : intOf (.int .i64 x) = x := rfl
  rw [this]
  omega
def PkOk (p : Pk) : Prop := I64 p.flow ∧ I64 p.len ∧ I64 p.mark
def ClOk (c : Cl) : Prop := I64 c.op ∧ I64 c.flow ∧ I64 c.a ∧ I64 c.b
theorem pk_list {w : World} {v : Value} {n : Nat} {D : Nat → Nat → Value} (h : FlatAt w [some .i64, some .i64, some .i64] v n D) : ∃ L : List Pk, L.length = n ∧ SlAt w 3 v n (L.flatMap pkVs) ∧ ∀ x ∈ L, PkOk x := by
  obtain ⟨L, h1, h2, h3⟩ := flat_listG pkVs [some .i64, some .i64, some .i64] (fun d => (⟨intOf (d 0), intOf (d 1), intOf (d 2)⟩ : Pk)) (fun d hd j hj => by
    match j, hj with
    | 0, _ => simp [pkVs]; exact (skOk_i64 (hd 0 _ rfl)).1.symm
    | 1, _ => simp [pkVs]; exact (skOk_i64 (hd 1 _ rfl)).1.symm
    | 2, _ => simp [pkVs]; exact (skOk_i64 (hd 2 _ rfl)).1.symm) (fun _ => rfl) (by decide) h
  refine ⟨L, h1, h2, fun x hx => ?_⟩
  obtain ⟨d, hd, rfl⟩ := h3 x hx
  exact ⟨(skOk_i64 (hd 0 _ rfl)).2, (skOk_i64 (hd 1 _ rfl)).2, (skOk_i64 (hd 2 _ rfl)).2⟩
theorem cl_list {w : World} {v : Value} {n : Nat} {D : Nat → Nat → Value} (h : FlatAt w [some .i64, some .i64, some .i64, some .i64] v n D) : ∃ L : List Cl, L.length = n ∧ SlAt w 4 v n (L.flatMap clVs) ∧ ∀ x ∈ L, ClOk x := by
  obtain ⟨L, h1, h2, h3⟩ := flat_listG clVs [some .i64, some .i64, some .i64, some .i64] (fun d => (⟨intOf (d 0), intOf (d 1), intOf (d 2), intOf (d 3)⟩ : Cl)) (fun d hd j hj => by
    match j, hj with
    | 0, _ => simp [clVs]; exact (skOk_i64 (hd 0 _ rfl)).1.symm
    | 1, _ => simp [clVs]; exact (skOk_i64 (hd 1 _ rfl)).1.symm
    | 2, _ => simp [clVs]; exact (skOk_i64 (hd 2 _ rfl)).1.symm
    | 3, _ => simp [clVs]; exact (skOk_i64 (hd 3 _ rfl)).1.symm) (fun _ => rfl) (by decide) h
  refine ⟨L, h1, h2, fun x hx => ?_⟩
  obtain ⟨d, hd, rfl⟩ := h3 x hx
  exact ⟨(skOk_i64 (hd 0 _ rfl)).2, (skOk_i64 (hd 1 _ rfl)).2, (skOk_i64 (hd 2 _ rfl)).2, (skOk_i64 (hd 3 _ rfl)).2⟩

/-- Lists of calls. -/
theorem grid_lists {w : World} {v : Value} {n : Nat} {V : Nat → Value} (h : GridAt w [some .i64, some .i64, some .i64, some .i64] v n V) : ∃ L : List Li, L.length = n ∧ ListsAt w v L ∧ ∀ x ∈ L, ∀ c ∈ x.L, ClOk c := by
  obtain ⟨ao, cap, rfl, h1, h2⟩ := h
  rcases h2 with rfl | ⟨b, off, rfl, hb, hc⟩
  · exact ⟨[], rfl, ⟨⟨ao, cap, rfl, h1, by simp, .inl rfl⟩, fun x hx => by cases hx⟩, fun x hx => by cases hx⟩
  · have each : ∀ i, ∃ L : List Cl, i < n → SlAt w 4 (V i) L.length (L.flatMap clVs) ∧ ∀ c ∈ L, ClOk c := fun i => by
      by_cases hi : i < n
      · obtain ⟨-, m, D, hF⟩ := hc i hi
        obtain ⟨L, e1, e2, e3⟩ := cl_list hF
        exact ⟨L, fun _ => ⟨by rw [e1]; exact e2, e3⟩⟩
      · exact ⟨[], fun h => absurd h hi⟩
    obtain ⟨F, hF⟩ : ∃ F : Nat → List Cl, ∀ i, i < n → SlAt w 4 (V i) (F i).length ((F i).flatMap clVs) ∧ ∀ c ∈ F i, ClOk c := ⟨fun i => Classical.choose (each i), fun i => Classical.choose_spec (each i)⟩
    refine ⟨(List.range n).map (fun i => ⟨V i, F i⟩), by simp, ⟨⟨some ⟨b, off, none⟩, cap, by simp, by simpa using h1, by rw [flat_len liVs 1 liVs_len], .inr ⟨b, off, rfl, hb, fun j u hj => ?_⟩⟩, fun x hx => ?_⟩, fun x hx => ?_⟩
    · have hjn : j < n := by
        have := (List.getElem?_eq_some_iff.1 hj).1
        rw [flat_len liVs 1 liVs_len] at this; simpa using this
      have hg : ((List.range n).map (fun i => (⟨V i, F i⟩ : Li)))[j]? = some ⟨V j, F j⟩ := by rw [List.getElem?_map, List.getElem?_range hjn]; rfl
      have := flat_get liVs 1 liVs_len _ j 0 (by omega) _ hg
      rw [Nat.mul_one, Nat.add_zero] at this
      rw [this] at hj
      simp only [liVs, List.getElem?_cons_zero, Option.some.injEq] at hj
      rw [← hj]
      exact (hc j hjn).1
    · obtain ⟨i, hi, rfl⟩ := List.mem_map.1 hx
      exact (hF i (by simpa using hi)).1
    · obtain ⟨i, hi, rfl⟩ := List.mem_map.1 hx
      exact (hF i (by simpa using hi)).2

/-- A Ret's cells. -/
theorem ret_trod {H : Type} {enc : TypeId × Value → H} {P : Program} {w : World} {n : Nat} {t c : TypeId} {g0 g1 g2 g3 : Field} {cs : List Value} {x : DataW H × List MemPlace} (hr : P.underlying t = some (.struct #[g0, g1, g2, g3]))
    (k3 : flatKinds P 8 g0.type = some [some .i64]) (k4 : flatKinds P 8 g2.type = some [some .i64]) (k5 : flatKinds P 8 g3.type = some [some .u64]) (d0 : P.cellsOf g0.type = 1) (d1 : P.cellsOf g1.type = 1) (d2 : P.cellsOf g2.type = 1) (d3 : P.cellsOf g3.type = 1)
    (q0 : g0.offset = 0) (q1 : g1.offset = 1) (q2 : g2.offset = 2) (q3 : g3.offset = 3) (hl : P.underlying g1.type = some (.slice c)) (hf8 : flatKinds P 8 c = some [some .i64, some .i64, some .i64]) (hC : P.cellsOf c = 3) (hcs : cs.length = 4) (hx : DataW.trod enc P w 0 (fun _ => true) true n t cs = some x) :
    ∃ (r : Rt) (lv : Value), cs = [.int .i64 r.e, lv, .int .i64 r.n, .int .u64 r.v] ∧ I64 r.e ∧ I64 r.n ∧ r.v < 18446744073709551616 ∧ (∀ p ∈ r.L, PkOk p) ∧ SlAt w 3 lv r.L.length (r.L.flatMap pkVs) := by
  obtain ⟨_, _, s0⟩ := field_trod hr hx (i := 0) (fld := g0) rfl
  obtain ⟨_, _, s1⟩ := field_trod hr hx (i := 1) (fld := g1) rfl
  obtain ⟨_, _, s2⟩ := field_trod hr hx (i := 2) (fld := g2) rfl
  obtain ⟨_, _, s3⟩ := field_trod hr hx (i := 3) (fld := g3) rfl
  obtain ⟨v3, e3, hk3⟩ := flat_cells 8 _ _ k3 _ _ _ s0 0 (some .i64) rfl
  obtain ⟨v4, e4, hk4⟩ := flat_cells 8 _ _ k4 _ _ _ s2 0 (some .i64) rfl
  obtain ⟨_, e5, u, rfl, hu⟩ := flat_cells 8 _ _ k5 _ _ _ s3 0 (some .u64) rfl
  obtain ⟨lv, m, D, hlv, hg⟩ := flat_trod hl hf8 hC (by decide) s1
  obtain ⟨L, hL, hS, hok⟩ := pk_list hg
  have hbd := wf_u64_bd hu
  have b3 := skOk_i64 hk3
  have b4 := skOk_i64 hk4
  rw [q0, d0] at e3
  rw [q2, d2] at e4
  rw [q3, d3] at e5
  rw [q1, d1] at hlv
  match cs, hcs with
  | [x3, x4, x5, x6], _ =>
    simp at e3 e4 e5 hlv
    subst e3 e4 e5 hlv
    have : ((u.toNat : Nat) : Int) = u := by omega
    refine ⟨⟨intOf x3, L, intOf x5, u.toNat⟩, x4, by rw [this, ← b3.1, ← b4.1], b3.2, b4.2, by simp only; omega, hok, by rw [hL]; exact hS⟩

/-- A row of structs whose cells are told one by one. -/
theorem rows_trod {α H : Type} {enc : TypeId × Value → H} {P : Program} {w : World} {fuel : Nat} {t el : TypeId} {cs : List Value} {x : DataW H × List MemPlace} (vs : α → List Value) (size : Nat) (hl : ∀ a, (vs a).length = size) (h0 : 0 < size) (Q : α → Prop) (ht : P.underlying t = some (.slice el)) (hC : P.cellsOf el = size)
    (hel : ∀ (n : Nat) (cs : List Value) (x : DataW H × List MemPlace), cs.length = size → DataW.trod enc P w 0 (fun _ => true) true n el cs = some x → ∃ a : α, cs = vs a ∧ Q a)
    (hf : DataW.trod enc P w 0 (fun _ => true) true fuel t cs = some x) : ∃ v, cs = [v] ∧ ∃ l : List α, SlAt w size v l.length (l.flatMap vs) ∧ ∀ a ∈ l, Q a := by
  rcases open_slice ht hf with ⟨hcs, _⟩ | ⟨a, len, cap, m, n, D, Pl, hcs, _, hlc, hcm, hm, _, hi⟩
  · exact ⟨_, hcs, [], ⟨none, 0, rfl, by simp [maxLen], by simp, .inl rfl⟩, fun x hx => by cases hx⟩
  · have hmc : m = cap := by simpa using hm
    subst hmc
    have key : ∀ m, m ≤ len → ∃ l : List α, l.length = m ∧ ∀ i y, l[i]? = some y → Q y ∧ ∀ j u, (vs y)[j]? = some u → w.cell? (a.add (i * size + j)) = some u := by
      intro m
      induction m with
      | zero => intro _; exact ⟨[], rfl, fun i y hy => by simp at hy⟩
      | succ m ih =>
        intro hm2
        obtain ⟨l, h1, h2⟩ := ih (by omega)
        obtain ⟨cs', hc, ht'⟩ := hi m (by omega)
        rw [hC] at hc
        obtain ⟨_, hcl, hat⟩ := World.cells?_some hc
        obtain ⟨y, rfl, hQ⟩ := hel _ _ _ hcl ht'
        refine ⟨l ++ [y], by rw [List.length_append, h1]; rfl, fun i z hz => ?_⟩
        rcases Nat.lt_or_ge i l.length with h | h
        · rw [List.getElem?_append_left h] at hz; exact h2 i z hz
        · have hil := (List.getElem?_eq_some_iff.1 hz).1
          rw [List.length_append, List.length_singleton] at hil
          obtain rfl : i = m := by omega
          rw [List.getElem?_append_right h, h1, Nat.sub_self, List.getElem?_cons_zero, Option.some.injEq] at hz
          subst hz
          refine ⟨hQ, fun j u hj => ?_⟩
          have hjs : j < size := by rw [← hl y]; exact (List.getElem?_eq_some_iff.1 hj).1
          rw [← Go.Deep.add_add, hat j hjs]; exact hj
    obtain ⟨l, h1, h2⟩ := key len (Nat.le_refl _)
    have hQ : ∀ y ∈ l, Q y := fun y hy => by
      obtain ⟨i, hi', e⟩ := List.getElem_of_mem hy
      exact (h2 i y (by rw [List.getElem?_eq_getElem hi', e])).1
    refine ⟨_, hcs, l, ⟨some a, m, by rw [h1], by omega, by rw [flat_len vs size hl], ?_⟩, hQ⟩
    rcases Nat.eq_zero_or_pos len with h | hpos
    · left; omega
    · right
      obtain ⟨y, hy⟩ : ∃ y, l[0]? = some y := ⟨_, List.getElem?_eq_getElem (by omega)⟩
      obtain ⟨u0, hu0⟩ : ∃ u, (vs y)[0]? = some u := ⟨_, List.getElem?_eq_getElem (by rw [hl]; exact h0)⟩
      have hx0 := (h2 0 y hy).2 0 u0 hu0
      obtain ⟨b, off, sp⟩ := a
      have hsp : sp = none := by
        have := spot_none hx0
        simpa [Addr.add] using this
      subst hsp
      have hb := World.block_lt_of_cell? w _ hx0
      rw [add_none] at hb
      refine ⟨b, off, rfl, hb, fun j u hj => ?_⟩
      have hjn : j < l.length * size := by
        have := (List.getElem?_eq_some_iff.1 hj).1
        rw [flat_len vs size hl] at this; exact this
      have e1 : j = (j / size) * size + j % size := by rw [Nat.mul_comm]; exact (Nat.div_add_mod j size).symm
      have hil : j / size < l.length := Nat.div_lt_of_lt_mul (by rw [Nat.mul_comm]; exact hjn)
      have hmm : j % size < size := Nat.mod_lt _ h0
      obtain ⟨z, hz⟩ : ∃ z, l[j / size]? = some z := ⟨_, List.getElem?_eq_getElem hil⟩
      have hg := flat_get vs size hl l _ _ hmm z hz
      rw [← e1] at hg
      rw [hg] at hj
      have := (h2 _ z hz).2 _ u hj
      rw [add_none, ← e1] at this
      exact this
def PtOk (x : Pt) : Prop := I64 x.step ∧ I64 x.who ∧ I64 x.place ∧ I64 x.r.e ∧ I64 x.r.n ∧ x.r.v < 18446744073709551616 ∧ ∀ p ∈ x.r.L, PkOk p
theorem point_trod {H : Type} {enc : TypeId × Value → H} {P : Program} {w : World} {n : Nat} {t c : TypeId} {f0 f1 f2 f3 g0 g1 g2 g3 : Field} {cs : List Value} {x : DataW H × List MemPlace} (ht : P.underlying t = some (.struct #[f0, f1, f2, f3])) (hr : P.underlying f3.type = some (.struct #[g0, g1, g2, g3]))
    (k0 : flatKinds P 8 f0.type = some [some .i64]) (k1 : flatKinds P 8 f1.type = some [some .i64]) (k2 : flatKinds P 8 f2.type = some [some .i64])
    (c0 : P.cellsOf f0.type = 1) (c1 : P.cellsOf f1.type = 1) (c2 : P.cellsOf f2.type = 1) (c3 : P.cellsOf f3.type = 4) (o0 : f0.offset = 0) (o1 : f1.offset = 1) (o2 : f2.offset = 2) (o3 : f3.offset = 3)
    (k3 : flatKinds P 8 g0.type = some [some .i64]) (k4 : flatKinds P 8 g2.type = some [some .i64]) (k5 : flatKinds P 8 g3.type = some [some .u64]) (d0 : P.cellsOf g0.type = 1) (d1 : P.cellsOf g1.type = 1) (d2 : P.cellsOf g2.type = 1) (d3 : P.cellsOf g3.type = 1)
    (q0 : g0.offset = 0) (q1 : g1.offset = 1) (q2 : g2.offset = 2) (q3 : g3.offset = 3) (hl : P.underlying g1.type = some (.slice c)) (hf8 : flatKinds P 8 c = some [some .i64, some .i64, some .i64]) (hC : P.cellsOf c = 3) (hcs : cs.length = 7) (hx : DataW.trod enc P w 0 (fun _ => true) true n t cs = some x) :
    ∃ x : Pt, cs = ptVs x ∧ PtOk x ∧ PtAt w x := by
  obtain ⟨_, _, t0⟩ := field_trod ht hx (i := 0) (fld := f0) rfl
  obtain ⟨_, _, t1⟩ := field_trod ht hx (i := 1) (fld := f1) rfl
  obtain ⟨_, _, t2⟩ := field_trod ht hx (i := 2) (fld := f2) rfl
  obtain ⟨_, _, t3⟩ := field_trod ht hx (i := 3) (fld := f3) rfl
  obtain ⟨v0, e0, hk0⟩ := flat_cells 8 _ _ k0 _ _ _ t0 0 (some .i64) rfl
  obtain ⟨v1, e1, hk1⟩ := flat_cells 8 _ _ k1 _ _ _ t1 0 (some .i64) rfl
  obtain ⟨v2, e2, hk2⟩ := flat_cells 8 _ _ k2 _ _ _ t2 0 (some .i64) rfl
  obtain ⟨r, lv, er, b1, b2, b3, b4, hS⟩ := ret_trod hr k3 k4 k5 d0 d1 d2 d3 q0 q1 q2 q3 hl hf8 hC (by rw [o3, c3, List.length_take, List.length_drop]; omega) t3
  have a0 := skOk_i64 hk0
  have a1 := skOk_i64 hk1
  have a2 := skOk_i64 hk2
  rw [o0, c0] at e0
  rw [o1, c1] at e1
  rw [o2, c2] at e2
  rw [o3, c3] at er
  match cs, hcs with
  | [x0, x1, x2, x3, x4, x5, x6], _ =>
    simp at e0 e1 e2 er
    obtain ⟨rfl, rfl, rfl, rfl⟩ := er
    subst e0 e1 e2
    exact ⟨⟨intOf x0, intOf x1, intOf x2, r, x4⟩, by simp only [ptVs]; rw [← a0.1, ← a1.1, ← a2.1], ⟨a0.2, a1.2, a2.2, b1, b2, b3, b4⟩, hS⟩
def DnOk (x : Dn) : Prop := I64 x.who ∧ I64 x.place ∧ ClOk x.c ∧ I64 x.r.e ∧ I64 x.r.n ∧ x.r.v < 18446744073709551616 ∧ (∀ p ∈ x.r.L, PkOk p) ∧ I64 x.frm ∧ I64 x.til
theorem done_trod {H : Type} {enc : TypeId × Value → H} {P : Program} {w : World} {n : Nat} {t c : TypeId} {f0 f1 f2 f3 f4 f5 g0 g1 g2 g3 : Field} {cs : List Value} {x : DataW H × List MemPlace} (ht : P.underlying t = some (.struct #[f0, f1, f2, f3, f4, f5])) (hr : P.underlying f3.type = some (.struct #[g0, g1, g2, g3]))
    (k0 : flatKinds P 8 f0.type = some [some .i64]) (k1 : flatKinds P 8 f1.type = some [some .i64]) (k2 : flatKinds P 8 f2.type = some [some .i64, some .i64, some .i64, some .i64]) (k6 : flatKinds P 8 f4.type = some [some .i64]) (k7 : flatKinds P 8 f5.type = some [some .i64])
    (c0 : P.cellsOf f0.type = 1) (c1 : P.cellsOf f1.type = 1) (c2 : P.cellsOf f2.type = 4) (c3 : P.cellsOf f3.type = 4) (c4 : P.cellsOf f4.type = 1) (c5 : P.cellsOf f5.type = 1) (o0 : f0.offset = 0) (o1 : f1.offset = 1) (o2 : f2.offset = 2) (o3 : f3.offset = 6) (o4 : f4.offset = 10) (o5 : f5.offset = 11)
    (k3 : flatKinds P 8 g0.type = some [some .i64]) (k4 : flatKinds P 8 g2.type = some [some .i64]) (k5 : flatKinds P 8 g3.type = some [some .u64]) (d0 : P.cellsOf g0.type = 1) (d1 : P.cellsOf g1.type = 1) (d2 : P.cellsOf g2.type = 1) (d3 : P.cellsOf g3.type = 1)
    (q0 : g0.offset = 0) (q1 : g1.offset = 1) (q2 : g2.offset = 2) (q3 : g3.offset = 3) (hl : P.underlying g1.type = some (.slice c)) (hf8 : flatKinds P 8 c = some [some .i64, some .i64, some .i64]) (hC : P.cellsOf c = 3) (hcs : cs.length = 12) (hx : DataW.trod enc P w 0 (fun _ => true) true n t cs = some x) :
    ∃ x : Dn, cs = dnVs x ∧ DnOk x ∧ DneAt w x := by
  obtain ⟨_, _, t0⟩ := field_trod ht hx (i := 0) (fld := f0) rfl
  obtain ⟨_, _, t1⟩ := field_trod ht hx (i := 1) (fld := f1) rfl
  obtain ⟨_, _, t2⟩ := field_trod ht hx (i := 2) (fld := f2) rfl
  obtain ⟨_, _, t3⟩ := field_trod ht hx (i := 3) (fld := f3) rfl
  obtain ⟨_, _, t4⟩ := field_trod ht hx (i := 4) (fld := f4) rfl
  obtain ⟨_, _, t5⟩ := field_trod ht hx (i := 5) (fld := f5) rfl
  obtain ⟨v0, e0, hk0⟩ := flat_cells 8 _ _ k0 _ _ _ t0 0 (some .i64) rfl
  obtain ⟨v1, e1, hk1⟩ := flat_cells 8 _ _ k1 _ _ _ t1 0 (some .i64) rfl
  have key := flat_cells 8 _ _ k2 _ _ _ t2
  obtain ⟨v2, e2, hk2⟩ := key 0 (some .i64) rfl
  obtain ⟨v3, e3, hk3⟩ := key 1 (some .i64) rfl
  obtain ⟨v4, e4, hk4⟩ := key 2 (some .i64) rfl
  obtain ⟨v5, e5, hk5⟩ := key 3 (some .i64) rfl
  obtain ⟨v6, e6, hk6⟩ := flat_cells 8 _ _ k6 _ _ _ t4 0 (some .i64) rfl
  obtain ⟨v7, e7, hk7⟩ := flat_cells 8 _ _ k7 _ _ _ t5 0 (some .i64) rfl
  obtain ⟨r, lv, er, b1, b2, b3, b4, hS⟩ := ret_trod hr k3 k4 k5 d0 d1 d2 d3 q0 q1 q2 q3 hl hf8 hC (by rw [o3, c3, List.length_take, List.length_drop]; omega) t3
  have a0 := skOk_i64 hk0
  have a1 := skOk_i64 hk1
  have a2 := skOk_i64 hk2
  have a3 := skOk_i64 hk3
  have a4 := skOk_i64 hk4
  have a5 := skOk_i64 hk5
  have a6 := skOk_i64 hk6
  have a7 := skOk_i64 hk7
  rw [o0, c0] at e0
  rw [o1, c1] at e1
  rw [o2, c2] at e2 e3 e4 e5
  rw [o3, c3] at er
  rw [o4, c4] at e6
  rw [o5, c5] at e7
  match cs, hcs with
  | [x0, x1, x2, x3, x4, x5, x6, x7, x8, x9, x10, x11], _ =>
    simp at e0 e1 e2 e3 e4 e5 e6 e7 er
    obtain ⟨rfl, rfl, rfl, rfl⟩ := er
    subst e0 e1 e2 e3 e4 e5 e6 e7
    exact ⟨⟨intOf x0, intOf x1, ⟨intOf x2, intOf x3, intOf x4, intOf x5⟩, r, x7, intOf x10, intOf x11⟩, by simp only [dnVs]; rw [← a0.1, ← a1.1, ← a2.1, ← a3.1, ← a4.1, ← a5.1, ← a6.1, ← a7.1], ⟨a0.2, a1.2, ⟨a2.2, a3.2, a4.2, a5.2⟩, b1, b2, b3, b4, a6.2, a7.2⟩, hS⟩
end Go.Proofs.YtfeobcmcellcpaaGreat
