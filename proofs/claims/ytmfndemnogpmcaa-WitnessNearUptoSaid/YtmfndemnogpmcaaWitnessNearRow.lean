/-
  WitnessNear, where what it reads is of bulk at most the number of 'uptoSmall': for every such input the law returns true, and each argument reads afterwards as it read before. No condition.
-/
import Derived.Test.YtmfndemnogpmcaaNe
import Derived.Test.YtmfndemnogpmcaaMw
import Derived.JoinedCond
set_option linter.unusedVariables false
set_option linter.unusedSimpArgs false
namespace Go.Proofs.Ytmfndemnogpmcaa.witnessNear
open Go.ChangeShapes Go.WideShapes Go.ChangeAt Go.RowKit Go.Joins Go.Deep
/-! ### What the bound gives -/
theorem one_le {H : Type} (d : DataW H) : 1 ≤ Rows.uptoBulk d := by
  cases d with
  | lit l => cases l <;> simp [Rows.uptoBulk]
  | nil => simp [Rows.uptoBulk]
  | ptr d => simp [Rows.uptoBulk]
  | slice elems spare => simp [Rows.uptoBulk]
  | agg parts => simp [Rows.uptoBulk]
  | iface t d => simp [Rows.uptoBulk]
  | map entries => simp [Rows.uptoBulk]
  | held h => simp [Rows.uptoBulk]
theorem part_le {H : Type} {d : DataW H} {l : List (DataW H)} (h : d ∈ l) : Rows.uptoBulk d ≤ Rows.uptoBulkAll l := by
  induction l with
  | nil => cases h
  | cons x r ih =>
    simp only [Rows.uptoBulkAll]
    cases List.mem_cons.1 h with
    | inl e => subst e; omega
    | inr e => have := ih e; omega
theorem length_le {H : Type} (l : List (DataW H)) : l.length ≤ Rows.uptoBulkAll l := by
  induction l with
  | nil => simp [Rows.uptoBulkAll]
  | cons x r ih => have := one_le x; simp only [Rows.uptoBulkAll, List.length_cons]; omega

/-- A slice is no longer than its bulk; each of its elements is of bulk at most its own. -/
theorem slice_bulk {H : Type} {enc : TypeId × Value → H} {P : Program} {w : World} {t e : TypeId} {fuel : Nat} {ao : Option Addr} {len cap : Nat} {x : DataW H × List MemPlace} (ht : P.underlying t = some (.slice e)) (h : DataW.trod enc P w 0 (fun _ => true) true fuel t [.slice ao len cap] = some x) :
    len ≤ Rows.uptoBulk x.1 ∧ ∀ i, i < len → ∃ a n cs' y, ao = some a ∧ w.cells? 0 (a.add (i * P.cellsOf e)) (P.cellsOf e) = some cs' ∧ DataW.trod enc P w 0 (fun _ => true) true n e cs' = some y ∧ Rows.uptoBulk y.1 ≤ Rows.uptoBulk x.1 := by
  rcases open_slice ht h with ⟨hcs, rfl⟩ | ⟨a, len', cap', m, n, D, Pl, hcs, _, hlc, hcm, hm, rfl, hi⟩
  · simp at hcs
    obtain ⟨rfl, rfl, rfl⟩ := hcs
    exact ⟨Nat.zero_le _, fun i hi => by omega⟩
  · simp at hcs
    obtain ⟨rfl, rfl, rfl⟩ := hcs
    have hmc : m = cap := by simpa using hm
    have hle := length_le ((List.range len).map D)
    simp only [List.length_map, List.length_range] at hle
    refine ⟨by simp only [Rows.uptoBulk]; omega, fun i hi' => ?_⟩
    obtain ⟨cs', hc, ht'⟩ := hi i (by omega)
    refine ⟨a, n, cs', _, rfl, hc, ht', ?_⟩
    have hp := part_le (d := D i) (l := (List.range len).map D) (List.mem_map.2 ⟨i, by simpa using hi', rfl⟩)
    simp only [Rows.uptoBulk]
    omega
theorem field_bulk {H : Type} {enc : TypeId × Value → H} {P : Program} {w : World} {n : Nat} {t : TypeId} {fs : Array Field} {cs : List Value} {x : DataW H × List MemPlace} (hu : P.underlying t = some (.struct fs)) (hx : DataW.trod enc P w 0 (fun _ => true) true n t cs = some x) {i : Nat} {fld : Field} (hf : fs[i]? = some fld) :
    ∃ m y, DataW.trod enc P w 0 (fun _ => true) true m fld.type ((cs.drop fld.offset).take (P.cellsOf fld.type)) = some y ∧ Rows.uptoBulk y.1 ≤ Rows.uptoBulk x.1 := by
  obtain ⟨xs, m, _, rfl, _, hlen, hff⟩ := DataW.trod_struct hu hx
  have hil : i < fs.size := (Array.getElem?_eq_some_iff.1 hf).1
  have hix : i < xs.length := by omega
  refine ⟨m, _, (hff i fld hf).trans (List.getElem?_eq_getElem hix), ?_⟩
  have hp := part_le (d := xs[i].1) (l := xs.map (·.1)) (List.mem_map.2 ⟨xs[i], List.getElem_mem hix, rfl⟩)
  simp only [Rows.uptoBulk]
  omega

set_option maxRecDepth 100000 in
/-- The points' packets are few. -/
theorem points_bulk {H : Type} {enc : TypeId × Value → H} {w : World} {fuel : Nat} {v : Value} {l : List Pt} {x : DataW H × List MemPlace} (hl : PtsAt' w v l) (h : DataW.trod enc Try.prog w 0 (fun _ => true) true fuel 43 [v] = some x) : ∀ y ∈ l, y.r.L.length ≤ Rows.uptoBulk x.1 := by
  intro y hy
  obtain ⟨-, ao, cap, rfl, hat⟩ := pts_at hl
  obtain ⟨-, hb⟩ := slice_bulk Try.underlying43 h
  obtain ⟨i, hi, e⟩ := List.getElem_of_mem hy
  obtain ⟨b, off, hao, lb, hpt, c0, c1, c2, c3, c4, c5, c6⟩ := hat i y (by rw [List.getElem?_eq_getElem hi, e])
  obtain ⟨a, n, cs', z, ha, hc, ht, hz⟩ := hb i hi
  rw [hao] at ha
  cases ha
  obtain ⟨_, z1, ht1, hz1⟩ := field_bulk Try.underlying33 ht (i := 3) rfl
  obtain ⟨m2, z2, ht2, hz2⟩ := field_bulk Try.underlying31 ht1 (i := 1) rfl
  obtain ⟨_, hcl, hcell⟩ := World.cells?_some hc
  obtain ⟨lo, lc, hlv, -⟩ := hpt
  have hC : Try.prog.cellsOf 33 = 7 := by kernel_rfl
  have hCr : Try.prog.cellsOf 31 = 4 := by kernel_rfl
  have hCp : Try.prog.cellsOf 29 = 1 := by kernel_rfl
  have h4 := hcell 4 (by rw [hC]; omega)
  rw [hC, add_none, add_none, c4, hlv] at h4
  have h7 : cs'.length = 7 := by rw [hcl, hC]
  match cs', h7 with
  | [s0, s1, s2, s3, s4, s5, s6], _ =>
    simp only [List.getElem?_cons_succ, List.getElem?_cons_zero, Option.some.injEq] at h4
    subst h4
    have ht3 : DataW.trod enc Try.prog w 0 (fun _ => true) true m2 29 [.slice lo y.r.L.length lc] = some z2 := by
      exact ht2
    obtain ⟨hle, -⟩ := slice_bulk Try.underlying29 ht3
    omega

set_option maxRecDepth 100000 in
theorem open_points {H : Type} {enc : TypeId × Value → H} {w : World} {r : Reach} {b0 : Nat} {v : Value} {d : DataW H} {p : List MemPlace} (hv : Value.okWide Try.prog w r b0 43 v) (h : DataW.Trod enc Try.prog w 0 (fun _ => true) true 43 v d p) : ∃ l : List Pt, PtsAt' w v l ∧ ∀ y ∈ l, y.r.L.length ≤ Rows.uptoBulk d := by
  obtain ⟨ao, len, cap, rfl⟩ := okWide_slice Try.underlying43 hv
  obtain ⟨fuel, hf⟩ := h
  obtain ⟨v', hv', l, hl, hQ⟩ := rows_trod ptVs 7 ptVs_len (by omega) (fun x => PtOk x ∧ PtAt w x) Try.underlying43 (by kernel_rfl) (fun n cs x hcs hx => by
    obtain ⟨y, h1, h2, h3⟩ := point_trod Try.underlying33 Try.underlying31 (by kernel_rfl) (by kernel_rfl) (by kernel_rfl) (by kernel_rfl) (by kernel_rfl) (by kernel_rfl) (by kernel_rfl) rfl rfl rfl rfl (by kernel_rfl) (by kernel_rfl) (by kernel_rfl) (by kernel_rfl) (by kernel_rfl) (by kernel_rfl) (by kernel_rfl) rfl rfl rfl rfl Try.underlying29 (by kernel_rfl) (by kernel_rfl) hcs hx
    exact ⟨y, h1, h2, h3⟩) hf
  simp [Value.cells] at hv'
  subst hv'
  have hpa : PtsAt' w (.slice ao len cap) l := ⟨hl, fun x hx => (hQ x hx).2⟩
  exact ⟨l, hpa, points_bulk hpa hf⟩

set_option maxRecDepth 100000 in
theorem open_dones {H : Type} {enc : TypeId × Value → H} {w : World} {r : Reach} {b0 : Nat} {v : Value} {d : DataW H} {p : List MemPlace} (hv : Value.okWide Try.prog w r b0 57 v) (h : DataW.Trod enc Try.prog w 0 (fun _ => true) true 57 v d p) : ∃ l : List Dn, DnsAt w v l := by
  obtain ⟨ao, len, cap, rfl⟩ := okWide_slice Try.underlying57 hv
  obtain ⟨fuel, hf⟩ := h
  obtain ⟨v', hv', l, hl, hQ⟩ := rows_trod dnVs 12 dnVs_len (by omega) (fun x => DnOk x ∧ DneAt w x) Try.underlying57 (by kernel_rfl) (fun n cs x hcs hx => by
    obtain ⟨y, h1, h2, h3⟩ := done_trod Try.underlying60 Try.underlying31 (by kernel_rfl) (by kernel_rfl) (by kernel_rfl) (by kernel_rfl) (by kernel_rfl) (by kernel_rfl) (by kernel_rfl) (by kernel_rfl) (by kernel_rfl) (by kernel_rfl) (by kernel_rfl) rfl rfl rfl rfl rfl rfl (by kernel_rfl) (by kernel_rfl) (by kernel_rfl) (by kernel_rfl) (by kernel_rfl) (by kernel_rfl) (by kernel_rfl) rfl rfl rfl rfl Try.underlying29 (by kernel_rfl) (by kernel_rfl) hcs hx
    exact ⟨y, h1, h2, h3⟩) hf
  simp [Value.cells] at hv'
  subst hv'
  exact ⟨l, hl, fun x hx => (hQ x hx).2⟩
theorem few {H : Type} {d0 d1 d2 : DataW H} (hk : Rows.uptoSmall H [d0, d1, d2] = true) : Rows.uptoBulk d0 ≤ bigR := by
  have h : Rows.uptoBulkAll [d0, d1, d2] ≤ 1048576 := of_decide_eq_true hk
  simp only [Rows.uptoBulkAll] at h
  unfold bigR
  omega

set_option maxRecDepth 100000 in
theorem contract (H : Type) (enc : TypeId × Value → H) (W : World) (base : Nat) (args : Array Value) (ds gs : List (DataW H)) (before : List MemPlace)
    (hval0 : ∀ (j : Nat) t v, Try.f6.params[j]? = some t → args[j]? = some v → Value.okWide Try.prog W .any base t v)
    (hW : DataW.Whole enc Try.prog Try.f6.params.toList Rows.witnessNearSpec.vars false W args.toList ds gs before) (hk : Rows.uptoSmall H (ds ++ gs) = true) :
    Calls Try.prog 6 args W fun e W' => ∃ v, e = .returned v ∧ Rows.witnessNearSpec.post enc Try.prog Try.f6 false true false false W args v W' := by
  have hval : ∀ (j : Nat) t v, Try.f6.params[j]? = some t → args[j]? = some v → Value.okWide Try.prog W .any base t v := hval0
  have hW' := hW
  obtain ⟨p, q, hA0, hV, rfl, hfz, hnd⟩ := hW
  have hA : DataW.TrodAll enc Try.prog W 0 (fun _ => true) true Try.f6.params.toList args.toList ds p := hA0
  rw [Try.params6] at hA hval
  obtain ⟨v0, vs0, d0, ds0, p0, q0, hargs, rfl, rfl, h0, r0⟩ := trodAll_cons hA
  obtain ⟨v1, vs1, d1, ds1, p1, q1, rfl, rfl, rfl, h1, r1⟩ := trodAll_cons r0
  obtain ⟨v2, vs2, d2, ds2, p2, q2, rfl, rfl, rfl, h2, r2⟩ := trodAll_cons r1
  obtain ⟨rfl, rfl, rfl⟩ := trodAll_nil r2
  obtain rfl : args = #[v0, v1, v2] := by cases args; simp_all
  obtain ⟨rfl, rfl⟩ := trodVars_none hV
  have k0 := h0
  have lt0 : ∀ x ∈ p0, x.block < W.heap.size := by obtain ⟨m, hm⟩ := k0; exact DataW.trod_lt m _ _ _ hm
  have k1 := h1
  have lt1 : ∀ x ∈ p1, x.block < W.heap.size := by obtain ⟨m, hm⟩ := k1; exact DataW.trod_lt m _ _ _ hm
  have k2 := h2
  have lt2 : ∀ x ∈ p2, x.block < W.heap.size := by obtain ⟨m, hm⟩ := k2; exact DataW.trod_lt m _ _ _ hm
  obtain ⟨l, hl, hbl⟩ := open_points (hval 0 43 v0 rfl rfl) h0
  obtain ⟨h, hh⟩ := open_dones (hval 1 57 v1 rfl rfl) h1
  obtain ⟨a2, rfl, rfl, rfl⟩ := open_bool Try.underlying4 (hval 2 4 v2 rfl rfl) h2
  simp only [List.append_nil] at hW' hk
  have hfew := few hk
  clear hA0 hval0
  refine (near_walk hl hh (fun x hx => Nat.le_trans (hbl x hx) hfew) a2).mono fun e W' ⟨he, hU⟩ => ?_
  subst he
  have bel : Below W.heap.size W W' := hU.below (by simp) (Nat.le_refl _)
  exact ⟨_, rfl, _, _, _, [], _, [], hW', trodAll_mk1 (shut_bool Try.underlying4 _), (trodAll_cons_mk (Below.trod TrylaidOut (by kernel_rfl) (of_decide_eq_true (by kernel_rfl)) k0 bel lt0) (trodAll_cons_mk (Below.trod TrylaidOut (by kernel_rfl) (of_decide_eq_true (by kernel_rfl)) k1 bel lt1) (trodAll_cons_mk (Below.trod TrylaidOut (by kernel_rfl) (of_decide_eq_true (by kernel_rfl)) k2 bel lt2) trodAll_mk0))), rfl, bel.frame _, fun h => by cases h⟩

set_option maxRecDepth 100000 in
theorem lifted (os : Os) (started : os.Started) (H : Type) (enc : TypeId × Value → H) (F : Stop.Interp) :
    ReturnsInHanded {} Try.checked os 6 .any ((Rows.OpenSpec.upto Rows.witnessNearSpec).pre6 enc Try.prog Try.f6 Rows.witnessNearUptoRow.domain false) (((Rows.OpenSpec.upto Rows.witnessNearSpec).at F).post enc Try.prog Try.f6 false true false false) := by
  refine returnsInHanded_of_cond (C := Try.checked) (s := Rows.OpenSpec.upto Rows.witnessNearSpec) (k := Rows.uptoSmall) rfl Tryown started (by kernel_rfl) Try.func6
    (OpenSpec.witness (enc := enc) (C := Try.checked) (s := Rows.OpenSpec.upto Rows.witnessNearSpec) (k := Rows.uptoSmall) rfl false ⟨#[], #[.slice none 0 0, .slice none 0 0, .bool false], []⟩ 8 (by kernel_rfl) (by kernel_rfl) (by kernel_rfl)
      (x := ([.nil, .nil, .lit (.bool false)], [], [])) (by kernel_rfl) rfl (by kernel_rfl)) ?_
  intro W base args ds gs before hval hW _ hk _
  exact contract H enc W base args ds gs before hval hW hk
theorem proved : Rows.WitnessNearUptoSaid :=
  OpenClaim.holds_of_cond 6 Try.f6 rfl rfl rfl rfl rfl rfl rfl ⟨rfl, rfl, rfl, rfl, rfl⟩ rfl rfl rfl rfl rfl (by kernel_rfl) Try.func6 (by kernel_rfl)
    (of_decide_eq_true (by kernel_rfl)) (by unfold Func.isWrapper; first | (rw [if_pos (by decide +kernel)]; kernel_rfl) | (rw [if_neg (by decide +kernel)]; exact ⟨rfl, rfl⟩))
    (fun os started H enc _ F => lifted os started H enc F)
end Go.Proofs.Ytmfndemnogpmcaa.witnessNear
namespace Go.Proofs.Ytmfndemnogpmcaa
/-- The row, under a short name, for the claim. -/
theorem witnessNear_holds : Rows.WitnessNearUptoSaid := witnessNear.proved
#print axioms witnessNear_holds
end Go.Proofs.Ytmfndemnogpmcaa
