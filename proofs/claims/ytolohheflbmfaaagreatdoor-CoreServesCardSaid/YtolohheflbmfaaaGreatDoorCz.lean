/-
  CoreServes, in plain words. No program, no condition.
-/
import Derived.Test.YtolohheflbmfaaaGreatDoorPCD
import Derived.Test.YtolohheflbmfaaaGreatDoorFf
set_option linter.unusedVariables false
set_option linter.unusedSimpArgs false
namespace Go.Proofs.YtolohheflbmfaaaGreatDoor

theorem eq_of_mem {A B : List It} (h1 : Srt A) (h2 : Srt B) (n1 : NdI A) (n2 : NdI B) (h : ∀ x, x ∈ A ↔ x ∈ B) : A = B := by
  refine srt_unique h1 h2 ?_
  have nod : ∀ {L : List It}, NdI L → L.Nodup := fun hn => (List.pairwise_map.1 hn).imp (fun h e => h (by rw [e]))
  rw [List.perm_ext_iff_of_nodup (nod n1) (nod n2)]
  exact h
theorem starts_gen : ∀ (F : List Fl) (L : List It), Srt L → NdI L → (F.map (·.id)).Nodup → (∀ f ∈ F, hasI L f.id = false) →
    Srt (F.foldl startStep L) ∧ NdI (F.foldl startStep L) ∧ ∀ x, x ∈ F.foldl startStep L ↔ x ∈ L ∨ ∃ f ∈ F, nonE f = true ∧ x = ((f.start : Int), f.id)
  | [], L, h1, h2, _, _ => ⟨h1, h2, fun x => by simp⟩
  | f :: F, L, h1, h2, h3, h4 => by
    rw [List.map_cons, List.nodup_cons] at h3
    rw [List.foldl_cons]
    by_cases hn : nonE f = true
    · have hf := h4 f (by simp)
      have e : startStep L f = insI ((f.start : Int), f.id) L := by unfold startStep; rw [if_pos hn, if_neg (by rw [hf]; simp)]
      rw [e]
      have s1 : Srt (insI ((f.start : Int), f.id) L) := insI_srt h1 ((hasI_no _ _).1 hf)
      have s2 : NdI (insI ((f.start : Int), f.id) L) := insI_nd h2 hf
      obtain ⟨k1, k2, k3⟩ := starts_gen F _ s1 s2 h3.2 (fun g hg => by
        rw [hasI_ins, h4 g (by simp [hg])]
        have : ¬ f.id = g.id := fun e2 => h3.1 (by rw [e2]; exact List.mem_map_of_mem hg)
        simp [this])
      refine ⟨k1, k2, fun x => ?_⟩
      rw [k3 x, (insI_perm _ _).mem_iff, List.mem_cons]
      constructor
      · rintro ((h | h) | ⟨g, hg, h⟩)
        · exact .inr ⟨f, by simp, hn, h⟩
        · exact .inl h
        · exact .inr ⟨g, by simp [hg], h⟩
      · rintro (h | ⟨g, hg, hgn, h⟩)
        · exact .inl (.inr h)
        · rcases List.mem_cons.1 hg with rfl | hg
          · exact .inl (.inl h)
          · exact .inr ⟨g, hg, hgn, h⟩
    · have e : startStep L f = L := by unfold startStep; rw [if_neg hn]
      rw [e]
      obtain ⟨k1, k2, k3⟩ := starts_gen F L h1 h2 h3.2 (fun g hg => h4 g (by simp [hg]))
      refine ⟨k1, k2, fun x => ?_⟩
      rw [k3 x]
      constructor
      · rintro (h | ⟨g, hg, h⟩)
        · exact .inl h
        · exact .inr ⟨g, by simp [hg], h⟩
      · rintro (h | ⟨g, hg, hgn, h⟩)
        · exact .inl h
        · rcases List.mem_cons.1 hg with rfl | hg
          · exact absurd hgn hn
          · exact .inr ⟨g, hg, hgn, h⟩
theorem starts_spec {F : List Fl} (hd : (F.map (·.id)).Nodup) : Srt (startsF F) ∧ NdI (startsF F) ∧ ∀ x, x ∈ startsF F ↔ ∃ f ∈ F, nonE f = true ∧ x = ((f.start : Int), f.id) := by
  obtain ⟨h1, h2, h3⟩ := starts_gen F [] List.Pairwise.nil (by simp [NdI]) hd (fun f _ => rfl)
  exact ⟨h1, h2, fun x => by rw [show startsF F = F.foldl startStep [] from rfl, h3 x]; simp⟩

/-! ### The flows beside the one who serves -/
structure SV (s : CS) (S : Sf) (g : Nat → Fl) : Prop where
  F : S.F = (List.range 5).map g
  ri : RI s
  idle : s.is = false
  v : s.v = S.v
  most : s.most = S.most
  L : s.L = startsF S.F
  id : ∀ f : Nat, f < 5 → (g f).id = f
  r : ∀ f : Nat, f < 5 → (g f).r = 1 + f * f
  fin : ∀ f : Nat, f < 5 → (g f).fin = (s.th (100 + f)).finish
  own : ∀ f : Nat, f < 5 → nonE (g f) = true → s.ow f = 100 + f ∧ (s.th (100 + f)).flow = f ∧ (s.th (100 + f)).r = 1 + f * f
  pk : ∀ f : Nat, f < 5 → ∀ p ∈ (g f).L, p.flow = f ∧ 1 ≤ p.len ∧ p.len ≤ 90
theorem five_cases {j : Nat} (h : j < 5) : j = 0 ∨ j = 1 ∨ j = 2 ∨ j = 3 ∨ j = 4 := by omega
theorem five_at (g : Nat → Fl) {f : Nat} (h : f < 5) : ((List.range 5).map g)[f]? = some (g f) := by
  rcases five_cases h with rfl | rfl | rfl | rfl | rfl <;> rfl
theorem five_set (g : Nat → Fl) {f : Nat} (h : f < 5) (x : Fl) : ((List.range 5).map g).set f x = (List.range 5).map (updN g f x) := by
  rcases five_cases h with rfl | rfl | rfl | rfl | rfl <;> rfl
theorem five_mem (g : Nat → Fl) (x : Fl) : x ∈ (List.range 5).map g ↔ ∃ i, i < 5 ∧ x = g i := by
  rw [List.mem_map]
  constructor
  · rintro ⟨i, hi, rfl⟩; exact ⟨i, List.mem_range.1 hi, rfl⟩
  · rintro ⟨i, hi, rfl⟩; exact ⟨i, List.mem_range.2 hi, rfl⟩
theorem five_nodup {g : Nat → Fl} (hid : ∀ f : Nat, f < 5 → (g f).id = f) : (((List.range 5).map g).map (·.id)).Nodup := by
  have e : ((List.range 5).map g).map (·.id) = [0, 1, 2, 3, 4] := by
    show [(g 0).id, (g 1).id, (g 2).id, (g 3).id, (g 4).id] = _
    rw [hid 0 (by omega), hid 1 (by omega), hid 2 (by omega), hid 3 (by omega), hid 4 (by omega)]; rfl
  rw [e]; decide
theorem five_pos {g : Nat → Fl} (hid : ∀ f : Nat, f < 5 → (g f).id = f) {f : Nat} (h : f < 5) : posF ((List.range 5).map g) f = f := by
  refine posF_at (five_at g h) (hid f h) (fun j x hj hx => ?_)
  rw [five_at g (by omega)] at hx
  cases hx
  rw [hid j (by omega)]; omega
theorem five_starts {g : Nat → Fl} (hid : ∀ f : Nat, f < 5 → (g f).id = f) : Srt (startsF ((List.range 5).map g)) ∧ NdI (startsF ((List.range 5).map g)) ∧ ∀ x, x ∈ startsF ((List.range 5).map g) ↔ ∃ i : Nat, i < 5 ∧ nonE (g i) = true ∧ x = (((g i).start : Int), (i : Int)) := by
  obtain ⟨h1, h2, h3⟩ := starts_spec (five_nodup hid)
  refine ⟨h1, h2, fun x => ?_⟩
  rw [h3 x]
  constructor
  · rintro ⟨f, hf, hn, he⟩
    obtain ⟨i, hi, rfl⟩ := (five_mem g f).1 hf
    exact ⟨i, hi, hn, by rw [he, hid i hi]⟩
  · rintro ⟨i, hi, hn, he⟩
    exact ⟨g i, (five_mem g _).2 ⟨i, hi, rfl⟩, hn, by rw [he, hid i hi]⟩
section
variable {s : CS} {S : Sf} {g : Nat → Fl} {n : Nat}
theorem SV.mem (h : SV s S g) : ∀ x, x ∈ s.L ↔ ∃ i : Nat, i < 5 ∧ nonE (g i) = true ∧ x = (((g i).start : Int), (i : Int)) := by
  rw [h.L, h.F]; exact (five_starts h.id).2.2
theorem SV.has (h : SV s S g) {f : Nat} (hf : f < 5) : hasI s.L f = nonE (g f) := by
  rw [Bool.eq_iff_iff, hasI_iff]
  constructor
  · rintro ⟨x, hx, he⟩
    obtain ⟨i, hi, hn, rfl⟩ := (h.mem x).1 hx
    have h2 : (i : Int) = f := he
    have : i = f := by omega
    subst this; exact hn
  · intro hn
    exact ⟨_, (h.mem _).2 ⟨f, hf, hn, rfl⟩, rfl⟩
theorem nonE_iff (f : Fl) : nonE f = true ↔ f.L ≠ [] := by unfold nonE; cases f.L <;> simp

/-- The lists are alike, if they hold alike. -/
theorem starts_eq {L : List It} {g' : Nat → Fl} (hid : ∀ f : Nat, f < 5 → (g' f).id = f) (h1 : Srt L) (h2 : NdI L) (h : ∀ x, x ∈ L ↔ ∃ i : Nat, i < 5 ∧ nonE (g' i) = true ∧ x = (((g' i).start : Int), (i : Int))) : L = startsF ((List.range 5).map g') := by
  obtain ⟨k1, k2, k3⟩ := five_starts hid
  exact eq_of_mem h1 k1 h2 k2 (fun x => by rw [h x, k3 x])
theorem updN_id {f : Nat} {x : Fl} (hid : ∀ j : Nat, j < 5 → (g j).id = j) (hx : x.id = (g f).id) (hf : f < 5) : ∀ j : Nat, j < 5 → (updN g f x j).id = j := fun j hj => by
  by_cases e : j = f
  · subst e; rw [updN_same, hx]; exact hid j hj
  · rw [updN_other _ _ e]; exact hid j hj

/-! A packet comes. -/
theorem SV.arr (h : SV s S g) {f : Nat} (hf : f < 5) {p : Pk} (hp : p.flow = f) : arrCode S p = (if flFull (g f) = true then 9 else 0) ∧ arrS S p = (if flFull (g f) = true then S else { S with F := S.F.set f (flPut (g f) S.v p) }) := by
  have hpos : posF S.F p.flow = f := by rw [hp, h.F]; exact five_pos h.id hf
  have hat : flAt S.F (f : Int) = g f := by rw [h.F]; exact flAt_get (five_at g hf)
  have h1 : arrCode S p = (if flFull (g f) = true then 9 else 0) := by unfold arrCode; rw [hpos, if_neg (by omega), hat]
  refine ⟨h1, ?_⟩
  unfold arrS
  rw [h1, hpos, hat, Int.toNat_natCast]
  cases flFull (g f) <;> simp
theorem SV.more (h : SV s S g) {f : Nat} (hf : f < 5) (hn : nonE (g f) = true) {p : Pk} (hp : p.flow = f ∧ 1 ≤ p.len ∧ p.len ≤ 90) : SV s { S with F := S.F.set f (flPut (g f) S.v p) } (updN g f (flPut (g f) S.v p)) := by
  have hL : (g f).L ≠ [] := (nonE_iff _).1 hn
  have hst : (flPut (g f) S.v p).start = (g f).start := by unfold flPut; rw [if_neg (by intro e; exact hL (List.eq_nil_of_length_eq_zero e))]
  have hne : nonE (flPut (g f) S.v p) = true := by rw [nonE_iff]; unfold flPut; simp
  have hid2 := updN_id (x := flPut (g f) S.v p) h.id rfl hf
  have each : ∀ j : Nat, nonE (updN g f (flPut (g f) S.v p) j) = nonE (g j) ∧ (updN g f (flPut (g f) S.v p) j).start = (g j).start ∧ (updN g f (flPut (g f) S.v p) j).fin = (g j).fin ∧ (updN g f (flPut (g f) S.v p) j).r = (g j).r := fun j => by
    by_cases e : j = f
    · subst e; rw [updN_same]; exact ⟨by rw [hne, hn], hst, rfl, rfl⟩
    · rw [updN_other _ _ e]; exact ⟨rfl, rfl, rfl, rfl⟩
  refine { F := by rw [h.F]; exact five_set g hf _, ri := h.ri, idle := h.idle, v := h.v, most := h.most, L := ?_, id := hid2, r := fun j hj => by rw [(each j).2.2.2]; exact h.r j hj, fin := fun j hj => by rw [(each j).2.2.1]; exact h.fin j hj, own := fun j hj hjn => h.own j hj (by rw [← (each j).1]; exact hjn), pk := fun j hj q hq => ?_ }
  · show s.L = startsF (S.F.set f (flPut (g f) S.v p))
    rw [h.F, five_set g hf]
    refine starts_eq hid2 (by rw [h.L, h.F]; exact (five_starts h.id).1) (by rw [h.L, h.F]; exact (five_starts h.id).2.1) (fun x => ?_)
    rw [h.mem x]
    constructor
    · rintro ⟨i, hi, hin, he⟩; exact ⟨i, hi, by rw [(each i).1]; exact hin, by rw [(each i).2.1]; exact he⟩
    · rintro ⟨i, hi, hin, he⟩; exact ⟨i, hi, by rw [← (each i).1]; exact hin, by rw [← (each i).2.1]; exact he⟩
  · by_cases e : j = f
    · subst e; rw [updN_same] at hq
      rcases List.mem_append.1 hq with hq | hq
      · exact h.pk j hj q hq
      · simp only [List.mem_cons, List.not_mem_nil, or_false] at hq; subst hq; exact hp
    · rw [updN_other _ _ e] at hq; exact h.pk j hj q hq
theorem SV.first (h : SV s S g) (hci : CI s n) {f : Nat} (hf : f < 5) (hn : nonE (g f) = false) {p : Pk} (hp : p.flow = f ∧ 1 ≤ p.len ∧ p.len ≤ 90) :
    wakeB s (100 + f) f = true ∧ SV (wakeC s (100 + f) f (1 + f * f)) { S with F := S.F.set f (flPut (g f) S.v p) } (updN g f (flPut (g f) S.v p)) := by
  have hL : (g f).L = [] := by cases e : (g f).L with | nil => rfl | cons a b => (have := (nonE_iff (g f)).2 (by rw [e]; simp); rw [hn] at this; cases this)
  have hkey : wakeK s (100 + f) = (flPut (g f) S.v p).start := by unfold wakeK flPut; rw [hL, ← h.fin f hf, h.v]; rfl
  have htk : takeQ s.M (wakeK s (100 + f)) f = true := by
    rw [h.ri.take hci (by unfold wakeK; omega) (by omega), h.has hf, hn]; rfl
  have hb : wakeB s (100 + f) f = true := htk
  have hne : nonE (flPut (g f) S.v p) = true := by rw [nonE_iff]; unfold flPut; simp
  have hid2 := updN_id (x := flPut (g f) S.v p) h.id rfl hf
  have hnf : hasI s.L f = false := by rw [h.has hf]; exact hn
  have hW := h.ri.wake hci (100 + f) f (1 + f * f)
  have hwL : (wakeC s (100 + f) f (1 + f * f)).L = insI (((flPut (g f) S.v p).start : Int), (f : Int)) s.L := by
    unfold wakeC; rw [if_pos hb]
    show pushL s.M s.L (wakeK s (100 + f)) f = _
    unfold pushL; rw [if_pos htk, hkey]
  have hth : (wakeC s (100 + f) f (1 + f * f)).th = updI s.th (100 + f) { s.th (100 + f) with flow := f, r := 1 + f * f } := by unfold wakeC; rw [if_pos hb]
  have how : (wakeC s (100 + f) f (1 + f * f)).ow = updI s.ow f (100 + f) := by unfold wakeC; rw [if_pos hb]
  refine ⟨hb, { F := by rw [h.F]; exact five_set g hf _, ri := hW, idle := by unfold wakeC; rw [if_pos hb]; exact h.idle, v := by unfold wakeC; rw [if_pos hb]; exact h.v, most := by unfold wakeC; rw [if_pos hb]; exact h.most, L := ?_, id := hid2, r := fun j hj => ?_, fin := fun j hj => ?_, own := fun j hj hjn => ?_, pk := fun j hj q hq => ?_ }⟩
  · show (wakeC s (100 + f) f (1 + f * f)).L = startsF (S.F.set f (flPut (g f) S.v p))
    rw [h.F, five_set g hf, hwL]
    have s1 : Srt s.L := hci.ok.srt
    refine starts_eq hid2 (insI_srt s1 ((hasI_no _ _).1 hnf)) (insI_nd hci.ok.nd hnf) (fun x => ?_)
    rw [(insI_perm _ _).mem_iff, List.mem_cons, h.mem x]
    constructor
    · rintro (rfl | ⟨i, hi, hin, he⟩)
      · exact ⟨f, hf, by rw [updN_same]; exact hne, by rw [updN_same]⟩
      · have : i ≠ f := fun e => by subst e; rw [hn] at hin; cases hin
        exact ⟨i, hi, by rw [updN_other _ _ this]; exact hin, by rw [updN_other _ _ this]; exact he⟩
    · rintro ⟨i, hi, hin, he⟩
      by_cases e : i = f
      · subst e; rw [updN_same] at he; exact .inl he
      · rw [updN_other _ _ e] at hin he; exact .inr ⟨i, hi, hin, he⟩
  · by_cases e : j = f
    · subst e; rw [updN_same]; exact h.r j hj
    · rw [updN_other _ _ e]; exact h.r j hj
  · rw [hth]; unfold updI
    by_cases e : j = f
    · subst e; rw [updN_same, if_pos rfl]; exact h.fin j hj
    · rw [updN_other _ _ e, if_neg (by omega)]; exact h.fin j hj
  · rw [hth, how]; unfold updI
    by_cases e : j = f
    · subst e; rw [if_pos rfl, if_pos rfl]; exact ⟨rfl, rfl, rfl⟩
    · rw [updN_other _ _ e] at hjn
      rw [if_neg (by omega), if_neg (by omega)]; exact h.own j hj hjn
  · by_cases e : j = f
    · subst e; rw [updN_same] at hq
      rcases List.mem_append.1 hq with hq | hq
      · exact h.pk j hj q hq
      · simp only [List.mem_cons, List.not_mem_nil, or_false] at hq; subst hq; exact hp
    · rw [updN_other _ _ e] at hq; exact h.pk j hj q hq

/-! A packet is taken. -/
theorem SV.len (h : SV s S g) : S.F.length = 5 := by rw [h.F]; rfl
theorem SV.none_ (h : SV s S g) (hci : CI s n) (hL : s.L = []) : pickV s = .tuple #[.int .i64 0, .int .u64 0, .bool false] ∧ servV S = .tuple #[.agg #[.int .i64 0, .int .i64 0, .int .i64 0], .bool false] ∧ SV (pickC s) (servS S) g := by
  have hb : bestF S.F = -1 := by
    rcases best_spec S.F S.F.length (Nat.le_refl _) with ⟨hb, -⟩ | ⟨b, gg, hb, hbl, hgg, hn, -⟩
    · exact hb
    · exfalso
      rw [h.len] at hbl
      rw [h.F, five_at g hbl] at hgg
      cases hgg
      have := (h.mem _).2 ⟨b, hbl, hn, rfl⟩
      rw [hL] at this; cases this
  obtain ⟨e1, e2⟩ := servV_no hb
  have hr := h.ri.pick hci (by rw [hL]; intro x hx; cases hx)
  refine ⟨by unfold pickV; rw [hL], e1, ?_⟩
  rw [e2]
  rw [pickC_nil hL] at hr ⊢
  exact { h with ri := hr.1, v := by show max s.v s.most = max S.v S.most; rw [h.v, h.most] }
theorem SV.serve (h : SV s S g) (hci : CI s n) (hk : ∀ x ∈ s.L, x.1 = (kn x : Int) ∧ kn x < 18446744073709551616) {x : It} {l : List It} (hL : s.L = x :: l) :
    ∃ (b : Nat) (p : Pk) (rest : List Pk) (pl : Nat), b < 5 ∧ (g b).L = p :: rest ∧ p.flow = b ∧ 1 ≤ p.len ∧ p.len ≤ 90 ∧ pickV s = .tuple #[.int .i64 (100 + b), .int .u64 pl, .bool true] ∧ servV S = .tuple #[.agg #[.int .i64 p.flow, .int .i64 p.len, .int .i64 p.mark], .bool true] ∧ (pickC s).is = true ∧
      SV (doneC (pickC s) p.len (decide (0 < rest.length))) (servS S) (updN g b (flTake (g b) p)) := by
  have hxL : x ∈ s.L := by rw [hL]; simp
  obtain ⟨i, hi, hin, hxe⟩ := (h.mem x).1 hxL
  have hsrt := hci.ok.srt
  rw [hL] at hsrt
  have hmin : ∀ y ∈ s.L, y = x ∨ ahead x y = true := fun y hy => by
    rw [hL] at hy
    rcases List.mem_cons.1 hy with e | hy
    · exact .inl e
    · exact .inr ((List.pairwise_cons.1 hsrt).1 y hy)
  obtain ⟨hb, hbest⟩ : bestF S.F = (i : Int) ∧ S.F[i]? = some (g i) := by
    refine ⟨?_, by rw [h.F]; exact five_at g hi⟩
    rcases best_spec S.F S.F.length (Nat.le_refl _) with ⟨-, hno⟩ | ⟨b, gg, hb, hbl, hgg, hn, hle⟩
    · have := hno i (g i) (by rw [h.len]; exact hi) (by rw [h.F]; exact five_at g hi)
      rw [hin] at this; cases this
    · rw [h.len] at hbl
      rw [h.F, five_at g hbl] at hgg
      cases hgg
      have h1 := hle i (g i) (by rw [h.len]; exact hi) (by rw [h.F]; exact five_at g hi) hin
      have h2 := hmin _ ((h.mem _).2 ⟨b, hbl, hn, rfl⟩)
      have hbi : b = i := by
        rcases h2 with h2 | h2
        · rw [hxe] at h2
          simp only [Prod.mk.injEq] at h2
          omega
        · rw [hxe, ahead_iff] at h2
          simp only at h2
          omega
      show bestTo S.F S.F.length = _
      rw [hb, hbi]
  have hLi : (g i).L ≠ [] := (nonE_iff _).1 hin
  cases hgl : (g i).L with
  | nil => exact absurd hgl hLi
  | cons p rest =>
    obtain ⟨how, hfl, hr⟩ := h.own i hi hin
    obtain ⟨hpf, hp1, hp2⟩ := h.pk i hi p (by rw [hgl]; simp)
    obtain ⟨e1, e2⟩ := servV_yes hb hbest hgl
    have hx2 : x.2 = (i : Int) := by rw [hxe]
    have hx1 := (hk x hxL).1
    have hkx : kn x = (g i).start := by have : x.1 = ((g i).start : Int) := by rw [hxe]
                                        omega
    have hpk := h.ri.pick hci (fun y hy => (hk y hy).1)
    have hcp := hci.pick (fun y hy => (hk y hy).2)
    have hpc := pickC_cons hL
    have hkey : (pickC s).v ≤ (pickC s).key := by rw [hpc]; exact Nat.le_refl _
    have his : (pickC s).is = true := by rw [hpc]
    have hobj : (pickC s).obj = 100 + i := by rw [hpc]; show s.ow x.2 = _; rw [hx2, how]
    have hpkey : (pickC s).key = (g i).start := by rw [hpc]; exact hkx
    have hpv : (pickC s).v = (g i).start := by rw [hpc]; exact hkx
    have hth : (pickC s).th = s.th := by rw [hpc]
    have howp : (pickC s).ow = s.ow := by rw [hpc]
    have hLp : (pickC s).L = l := by rw [hpc, hL]; rfl
    have hmo : (pickC s).most = s.most := by rw [hpc]
    have hfin : (doneT (pickC s) p.len).finish = flFin (g i) p := by
      show addT (pickC s).key (mulT (sizeN p.len) ((pickC s).th (pickC s).obj).r) = addT (g i).start (mulT (sizeN p.len) (g i).r)
      rw [hpkey, hth, hobj, hr, h.r i hi]
    have hflow : (doneT (pickC s) p.len).flow = i := by show ((pickC s).th (pickC s).obj).flow = _; rw [hth, hobj, hfl]
    have hrr : (doneT (pickC s) p.len).r = 1 + i * i := by show ((pickC s).th (pickC s).obj).r = _; rw [hth, hobj, hr]
    have hnl : hasI l i = false := by rw [hasI_tail hci.ok.nd hL]; simp [hx2]
    obtain ⟨more, hmore⟩ : ∃ m, decide (0 < rest.length) = m := ⟨_, rfl⟩
    have hdn := hpk.1.done hcp hkey p.len more
    have htk : takeQ (pickC s).M (flFin (g i) p) i = true := by
      have hge : (pickC s).v ≤ flFin (g i) p := by
        rw [← hfin]
        have := addT_ge (b := mulT (sizeN p.len) ((pickC s).th (pickC s).obj).r) hcp.k64
        show _ ≤ addT _ _
        omega
      rw [hpk.1.take hcp hge (by omega), hLp, hnl]; rfl
    have hdL : (doneC (pickC s) p.len more).L = if more = true then insI ((flFin (g i) p : Int), (i : Int)) l else l := by
      unfold doneC; rw [if_pos his]
      cases more
      · simp only [Bool.false_eq_true, if_false]; exact hLp
      · simp only [if_true]
        show pushL (pickC s).M (pickC s).L (doneT (pickC s) p.len).finish (doneT (pickC s) p.len).flow = _
        rw [hfin, hflow]; unfold pushL; rw [if_pos htk, hLp]
    have hdth : (doneC (pickC s) p.len more).th = updI s.th (100 + i) (doneT (pickC s) p.len) := by unfold doneC; rw [if_pos his]; simp only; rw [hth, hobj]
    have hdow : (doneC (pickC s) p.len more).ow = s.ow := by unfold doneC; rw [if_pos his]; exact howp
    have hdm : (doneC (pickC s) p.len more).most = max s.most (flFin (g i) p) := by unfold doneC; rw [if_pos his]; simp only; rw [hmo, hfin]
    have hid2 := updN_id (x := flTake (g i) p) h.id rfl hi
    have htl : (flTake (g i) p).L = rest := by show (g i).L.tail = rest; rw [hgl]; rfl
    have htn : nonE (flTake (g i) p) = more := by unfold nonE; rw [htl, hmore]
    have hlmem : ∀ y, y ∈ l ↔ y ∈ s.L ∧ y.2 ≠ i := fun y => by
      constructor
      · intro hy
        exact ⟨by rw [hL]; simp [hy], fun e => (hasI_no _ _).1 hnl y hy e⟩
      · rintro ⟨hy, hne⟩
        rw [hL] at hy
        rcases List.mem_cons.1 hy with e | hy
        · exact absurd (by rw [e, hx2]) hne
        · exact hy
    refine ⟨i, p, rest, (s.th (100 + (i : Int))).place, hi, hgl, hpf, hp1, hp2, by unfold pickV; rw [hL]; simp only; rw [hx2, how], e1, his, ?_⟩
    rw [hmore, e2]
    refine { F := by show S.F.set i _ = _; rw [h.F]; exact five_set g hi _, ri := hdn.1, idle := by unfold doneC; rw [if_pos his], v := by show (doneC (pickC s) p.len more).v = (g i).start; rw [hdn.2, hpv], most := by show (doneC (pickC s) p.len more).most = max S.most (flFin (g i) p); rw [hdm, h.most], L := ?_, id := hid2, r := fun j hj => ?_, fin := fun j hj => ?_, own := fun j hj hjn => ?_, pk := fun j hj q hq => ?_ }
    · show (doneC (pickC s) p.len more).L = startsF (S.F.set i (flTake (g i) p))
      rw [h.F, five_set g hi, hdL]
      have s1 : Srt l := (List.pairwise_cons.1 hsrt).2
      have n1 : NdI l := by have := hci.ok.nd; rw [hL] at this; unfold NdI at this ⊢; rw [List.map_cons, List.nodup_cons] at this; exact this.2
      have hst : (flTake (g i) p).start = flFin (g i) p := rfl
      cases more
      · simp only [Bool.false_eq_true, if_false]
        refine starts_eq hid2 s1 n1 (fun y => ?_)
        rw [hlmem y, h.mem y]
        constructor
        · rintro ⟨⟨j, hj, hjn, he⟩, hne⟩
          have : j ≠ i := fun e => by subst e; exact hne (by rw [he])
          exact ⟨j, hj, by rw [updN_other _ _ this]; exact hjn, by rw [updN_other _ _ this]; exact he⟩
        · rintro ⟨j, hj, hjn, he⟩
          by_cases e : j = i
          · subst e; rw [updN_same, htn] at hjn; cases hjn
          · rw [updN_other _ _ e] at hjn he
            exact ⟨⟨j, hj, hjn, he⟩, by rw [he]; simp only; omega⟩
      · simp only [if_true]
        refine starts_eq hid2 (insI_srt s1 ((hasI_no _ _).1 hnl)) (insI_nd n1 hnl) (fun y => ?_)
        rw [(insI_perm _ _).mem_iff, List.mem_cons, hlmem y, h.mem y]
        constructor
        · rintro (rfl | ⟨⟨j, hj, hjn, he⟩, hne⟩)
          · exact ⟨i, hi, by rw [updN_same]; exact htn, by rw [updN_same, hst]⟩
          · have : j ≠ i := fun e => by subst e; exact hne (by rw [he])
            exact ⟨j, hj, by rw [updN_other _ _ this]; exact hjn, by rw [updN_other _ _ this]; exact he⟩
        · rintro ⟨j, hj, hjn, he⟩
          by_cases e : j = i
          · subst e; rw [updN_same, hst] at he; exact .inl he
          · rw [updN_other _ _ e] at hjn he
            exact .inr ⟨⟨j, hj, hjn, he⟩, by rw [he]; simp only; omega⟩
    · by_cases e : j = i
      · subst e; rw [updN_same]; exact h.r j hj
      · rw [updN_other _ _ e]; exact h.r j hj
    · rw [hdth]; unfold updI
      by_cases e : j = i
      · subst e; rw [updN_same, if_pos rfl, hfin]; rfl
      · rw [updN_other _ _ e, if_neg (by omega)]; exact h.fin j hj
    · rw [hdth, hdow]; unfold updI
      by_cases e : j = i
      · subst e; rw [if_pos rfl]; exact ⟨how, hflow, hrr⟩
      · rw [updN_other _ _ e] at hjn
        rw [if_neg (by omega)]; exact h.own j hj hjn
    · by_cases e : j = i
      · subst e; rw [updN_same, htl] at hq; exact h.pk j hj q (by rw [hgl]; simp [hq])
      · rw [updN_other _ _ e] at hq; exact h.pk j hj q hq
end
end Go.Proofs.YtolohheflbmfaaaGreatDoor
