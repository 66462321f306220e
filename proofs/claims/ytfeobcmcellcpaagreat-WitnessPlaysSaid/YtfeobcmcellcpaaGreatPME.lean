/-
  Texts of this claim, joined: Me, Mf, Mf2. No condition.
-/
import Derived.Test.YtfeobcmcellcpaaGreatPM
set_option linter.unusedVariables false
set_option linter.unusedSimpArgs false
/-! Me -/
namespace Go.Proofs.YtfeobcmcellcpaaGreat
open Go.RowKit

/-- The packets of a slice that is read, one by one. -/
theorem pk_at {w : World} {v : Value} {n : Nat} {L : List Pk} (h : SlAt w 3 v n (L.flatMap pkVs)) : L.length = n ∧ n ≤ maxLen ∧ ∃ ao cap, v = .slice ao n cap ∧ ∀ i, i < n → ∃ b off p, ao = some ⟨b, off, none⟩ ∧ b < w.heap.size ∧ L[i]? = some p ∧ w.cell? ⟨b, off + i * 3, none⟩ = some (.int .i64 p.flow) ∧ w.cell? ⟨b, off + i * 3 + 1, none⟩ = some (.int .i64 p.len) ∧ w.cell? ⟨b, off + i * 3 + 2, none⟩ = some (.int .i64 p.mark) := by
  obtain ⟨h1, h2, ao, cap, rfl, h3⟩ := h.get pkVs 3 pkVs_len (by omega)
  refine ⟨h1, h2, ao, cap, rfl, fun i hi => ?_⟩
  rcases h3 with h3 | ⟨b, off, rfl, hb, hc⟩
  · omega
  · obtain ⟨p, hp⟩ : ∃ p, L[i]? = some p := ⟨_, List.getElem?_eq_getElem (by omega)⟩
    exact ⟨b, off, p, rfl, hb, hp, hc i p hp 0 _ rfl, hc i p hp 1 _ rfl, hc i p hp 2 _ rfl⟩

set_option maxHeartbeats 400000 in
theorem pkplainf_any (p q : Pk) (w : World) : Calls Tryz.prog 57 #[pkV p, pkV q] w (RetUpd [] w (.bool (pkE p q))) := by
  have t : ∀ a b : Int, (a == b) = decide (a = b) := fun a b => by rw [Bool.eq_iff_iff]; simp
  unfold pkV pkE
  go_enter Tryz.func57, Tryz.ntmps57
  go_wp2
  all_goals
    go_ret
    exact ⟨by simp_all, ((Upd.refl _ _).alloc _).alloc _⟩
def PkSameAt (w : World) (L M : List Pk) (iv : Value) (wr : World) : Prop := ∃ i : Nat, iv = .int .i64 i ∧ i ≤ L.length ∧ (∀ j p q, j < i → L[j]? = some p → M[j]? = some q → pkE p q = true) ∧ Upd [] w wr
theorem PkSameAt.next {w w' : World} {L M : List Pk} {i : Nat} {p q : Pk} (hi : i < L.length) (h : ∀ j p q, j < i → L[j]? = some p → M[j]? = some q → pkE p q = true) (h1 : L[i]? = some p) (h2 : M[i]? = some q) (he : pkE p q = true) (hU : Upd [] w w') : PkSameAt w L M (.int .i64 ((i + 1 : Nat) : Int)) w' :=
  ⟨i + 1, rfl, hi, fun j a b hj ha hb => by
    by_cases e : j = i
    · subst e; rw [h1] at ha; rw [h2] at hb; cases ha; cases hb; exact he
    · exact h j a b (by omega) ha hb, hU⟩

set_option maxHeartbeats 4000000 in
theorem pksame_any {L M : List Pk} {v1 v2 : Value} {n m : Nat} {w : World} (h1 : SlAt w 3 v1 n (L.flatMap pkVs)) (h2 : SlAt w 3 v2 m (M.flatMap pkVs)) :
    Calls Tryz.prog 56 #[v1, v2, .func (.func 57) #[] #[]] w (RetUpd [] w (.bool (eqPk L M))) := by
  have H1 := Lib.hid h1
  have H2 := Lib.hid h2
  obtain ⟨hl1, hb1, a1, c1, rfl, -⟩ := pk_at h1
  obtain ⟨hl2, hb2, a2, c2, rfl, -⟩ := pk_at h2
  have bn : n ≤ 9223372036854775807 := hb1
  have HL1 := Lib.hid hl1
  have HL2 := Lib.hid hl2
  clear h1 h2 hl1 hl2 hb1 hb2
  by_cases hnm : n = m
  · subst hnm
    have t0 : ((n : Int) == (n : Int)) = true := by simp
    go_enter Tryz.func56, Tryz.ntmps56
    go_wp2
    go_loopw [7] (fun iv wr => PkSameAt w L M iv wr) (fun iv _ => n - (intOf iv).toNat)
    case atStart => exact ⟨0, rfl, by omega, fun j p q hj => by omega, Upd.refl _ _⟩
    case round =>
      obtain ⟨i, rfl, hi, hall, hU⟩ := hrel
      rw [HL1.out] at hi
      have HU := Lib.hid hU
      have HALL := Lib.hid hall
      clear hU hall
      by_cases hlt : i < n
      · have t1 : decide (i < n) = true := by simp [hlt]
        have b1 : (i : Int) < (n : Int) := by omega
        obtain ⟨-, -, _, _, e1, k1⟩ := pk_at (H1.out.upd HU.out)
        cases e1
        obtain ⟨-, -, _, _, e2, k2⟩ := pk_at (H2.out.upd HU.out)
        cases e2
        obtain ⟨g1, o1, p, rfl, l1, hp, x0, x1, x2⟩ := k1 i hlt
        obtain ⟨g2, o2, q, rfl, l2, hq, y0, y1, y2⟩ := k2 i hlt
        clear k1 k2
        have HC := Lib.hid (fun w' => pkplainf_any p q w')
        have HP := Lib.hid hp
        have HQ := Lib.hid hq
        clear hp hq
        have fin : i + 1 ≤ 9223372036854775807 := by omega
        cases hpq : pkE p q with
        | true =>
          rw [hpq] at HC
          go_wp2_with fail
          go_region_held3 (fun w' => Upd [] wr w' ∧ ∀ (b o : Nat), b < wr.heap.size → b ∉ ([] : List Nat) → w'.cell? ⟨b, o, none⟩ = wr.cell? ⟨b, o, none⟩)
            (first | exact Held.init _ _ | exact Held.step (by assumption) hB) (first | (go_at_call 57; refine (HC.out _).mono ?_; rintro e w' ⟨rfl, hB⟩))
          have hU2 := HU.out.trans ((Upd.refl [] wr).drew.trans hB)
          go_wp2
          exact ⟨PkSameAt.next (by rw [HL1.out]; exact hlt) HALL.out HP.out HQ.out hpq hU2, by first | (simp [intOf]; done) | (simp [intOf]; omega)⟩
        | false =>
          rw [hpq] at HC
          have hf : eqPk L M = false := eqPk_at (by rw [HL1.out, HL2.out]) HP.out HQ.out hpq
          rw [hf]
          go_wp2_with fail
          go_region_held3 (fun w' => Upd [] wr w' ∧ ∀ (b o : Nat), b < wr.heap.size → b ∉ ([] : List Nat) → w'.cell? ⟨b, o, none⟩ = wr.cell? ⟨b, o, none⟩)
            (first | exact Held.init _ _ | exact Held.step (by assumption) hB) (first | (go_at_call 57; refine (HC.out _).mono ?_; rintro e w' ⟨rfl, hB⟩))
          have hU2 := HU.out.trans ((Upd.refl [] wr).drew.trans hB)
          go_wp2
          go_ret
          exact ⟨rfl, hU2⟩
      · have t1 : decide (i < n) = false := by simp; omega
        have hT : eqPk L M = true := eqPk_all (by rw [HL1.out, HL2.out]) (fun j p q hp hq => HALL.out j p q (by have := (List.getElem?_eq_some_iff.1 hp).1; rw [HL1.out] at this; omega) hp hq)
        go_wp2
        go_ret
        exact ⟨by rw [hT]; rfl, HU.out⟩
  · have t0 : ((n : Int) == (m : Int)) = false := by simp; omega
    have hf : eqPk L M = false := eqPk_len (by rw [HL1.out, HL2.out]; exact hnm)
    rw [hf]
    go_enter Tryz.func56, Tryz.ntmps56
    go_wp2
    go_ret
    exact ⟨rfl, Upd.refl _ _⟩
theorem pkplain_any {L M : List Pk} {v1 v2 : Value} {n m : Nat} {w : World} (h1 : SlAt w 3 v1 n (L.flatMap pkVs)) (h2 : SlAt w 3 v2 m (M.flatMap pkVs)) :
    Calls Tryz.prog 26 #[v1, v2] w (RetUpd [] w (.bool (eqPk L M))) := by
  have H1 := pksame_any h1 h2
  obtain ⟨-, -, a1, c1, rfl, -⟩ := pk_at h1
  obtain ⟨-, -, a2, c2, rfl, -⟩ := pk_at h2
  clear h1 h2
  go_enter Tryz.func26, Tryz.ntmps26
  go_wp2_with fail
  refine H1.mono ?_
  rintro e w2 ⟨rfl, hU⟩
  go_wp2
  go_ret
  exact ⟨rfl, hU⟩

set_option maxHeartbeats 4000000 in
theorem pkequal_any {L M : List Pk} {v1 v2 : Value} {n m : Nat} {w : World} (h1 : SlAt w 3 v1 n (L.flatMap pkVs)) (h2 : SlAt w 3 v2 m (M.flatMap pkVs)) :
    Calls Tryz.prog 88 #[v1, v2] w (RetUpd [] w (.bool (eqPk L M))) := by
  have H1 := Lib.hid h1
  have H2 := Lib.hid h2
  obtain ⟨hl1, hb1, a1, c1, rfl, -⟩ := pk_at h1
  obtain ⟨hl2, hb2, a2, c2, rfl, -⟩ := pk_at h2
  have bn : n ≤ 9223372036854775807 := hb1
  have HL1 := Lib.hid hl1
  have HL2 := Lib.hid hl2
  clear h1 h2 hl1 hl2 hb1 hb2
  by_cases hnm : n = m
  · subst hnm
    have t0 : ((n : Int) == (n : Int)) = true := by simp
    go_enter Tryz.func88, Tryz.ntmps88
    go_wp2
    go_loopw [13] (fun iv wr => PkSameAt w L M iv wr) (fun iv _ => n - (intOf iv).toNat)
    case atStart => exact ⟨0, rfl, by omega, fun j p q hj => by omega, Upd.refl _ _⟩
    case round =>
      obtain ⟨i, rfl, hi, hall, hU⟩ := hrel
      rw [HL1.out] at hi
      have HU := Lib.hid hU
      have HALL := Lib.hid hall
      clear hU hall
      by_cases hlt : i < n
      · have t1 : decide (i < n) = true := by simp [hlt]
        have b1 : (i : Int) < (n : Int) := by omega
        obtain ⟨-, -, _, _, e1, k1⟩ := pk_at (H1.out.upd HU.out)
        cases e1
        obtain ⟨-, -, _, _, e2, k2⟩ := pk_at (H2.out.upd HU.out)
        cases e2
        obtain ⟨g1, o1, p, rfl, l1, hp, x0, x1, x2⟩ := k1 i hlt
        obtain ⟨g2, o2, q, rfl, l2, hq, y0, y1, y2⟩ := k2 i hlt
        clear k1 k2
        have HP := Lib.hid hp
        have HQ := Lib.hid hq
        clear hp hq
        have fin : i + 1 ≤ 9223372036854775807 := by omega
        cases hpq : pkE p q with
        | true =>
          obtain rfl := pkE_iff.1 hpq
          go_wp2_with fail
          go_region
          all_goals
            go_wp2
            exact ⟨PkSameAt.next (by rw [HL1.out]; exact hlt) HALL.out HP.out HQ.out hpq (HU.out.trans (Upd.refl [] wr).drew), by first | (simp [intOf]; done) | (simp [intOf]; omega)⟩
        | false =>
          have hf : eqPk L M = false := eqPk_at (by rw [HL1.out, HL2.out]) HP.out HQ.out hpq
          have hne : ¬ (p.flow = q.flow ∧ p.len = q.len ∧ p.mark = q.mark) := fun h => by
            have : p = q := by cases p; cases q; simp at h; simp [h]
            rw [pkE_iff.2 this] at hpq; cases hpq
          by_cases n1 : p.flow = q.flow
          · by_cases n2 : p.len = q.len
            · have n3 : ¬ p.mark = q.mark := fun h => hne ⟨n1, n2, h⟩
              clear hne
              go_wp2_with fail
              go_region
              all_goals
                go_wp2
                go_ret
                exact ⟨by rw [hf]; rfl, HU.out.trans (Upd.refl [] wr).drew⟩
            · clear n1
              clear hne
              go_wp2_with fail
              go_region
              all_goals
                go_wp2
                go_ret
                exact ⟨by rw [hf]; rfl, HU.out.trans (Upd.refl [] wr).drew⟩
          · skip
            clear hne
            go_wp2_with fail
            go_region
            all_goals
              go_wp2
              go_ret
              exact ⟨by rw [hf]; rfl, HU.out.trans (Upd.refl [] wr).drew⟩
      · have t1 : decide (i < n) = false := by simp; omega
        have hT : eqPk L M = true := eqPk_all (by rw [HL1.out, HL2.out]) (fun j p q hp hq => HALL.out j p q (by have := (List.getElem?_eq_some_iff.1 hp).1; rw [HL1.out] at this; omega) hp hq)
        go_wp2
        go_ret
        exact ⟨by rw [hT]; rfl, HU.out⟩
  · have t0 : ((n : Int) == (m : Int)) = false := by simp; omega
    have hf : eqPk L M = false := eqPk_len (by rw [HL1.out, HL2.out]; exact hnm)
    rw [hf]
    go_enter Tryz.func88, Tryz.ntmps88
    go_wp2
    go_ret
    exact ⟨rfl, Upd.refl _ _⟩

set_option maxHeartbeats 4000000 in
theorem wsame_any {a b : Rt} {va vb : Value} {w : World} (h1 : RtAt w va a) (h2 : RtAt w vb b) : Calls Tryz.prog 60 #[va, vb] w (RetUpd [] w (.bool (rtSame a b))) := by
  obtain ⟨la, rfl, h1⟩ := h1
  obtain ⟨lb, rfl, h2⟩ := h2
  have HP : Hid (∀ w', Upd [] w w' → Calls Tryz.prog 88 #[la, lb] w' (RetUpd [] w' (.bool (eqPk a.L b.L)))) := fun w' hu => pkequal_any (h1.upd hu) (h2.upd hu)
  clear h1 h2
  by_cases he : a.e = b.e
  · have t1 : (a.e == b.e) = true := by simp [he]
    by_cases hn : a.n = b.n
    · have t2 : (a.n == b.n) = true := by simp [hn]
      by_cases hv : a.v = b.v
      · have t3 : (a.v == b.v) = true := by simp [hv]
        have t4 : ((a.v : Int) == (b.v : Int)) = true := by simp [hv]
        have hr : rtSame a b = eqPk a.L b.L := by unfold rtSame; simp [he, hn, hv]
        rw [hr]
        clear hr he hn hv
        go_enter Tryz.func60, Tryz.ntmps60
        go_wp2_with fail
        refine (HP.out _ (((Upd.refl [] w).alloc _).alloc _)).mono ?_
        rintro e w2 ⟨rfl, hU⟩
        go_wp2
        all_goals
          go_ret
          exact ⟨by simp_all, (((Upd.refl [] w).alloc _).alloc _).trans hU⟩
      · have t3 : (a.v == b.v) = false := by simp [hv]
        have t4 : ((a.v : Int) == (b.v : Int)) = false := by simp; omega
        have hr : rtSame a b = false := by unfold rtSame; simp [hv]
        rw [hr]
        clear hr he hn hv
        go_enter Tryz.func60, Tryz.ntmps60
        go_wp2
        go_ret
        exact ⟨rfl, ((Upd.refl [] w).alloc _).alloc _⟩
    · have t2 : (a.n == b.n) = false := by simp [hn]
      have hr : rtSame a b = false := by unfold rtSame; simp [hn]
      rw [hr]
      clear hr he hn
      go_enter Tryz.func60, Tryz.ntmps60
      go_wp2
      go_ret
      exact ⟨rfl, ((Upd.refl [] w).alloc _).alloc _⟩
  · have t1 : (a.e == b.e) = false := by simp [he]
    have hr : rtSame a b = false := by unfold rtSame; simp [he]
    rw [hr]
    clear hr he
    go_enter Tryz.func60, Tryz.ntmps60
    go_wp2
    go_ret
    exact ⟨rfl, ((Upd.refl [] w).alloc _).alloc _⟩

set_option maxHeartbeats 4000000 in
theorem hret_any {a b : Rt} {va vb : Value} {w : World} (h1 : RtAt w va a) (h2 : RtAt w vb b) : Calls Tryz.prog 55 #[va, vb] w (RetUpd [] w (.bool (rtSame a b))) := by
  obtain ⟨la, rfl, h1⟩ := h1
  obtain ⟨lb, rfl, h2⟩ := h2
  have HP : Hid (∀ w', Upd [] w w' → Calls Tryz.prog 26 #[la, lb] w' (RetUpd [] w' (.bool (eqPk a.L b.L)))) := fun w' hu => pkplain_any (h1.upd hu) (h2.upd hu)
  clear h1 h2
  by_cases he : a.e = b.e
  · have t1 : (a.e == b.e) = true := by simp [he]
    by_cases hn : a.n = b.n
    · have t2 : (a.n == b.n) = true := by simp [hn]
      by_cases hv : a.v = b.v
      · have t3 : (a.v == b.v) = true := by simp [hv]
        have t4 : ((a.v : Int) == (b.v : Int)) = true := by simp [hv]
        have hr : rtSame a b = eqPk a.L b.L := by unfold rtSame; simp [he, hn, hv]
        rw [hr]
        clear hr he hn hv
        go_enter Tryz.func55, Tryz.ntmps55
        go_wp2_with fail
        refine (HP.out _ (((Upd.refl [] w).alloc _).alloc _)).mono ?_
        rintro e w2 ⟨rfl, hU⟩
        go_wp2
        all_goals
          go_ret
          exact ⟨by simp_all, (((Upd.refl [] w).alloc _).alloc _).trans hU⟩
      · have t3 : (a.v == b.v) = false := by simp [hv]
        have t4 : ((a.v : Int) == (b.v : Int)) = false := by simp; omega
        have hr : rtSame a b = false := by unfold rtSame; simp [hv]
        rw [hr]
        clear hr he hn hv
        go_enter Tryz.func55, Tryz.ntmps55
        go_wp2
        go_ret
        exact ⟨rfl, ((Upd.refl [] w).alloc _).alloc _⟩
    · have t2 : (a.n == b.n) = false := by simp [hn]
      have hr : rtSame a b = false := by unfold rtSame; simp [hn]
      rw [hr]
      clear hr he hn
      go_enter Tryz.func55, Tryz.ntmps55
      go_wp2
      go_ret
      exact ⟨rfl, ((Upd.refl [] w).alloc _).alloc _⟩
  · have t1 : (a.e == b.e) = false := by simp [he]
    have hr : rtSame a b = false := by unfold rtSame; simp [he]
    rw [hr]
    clear hr he
    go_enter Tryz.func55, Tryz.ntmps55
    go_wp2
    go_ret
    exact ⟨rfl, ((Upd.refl [] w).alloc _).alloc _⟩
end Go.Proofs.YtfeobcmcellcpaaGreat

/-! Mf -/
namespace Go.Proofs.YtfeobcmcellcpaaGreat
open Go.RowKit

theorem callP_no1 {L : List Li} {x : Pt} (h : x.who < 0) : callP L x = none := by unfold callP; rw [if_pos (.inl h)]
theorem callP_no2 {L : List Li} {x : Pt} (h : (L.length : Int) ≤ x.who) : callP L x = none := by unfold callP; rw [if_pos (.inr h)]
theorem callP_at {L : List Li} {x : Pt} {i : Nat} {l : Li} (hi : x.who = i) (hl : L[i]? = some l) : callP L x = if x.place < 0 ∨ (l.L.length : Int) ≤ x.place then none else
    match l.L[x.place.toNat]? with
    | none => none
    | some c => if c.op = 5 ∧ x.r.e ≠ 1 then some ⟨4, 0, 0, 0⟩ else some c := by
  have := (List.getElem?_eq_some_iff.1 hl).1
  unfold callP
  rw [if_neg (by omega), hi, Int.toNat_natCast, hl]
  rfl
theorem callP_at2 {L : List Li} {x : Pt} {i j : Nat} {l : Li} {c : Cl} (hi : x.who = i) (hl : L[i]? = some l) (hj : x.place = j) (hc : l.L[j]? = some c) : callP L x = if c.op = 5 ∧ x.r.e ≠ 1 then some ⟨4, 0, 0, 0⟩ else some c := by
  have := (List.getElem?_eq_some_iff.1 hc).1
  rw [callP_at hi hl, if_neg (by omega), hj, Int.toNat_natCast, hc]

/-- A plan's list, at a place. -/
theorem lists_at {w : World} {v : Value} {L : List Li} (h : ListsAt w v L) : L.length ≤ maxLen ∧ ∃ ao cap, v = .slice ao L.length cap ∧ ∀ i l, L[i]? = some l → ∃ b off, ao = some ⟨b, off, none⟩ ∧ b < w.heap.size ∧ w.cell? ⟨b, off + i, none⟩ = some l.v ∧ l.L.length ≤ maxLen ∧ ∃ lo lc, l.v = .slice lo l.L.length lc ∧
    ∀ j c, l.L[j]? = some c → ∃ b2 off2, lo = some ⟨b2, off2, none⟩ ∧ b2 < w.heap.size ∧ w.cell? ⟨b2, off2 + j * 4, none⟩ = some (.int .i64 c.op) ∧ w.cell? ⟨b2, off2 + j * 4 + 1, none⟩ = some (.int .i64 c.flow) ∧ w.cell? ⟨b2, off2 + j * 4 + 2, none⟩ = some (.int .i64 c.a) ∧ w.cell? ⟨b2, off2 + j * 4 + 3, none⟩ = some (.int .i64 c.b) := by
  obtain ⟨hs, hin⟩ := h
  obtain ⟨-, h2, ao, cap, rfl, h3⟩ := hs.get liVs 1 liVs_len (by omega)
  refine ⟨h2, ao, cap, rfl, fun i l hl => ?_⟩
  have hil := (List.getElem?_eq_some_iff.1 hl).1
  rcases h3 with h3 | ⟨b, off, rfl, hb, hc⟩
  · omega
  · have h0 := hc i l hl 0 _ rfl
    rw [Nat.mul_one, Nat.add_zero] at h0
    obtain ⟨-, g2, lo, lc, e, g3⟩ := (hin l (List.mem_of_getElem? hl)).get clVs 4 clVs_len (by omega)
    refine ⟨b, off, rfl, hb, h0, g2, lo, lc, e, fun j c hj => ?_⟩
    have hjl := (List.getElem?_eq_some_iff.1 hj).1
    rcases g3 with g3 | ⟨b2, off2, rfl, hb2, hc2⟩
    · omega
    · exact ⟨b2, off2, rfl, hb2, hc2 j c hj 0 _ rfl, hc2 j c hj 1 _ rfl, hc2 j c hj 2 _ rfl, hc2 j c hj 3 _ rfl⟩
theorem three_new {w w1 w2 w3 : World} {t1 t2 t3 : TypeId} {c1 c2 c3 : List Value} (h1 : w.alloc (.cells c1.toArray t1) = w1) (h2 : w1.alloc (.cells c2.toArray t2) = w2) (h3 : w2.alloc (.cells c3.toArray t3) = w3) :
    Blk w3 w.heap.size t1 c1 ∧ Blk w3 w1.heap.size t2 c2 ∧ Blk w3 w2.heap.size t3 c3 ∧ Upd [] w w3 ∧ w1.heap.size = w.heap.size + 1 ∧ w2.heap.size = w.heap.size + 2 := by
  subst h1 h2 h3
  exact ⟨((Blk.new w t1 c1).alloc _).alloc _, (Blk.new _ t2 c2).alloc _, Blk.new _ t3 c3, (((Upd.refl [] w).alloc _).alloc _).alloc _, by simp, by simp⟩

/-- The four stores into the result's cell. -/
def callW (w : World) (b : Nat) (c : Cl) : World := (((w.setCell ⟨b, 0, none⟩ (.int .i64 c.op)).setCell ⟨b, 1, none⟩ (.int .i64 c.flow)).setCell ⟨b, 2, none⟩ (.int .i64 c.a)).setCell ⟨b, 3, none⟩ (.int .i64 c.b)
theorem callW_upd (w : World) (b : Nat) (c : Cl) : Upd [b] w (callW w b c) := ((((Upd.refl [b] w).setCell (.inl (by simp)) _).setCell (.inl (by simp)) _).setCell (.inl (by simp)) _).setCell (.inl (by simp)) _

set_option maxHeartbeats 4000000 in
theorem wcall_any {w : World} {pv : Value} {p : Pl} {x : Pt} (hp : PlanAt w pv p) : Calls Tryz.prog 59 #[pv, ptV x] w (RetUpd [] w (callV (callP p.L x))) := by
  obtain ⟨lv, rfl, hL⟩ := hp
  obtain ⟨w1, hw1⟩ : ∃ y, w.alloc (.cells #[.int .i64 p.c.sh, .int .i64 p.c.sl, .int .i64 p.c.wo, .int .i64 p.c.wd, .int .u64 p.c.unit, lv] 29) = y := ⟨_, rfl⟩
  obtain ⟨w2, hw2⟩ : ∃ y, w1.alloc (.cells #[.int .i64 x.step, .int .i64 x.who, .int .i64 x.place, .int .i64 x.r.e, x.lv, .int .i64 x.r.n, .int .u64 x.r.v] 59) = y := ⟨_, rfl⟩
  obtain ⟨w3, hw3⟩ : ∃ y, w2.alloc (.cells #[.int .i64 0, .int .i64 0, .int .i64 0, .int .i64 0] 46) = y := ⟨_, rfl⟩
  obtain ⟨h1, h2, h3, hu, e12⟩ := three_new hw1 hw2 hw3
  have E12 := Lib.hid e12
  clear e12
  unfold ptV
  go_enter Tryz.func59, Tryz.ntmps59
  go_wp2_with fail
  obtain ⟨b0, hb0⟩ : ∃ y, w.heap.size = y := ⟨_, rfl⟩
  obtain ⟨b1, hb1⟩ : ∃ y, w1.heap.size = y := ⟨_, rfl⟩
  obtain ⟨b2, hb2⟩ : ∃ y, w2.heap.size = y := ⟨_, rfl⟩
  obtain ⟨e1, e2⟩ := E12.out
  have HB2 : Hid (w.heap.size + 2 = b2) := by unfold Hid; omega
  rw [hb0] at h1
  rw [hb1] at h2
  rw [hb2] at h3
  rw [hb0, hb1, hb2]
  have n01 : b0 ≠ b1 := by omega
  have n02 : b0 ≠ b2 := by omega
  have n12 : b1 ≠ b2 := by omega
  have n10 := n01.symm
  have n20 := n02.symm
  have n21 := n12.symm
  have HU3 := Lib.hid hu
  have hL3 := hL.upd hu
  clear hw1 hw2 hw3 hb0 hb1 hb2 e1 e2 hu hL
  have p5 := h1.cell (j := 5) rfl
  have x1 := h2.cell (j := 1) rfl
  have x2 := h2.cell (j := 2) rfl
  have x3 := h2.cell (j := 3) rfl
  have q0 := h3.cell (j := 0) rfl
  have q1 := h3.cell (j := 1) rfl
  have q2 := h3.cell (j := 2) rfl
  have q3 := h3.cell (j := 3) rfl
  have f0 := h3.free 0
  have f1 := h3.free 1
  have f2 := h3.free 2
  have f3 := h3.free 3
  have l0 := h1.lt
  have l1 := h2.lt
  have l2 := h3.lt
  have H3 := Lib.hid h3
  obtain ⟨hm, ao, cap, rfl, hat⟩ := lists_at hL3
  have HAT := Lib.hid hat
  clear h1 h2 h3 hL3 hat
  obtain ⟨n, hn⟩ : ∃ n, p.L.length = n := ⟨_, rfl⟩
  have HN := Lib.hid hn
  rw [hn] at p5 hm
  have bn : n ≤ 9223372036854775807 := hm
  by_cases c1 : x.who < 0
  · have t1 : decide (x.who < 0) = true := by simp [c1]
    have HNO := Lib.hid (callP_no1 (L := p.L) c1)
    clear hm hn
    go_quiet (fail)
    go_wp2_with fail
    refine bodyPost_ret (v := .tuple #[.agg #[.int .i64 0, .int .i64 0, .int .i64 0, .int .i64 0], .bool false]) (by simp [results, Tryz.results59, go_sem, q0, q1, q2, q3]) rfl ?_
    exact ⟨by rw [HNO.out]; rfl, HU3.out.then ((Upd.refl [] w3).drewN _ |>.nil |>.trans (callW_upd _ b2 zCl)) (fun _ _ h => h) (fun i hi hm => by have := HB2.out; simp only [List.mem_cons, List.not_mem_nil, or_false] at hm; omega)⟩
  · have t1 : decide (x.who < 0) = false := by simp; omega
    by_cases c2 : (n : Int) ≤ x.who
    · have t2 : decide ((n : Int) ≤ x.who) = true := by simp [c2]
      have HNO := Lib.hid (callP_no2 (L := p.L) (x := x) (by rw [HN.out]; exact c2))
      clear hm hn
      go_quiet (fail)
      go_wp2_with fail
      refine bodyPost_ret (v := .tuple #[.agg #[.int .i64 0, .int .i64 0, .int .i64 0, .int .i64 0], .bool false]) (by simp [results, Tryz.results59, go_sem, q0, q1, q2, q3]) rfl ?_
      exact ⟨by rw [HNO.out]; rfl, HU3.out.then ((Upd.refl [] w3).drewN _ |>.nil |>.trans (callW_upd _ b2 zCl)) (fun _ _ h => h) (fun i hi hm => by have := HB2.out; simp only [List.mem_cons, List.not_mem_nil, or_false] at hm; omega)⟩
    · have t2 : decide ((n : Int) ≤ x.who) = false := by simp; omega
      obtain ⟨i, hi⟩ : ∃ i : Nat, x.who = i := ⟨x.who.toNat, by omega⟩
      rw [hi] at x1 t1 t2 c1 c2
      have t2' : decide (n ≤ i) = false := by simp; omega
      have t1' : decide ((i : Int) < 0) = false := by simp
      obtain ⟨l, hl⟩ : ∃ l, p.L[i]? = some l := ⟨_, List.getElem?_eq_getElem (by omega)⟩
      have bi : (i : Int) < (n : Int) := by omega
      obtain ⟨lb, loff, rfl, ll, y0, hm2, lo, lc, hlv, hat2⟩ := HAT.out i l hl
      rw [hlv] at y0
      have HAT2 := Lib.hid hat2
      obtain ⟨m, hmm⟩ : ∃ m, l.L.length = m := ⟨_, rfl⟩
      have HM := Lib.hid hmm
      rw [hmm] at y0 hm2
      have bm : m ≤ 9223372036854775807 := hm2
      have HC := Lib.hid (callP_at hi hl)
      have HI := Lib.hid hi
      have HL := Lib.hid hl
      clear hm hn hat2 hlv hmm hl hi hm2 c1 c2
      by_cases c3 : x.place < 0
      · have t3 : decide (x.place < 0) = true := by simp [c3]
        have HNO : Hid (callP p.L x = none) := by unfold Hid; rw [HC.out, if_pos (.inl c3)]
        go_quiet (fail)
        go_wp2_with fail
        refine bodyPost_ret (v := .tuple #[.agg #[.int .i64 0, .int .i64 0, .int .i64 0, .int .i64 0], .bool false]) (by simp [results, Tryz.results59, go_sem, q0, q1, q2, q3]) rfl ?_
        exact ⟨by rw [HNO.out]; rfl, HU3.out.then ((Upd.refl [] w3).drewN _ |>.nil |>.trans (callW_upd _ b2 zCl)) (fun _ _ h => h) (fun i hi hm => by have := HB2.out; simp only [List.mem_cons, List.not_mem_nil, or_false] at hm; omega)⟩
      · have t3 : decide (x.place < 0) = false := by simp; omega
        by_cases c4 : (m : Int) ≤ x.place
        · have t4 : decide ((m : Int) ≤ x.place) = true := by simp [c4]
          have HNO : Hid (callP p.L x = none) := by unfold Hid; rw [HC.out, if_pos (.inr (by rw [HM.out]; exact c4))]
          go_quiet (fail)
          go_wp2_with fail
          refine bodyPost_ret (v := .tuple #[.agg #[.int .i64 0, .int .i64 0, .int .i64 0, .int .i64 0], .bool false]) (by simp [results, Tryz.results59, go_sem, q0, q1, q2, q3]) rfl ?_
          exact ⟨by rw [HNO.out]; rfl, HU3.out.then ((Upd.refl [] w3).drewN _ |>.nil |>.trans (callW_upd _ b2 zCl)) (fun _ _ h => h) (fun i hi hm => by have := HB2.out; simp only [List.mem_cons, List.not_mem_nil, or_false] at hm; omega)⟩
        · have t4 : decide ((m : Int) ≤ x.place) = false := by simp; omega
          obtain ⟨j, hj⟩ : ∃ j : Nat, x.place = j := ⟨x.place.toNat, by omega⟩
          rw [hj] at x2 t3 t4 c3 c4
          have t4' : decide (m ≤ j) = false := by simp; omega
          have t3' : decide ((j : Int) < 0) = false := by simp
          obtain ⟨c, hc⟩ : ∃ c, l.L[j]? = some c := ⟨_, List.getElem?_eq_getElem (by have := HM.out; omega)⟩
          have bj : (j : Int) < (m : Int) := by omega
          obtain ⟨cb, coff, rfl, lcb, k0, k1, k2, k3⟩ := HAT2.out j c hc
          have HCC := Lib.hid (callP_at2 HI.out HL.out hj hc)
          clear hj hc c3 c4
          go_quiet (fail)
          obtain ⟨w4, hw4⟩ : ∃ y, w3.drewN nq = y := ⟨_, rfl⟩
          have u4 : Upd [] w3 w4 := by rw [← hw4]; exact (Upd.refl [] w3).drewN _
          rw [hw4]
          clear hw4
          have g0 : w4.cell? ⟨b0, 5, none⟩ = _ := (u4.cell l0 (by simp) 5).trans p5
          have g1 : w4.cell? ⟨b1, 1, none⟩ = _ := (u4.cell l1 (by simp) 1).trans x1
          have g2 : w4.cell? ⟨b1, 2, none⟩ = _ := (u4.cell l1 (by simp) 2).trans x2
          have g3 : w4.cell? ⟨b1, 3, none⟩ = _ := (u4.cell l1 (by simp) 3).trans x3
          have g4 := (u4.cell ll (by simp) (loff + i)).trans y0
          have g5 := (u4.cell lcb (by simp) (coff + j * 4)).trans k0
          have g6 := (u4.cell lcb (by simp) (coff + j * 4 + 1)).trans k1
          have g7 := (u4.cell lcb (by simp) (coff + j * 4 + 2)).trans k2
          have g8 := (u4.cell lcb (by simp) (coff + j * 4 + 3)).trans k3
          have h0 : w4.drew.cell? ⟨b0, 5, none⟩ = _ := g0
          have h1 : w4.drew.cell? ⟨b1, 1, none⟩ = _ := g1
          have h2 : w4.drew.cell? ⟨b1, 2, none⟩ = _ := g2
          have h3 : w4.drew.cell? ⟨b1, 3, none⟩ = _ := g3
          have h4 : w4.drew.cell? ⟨lb, loff + i, none⟩ = _ := g4
          have h5 : w4.drew.cell? ⟨cb, coff + j * 4, none⟩ = _ := g5
          have h6 : w4.drew.cell? ⟨cb, coff + j * 4 + 1, none⟩ = _ := g6
          have h7 : w4.drew.cell? ⟨cb, coff + j * 4 + 2, none⟩ = _ := g7
          have h8 : w4.drew.cell? ⟨cb, coff + j * 4 + 3, none⟩ = _ := g8
          have m0 := Nat.lt_of_lt_of_le l0 u4.size
          have m1 := Nat.lt_of_lt_of_le l1 u4.size
          have m2 := Nat.lt_of_lt_of_le l2 u4.size
          have m3 := Nat.lt_of_lt_of_le ll u4.size
          have m4 := Nat.lt_of_lt_of_le lcb u4.size
          have H4 := Lib.hid (H3.out.upd u4 (by simp))
          have HU4 := Lib.hid u4
          clear p5 x1 x2 x3 y0 k0 k1 k2 k3 q0 q1 q2 q3 f0 f1 f2 f3 l0 l1 l2 ll lcb u4
          go_wp2_with fail
          go_region
          all_goals
            obtain ⟨w5, hw5⟩ : ∃ y, (w4.alloc (.cells #[.int .i64 c.op, .int .i64 c.flow, .int .i64 c.a, .int .i64 c.b] 46)).drew = y := ⟨_, rfl⟩
            have hb5 : Blk w5 w4.heap.size 46 (clVs c) := by rw [← hw5]; exact (Blk.new w4 46 (clVs c)).upd (Upd.refl [] _).drew (by simp)
            have u5 : Upd [] w4 w5 := by rw [← hw5]; exact ((Upd.refl [] w4).alloc _).drew
            rw [hw5]
            obtain ⟨b4, hb4⟩ : ∃ y, w4.heap.size = y := ⟨_, rfl⟩
            rw [hb4] at hb5 m0 m1 m2
            rw [hb4]
            have j0 := (u5.cell (by rw [hb4]; exact m1) (by simp) 3).trans g3
            have q0 := hb5.cell (j := 0) rfl
            have q1 := hb5.cell (j := 1) rfl
            have q2 := hb5.cell (j := 2) rfl
            have q3 := hb5.cell (j := 3) rfl
            have f0 := hb5.free 0
            have f1 := hb5.free 1
            have f2 := hb5.free 2
            have f3 := hb5.free 3
            have H5 := Lib.hid (H4.out.upd u5 (by simp))
            have r0 := H5.out.cell (j := 0) rfl
            have r1 := H5.out.cell (j := 1) rfl
            have r2 := H5.out.cell (j := 2) rfl
            have r3 := H5.out.cell (j := 3) rfl
            have k0 := H5.out.free 0
            have k1 := H5.out.free 1
            have k2 := H5.out.free 2
            have k3 := H5.out.free 3
            have l4 := hb5.lt
            have l2 := H5.out.lt
            have n24 : b2 ≠ b4 := by omega
            have n42 := n24.symm
            have HU5 : Hid (Upd [] w w5) := HU3.out.trans (HU4.out.trans u5)
            have HW4 : Hid (w.heap.size ≤ b4) := by have := HU3.out.size; have := HU4.out.size; unfold Hid; omega
            clear hw5 hb5 u5 hb4 g0 g1 g2 g3 g4 g5 g6 g7 g8 h0 h1 h2 h3 h4 h5 h6 h7 h8 m0 m1 m2 m3 m4
            by_cases o5 : c.op = 5
            · have s1 : (c.op == 5) = true := by simp [o5]
              by_cases e1 : x.r.e = 1
              · have s2 : (x.r.e == 1) = true := by simp [e1]
                have HCC2 : Hid (callP p.L x = some c) := by unfold Hid; rw [HCC.out, if_neg (fun h => h.2 e1)]
                clear o5 e1
                go_wp2_with fail
                refine bodyPost_ret (v := .tuple #[.agg #[.int .i64 (c.op), .int .i64 (c.flow), .int .i64 (c.a), .int .i64 (c.b)], .bool true]) (by simp [results, Tryz.results59, go_sem, r0, r1, r2, r3]) rfl ?_
                exact ⟨by rw [HCC2.out]; rfl, HU5.out.then (callW_upd w5 b2 c) (fun _ _ h => h) (fun i hi hm => by have := HB2.out; simp only [List.mem_cons, List.not_mem_nil, or_false] at hm; omega)⟩
              · have s2 : (x.r.e == 1) = false := by simp [e1]
                have HCC2 : Hid (callP p.L x = some ⟨4, 0, 0, 0⟩) := by unfold Hid; rw [HCC.out, if_pos ⟨o5, e1⟩]
                clear o5 e1
                go_wp2_with fail
                refine bodyPost_ret (v := .tuple #[.agg #[.int .i64 4, .int .i64 0, .int .i64 0, .int .i64 0], .bool true]) (by simp [results, Tryz.results59, go_sem, r0, r1, r2, r3]) rfl ?_
                exact ⟨by rw [HCC2.out]; rfl, (HU5.out.then (callW_upd w5 b4 ⟨4, 0, 0, 0⟩) (fun _ _ h => h) (fun i hi hm => by have := HW4.out; simp only [List.mem_cons, List.not_mem_nil, or_false] at hm; omega)).then (callW_upd _ b2 ⟨4, 0, 0, 0⟩) (fun _ _ h => h) (fun i hi hm => by have := HB2.out; simp only [List.mem_cons, List.not_mem_nil, or_false] at hm; omega)⟩
            · have s1 : (c.op == 5) = false := by simp [o5]
              have HCC2 : Hid (callP p.L x = some c) := by unfold Hid; rw [HCC.out, if_neg (fun h => o5 h.1)]
              clear o5
              go_wp2_with fail
              refine bodyPost_ret (v := .tuple #[.agg #[.int .i64 (c.op), .int .i64 (c.flow), .int .i64 (c.a), .int .i64 (c.b)], .bool true]) (by simp [results, Tryz.results59, go_sem, r0, r1, r2, r3]) rfl ?_
              exact ⟨by rw [HCC2.out]; rfl, HU5.out.then (callW_upd w5 b2 c) (fun _ _ h => h) (fun i hi hm => by have := HB2.out; simp only [List.mem_cons, List.not_mem_nil, or_false] at hm; omega)⟩
end Go.Proofs.YtfeobcmcellcpaaGreat

/-! Mf2 -/
namespace Go.Proofs.YtfeobcmcellcpaaGreat
open Go.RowKit

set_option maxHeartbeats 4000000 in
theorem dcall_any {w : World} {pv : Value} {p : Pl} {x : Pt} (hp : PlanAt w pv p) : Calls Tryz.prog 47 #[pv, ptV x] w (RetUpd [] w (callV (callP p.L x))) := by
  obtain ⟨lv, rfl, hL⟩ := hp
  obtain ⟨w1, hw1⟩ : ∃ y, w.alloc (.cells #[.int .i64 p.c.sh, .int .i64 p.c.sl, .int .i64 p.c.wo, .int .i64 p.c.wd, .int .u64 p.c.unit, lv] 29) = y := ⟨_, rfl⟩
  obtain ⟨w2, hw2⟩ : ∃ y, w1.alloc (.cells #[.int .i64 x.step, .int .i64 x.who, .int .i64 x.place, .int .i64 x.r.e, x.lv, .int .i64 x.r.n, .int .u64 x.r.v] 59) = y := ⟨_, rfl⟩
  obtain ⟨w3, hw3⟩ : ∃ y, w2.alloc (.cells #[.int .i64 0, .int .i64 0, .int .i64 0, .int .i64 0] 46) = y := ⟨_, rfl⟩
  obtain ⟨h1, h2, h3, hu, e12⟩ := three_new hw1 hw2 hw3
  have E12 := Lib.hid e12
  clear e12
  unfold ptV
  go_enter Tryz.func47, Tryz.ntmps47
  go_wp2_with fail
  obtain ⟨b0, hb0⟩ : ∃ y, w.heap.size = y := ⟨_, rfl⟩
  obtain ⟨b1, hb1⟩ : ∃ y, w1.heap.size = y := ⟨_, rfl⟩
  obtain ⟨b2, hb2⟩ : ∃ y, w2.heap.size = y := ⟨_, rfl⟩
  obtain ⟨e1, e2⟩ := E12.out
  have HB2 : Hid (w.heap.size + 2 = b2) := by unfold Hid; omega
  rw [hb0] at h1
  rw [hb1] at h2
  rw [hb2] at h3
  rw [hb0, hb1, hb2]
  have n01 : b0 ≠ b1 := by omega
  have n02 : b0 ≠ b2 := by omega
  have n12 : b1 ≠ b2 := by omega
  have n10 := n01.symm
  have n20 := n02.symm
  have n21 := n12.symm
  have HU3 := Lib.hid hu
  have hL3 := hL.upd hu
  clear hw1 hw2 hw3 hb0 hb1 hb2 e1 e2 hu hL
  have p5 := h1.cell (j := 5) rfl
  have x1 := h2.cell (j := 1) rfl
  have x2 := h2.cell (j := 2) rfl
  have x3 := h2.cell (j := 3) rfl
  have q0 := h3.cell (j := 0) rfl
  have q1 := h3.cell (j := 1) rfl
  have q2 := h3.cell (j := 2) rfl
  have q3 := h3.cell (j := 3) rfl
  have f0 := h3.free 0
  have f1 := h3.free 1
  have f2 := h3.free 2
  have f3 := h3.free 3
  have l0 := h1.lt
  have l1 := h2.lt
  have l2 := h3.lt
  have H3 := Lib.hid h3
  obtain ⟨hm, ao, cap, rfl, hat⟩ := lists_at hL3
  have HAT := Lib.hid hat
  clear h1 h2 h3 hL3 hat
  obtain ⟨n, hn⟩ : ∃ n, p.L.length = n := ⟨_, rfl⟩
  have HN := Lib.hid hn
  rw [hn] at p5 hm
  have bn : n ≤ 9223372036854775807 := hm
  by_cases c1 : x.who < 0
  · have t1 : decide (x.who < 0) = true := by simp [c1]
    have HNO := Lib.hid (callP_no1 (L := p.L) c1)
    clear hm hn
    go_quiet (fail)
    go_wp2_with fail
    refine bodyPost_ret (v := .tuple #[.agg #[.int .i64 0, .int .i64 0, .int .i64 0, .int .i64 0], .bool false]) (by simp [results, Tryz.results47, go_sem, q0, q1, q2, q3]) rfl ?_
    exact ⟨by rw [HNO.out]; rfl, HU3.out.then ((Upd.refl [] w3).drewN _ |>.nil |>.trans (callW_upd _ b2 zCl)) (fun _ _ h => h) (fun i hi hm => by have := HB2.out; simp only [List.mem_cons, List.not_mem_nil, or_false] at hm; omega)⟩
  · have t1 : decide (x.who < 0) = false := by simp; omega
    by_cases c2 : (n : Int) ≤ x.who
    · have t2 : decide ((n : Int) ≤ x.who) = true := by simp [c2]
      have HNO := Lib.hid (callP_no2 (L := p.L) (x := x) (by rw [HN.out]; exact c2))
      clear hm hn
      go_quiet (fail)
      go_wp2_with fail
      refine bodyPost_ret (v := .tuple #[.agg #[.int .i64 0, .int .i64 0, .int .i64 0, .int .i64 0], .bool false]) (by simp [results, Tryz.results47, go_sem, q0, q1, q2, q3]) rfl ?_
      exact ⟨by rw [HNO.out]; rfl, HU3.out.then ((Upd.refl [] w3).drewN _ |>.nil |>.trans (callW_upd _ b2 zCl)) (fun _ _ h => h) (fun i hi hm => by have := HB2.out; simp only [List.mem_cons, List.not_mem_nil, or_false] at hm; omega)⟩
    · have t2 : decide ((n : Int) ≤ x.who) = false := by simp; omega
      obtain ⟨i, hi⟩ : ∃ i : Nat, x.who = i := ⟨x.who.toNat, by omega⟩
      rw [hi] at x1 t1 t2 c1 c2
      have t2' : decide (n ≤ i) = false := by simp; omega
      have t1' : decide ((i : Int) < 0) = false := by simp
      obtain ⟨l, hl⟩ : ∃ l, p.L[i]? = some l := ⟨_, List.getElem?_eq_getElem (by omega)⟩
      have bi : (i : Int) < (n : Int) := by omega
      obtain ⟨lb, loff, rfl, ll, y0, hm2, lo, lc, hlv, hat2⟩ := HAT.out i l hl
      rw [hlv] at y0
      have HAT2 := Lib.hid hat2
      obtain ⟨m, hmm⟩ : ∃ m, l.L.length = m := ⟨_, rfl⟩
      have HM := Lib.hid hmm
      rw [hmm] at y0 hm2
      have bm : m ≤ 9223372036854775807 := hm2
      have HC := Lib.hid (callP_at hi hl)
      have HI := Lib.hid hi
      have HL := Lib.hid hl
      clear hm hn hat2 hlv hmm hl hi hm2 c1 c2
      by_cases c3 : x.place < 0
      · have t3 : decide (x.place < 0) = true := by simp [c3]
        have HNO : Hid (callP p.L x = none) := by unfold Hid; rw [HC.out, if_pos (.inl c3)]
        go_quiet (fail)
        go_wp2_with fail
        refine bodyPost_ret (v := .tuple #[.agg #[.int .i64 0, .int .i64 0, .int .i64 0, .int .i64 0], .bool false]) (by simp [results, Tryz.results47, go_sem, q0, q1, q2, q3]) rfl ?_
        exact ⟨by rw [HNO.out]; rfl, HU3.out.then ((Upd.refl [] w3).drewN _ |>.nil |>.trans (callW_upd _ b2 zCl)) (fun _ _ h => h) (fun i hi hm => by have := HB2.out; simp only [List.mem_cons, List.not_mem_nil, or_false] at hm; omega)⟩
      · have t3 : decide (x.place < 0) = false := by simp; omega
        by_cases c4 : (m : Int) ≤ x.place
        · have t4 : decide ((m : Int) ≤ x.place) = true := by simp [c4]
          have HNO : Hid (callP p.L x = none) := by unfold Hid; rw [HC.out, if_pos (.inr (by rw [HM.out]; exact c4))]
          go_quiet (fail)
          go_wp2_with fail
          refine bodyPost_ret (v := .tuple #[.agg #[.int .i64 0, .int .i64 0, .int .i64 0, .int .i64 0], .bool false]) (by simp [results, Tryz.results47, go_sem, q0, q1, q2, q3]) rfl ?_
          exact ⟨by rw [HNO.out]; rfl, HU3.out.then ((Upd.refl [] w3).drewN _ |>.nil |>.trans (callW_upd _ b2 zCl)) (fun _ _ h => h) (fun i hi hm => by have := HB2.out; simp only [List.mem_cons, List.not_mem_nil, or_false] at hm; omega)⟩
        · have t4 : decide ((m : Int) ≤ x.place) = false := by simp; omega
          obtain ⟨j, hj⟩ : ∃ j : Nat, x.place = j := ⟨x.place.toNat, by omega⟩
          rw [hj] at x2 t3 t4 c3 c4
          have t4' : decide (m ≤ j) = false := by simp; omega
          have t3' : decide ((j : Int) < 0) = false := by simp
          obtain ⟨c, hc⟩ : ∃ c, l.L[j]? = some c := ⟨_, List.getElem?_eq_getElem (by have := HM.out; omega)⟩
          have bj : (j : Int) < (m : Int) := by omega
          obtain ⟨cb, coff, rfl, lcb, k0, k1, k2, k3⟩ := HAT2.out j c hc
          have HCC := Lib.hid (callP_at2 HI.out HL.out hj hc)
          clear hj hc c3 c4
          go_quiet (fail)
          obtain ⟨w4, hw4⟩ : ∃ y, w3.drewN nq = y := ⟨_, rfl⟩
          have u4 : Upd [] w3 w4 := by rw [← hw4]; exact (Upd.refl [] w3).drewN _
          rw [hw4]
          clear hw4
          have g0 : w4.cell? ⟨b0, 5, none⟩ = _ := (u4.cell l0 (by simp) 5).trans p5
          have g1 : w4.cell? ⟨b1, 1, none⟩ = _ := (u4.cell l1 (by simp) 1).trans x1
          have g2 : w4.cell? ⟨b1, 2, none⟩ = _ := (u4.cell l1 (by simp) 2).trans x2
          have g3 : w4.cell? ⟨b1, 3, none⟩ = _ := (u4.cell l1 (by simp) 3).trans x3
          have g4 := (u4.cell ll (by simp) (loff + i)).trans y0
          have g5 := (u4.cell lcb (by simp) (coff + j * 4)).trans k0
          have g6 := (u4.cell lcb (by simp) (coff + j * 4 + 1)).trans k1
          have g7 := (u4.cell lcb (by simp) (coff + j * 4 + 2)).trans k2
          have g8 := (u4.cell lcb (by simp) (coff + j * 4 + 3)).trans k3
          have h0 : w4.drew.cell? ⟨b0, 5, none⟩ = _ := g0
          have h1 : w4.drew.cell? ⟨b1, 1, none⟩ = _ := g1
          have h2 : w4.drew.cell? ⟨b1, 2, none⟩ = _ := g2
          have h3 : w4.drew.cell? ⟨b1, 3, none⟩ = _ := g3
          have h4 : w4.drew.cell? ⟨lb, loff + i, none⟩ = _ := g4
          have h5 : w4.drew.cell? ⟨cb, coff + j * 4, none⟩ = _ := g5
          have h6 : w4.drew.cell? ⟨cb, coff + j * 4 + 1, none⟩ = _ := g6
          have h7 : w4.drew.cell? ⟨cb, coff + j * 4 + 2, none⟩ = _ := g7
          have h8 : w4.drew.cell? ⟨cb, coff + j * 4 + 3, none⟩ = _ := g8
          have m0 := Nat.lt_of_lt_of_le l0 u4.size
          have m1 := Nat.lt_of_lt_of_le l1 u4.size
          have m2 := Nat.lt_of_lt_of_le l2 u4.size
          have m3 := Nat.lt_of_lt_of_le ll u4.size
          have m4 := Nat.lt_of_lt_of_le lcb u4.size
          have H4 := Lib.hid (H3.out.upd u4 (by simp))
          have HU4 := Lib.hid u4
          clear p5 x1 x2 x3 y0 k0 k1 k2 k3 q0 q1 q2 q3 f0 f1 f2 f3 l0 l1 l2 ll lcb u4
          go_wp2_with fail
          go_region
          all_goals
            obtain ⟨w5, hw5⟩ : ∃ y, (w4.alloc (.cells #[.int .i64 c.op, .int .i64 c.flow, .int .i64 c.a, .int .i64 c.b] 46)).drew = y := ⟨_, rfl⟩
            have hb5 : Blk w5 w4.heap.size 46 (clVs c) := by rw [← hw5]; exact (Blk.new w4 46 (clVs c)).upd (Upd.refl [] _).drew (by simp)
            have u5 : Upd [] w4 w5 := by rw [← hw5]; exact ((Upd.refl [] w4).alloc _).drew
            rw [hw5]
            obtain ⟨b4, hb4⟩ : ∃ y, w4.heap.size = y := ⟨_, rfl⟩
            rw [hb4] at hb5 m0 m1 m2
            rw [hb4]
            have j0 := (u5.cell (by rw [hb4]; exact m1) (by simp) 3).trans g3
            have q0 := hb5.cell (j := 0) rfl
            have q1 := hb5.cell (j := 1) rfl
            have q2 := hb5.cell (j := 2) rfl
            have q3 := hb5.cell (j := 3) rfl
            have f0 := hb5.free 0
            have f1 := hb5.free 1
            have f2 := hb5.free 2
            have f3 := hb5.free 3
            have H5 := Lib.hid (H4.out.upd u5 (by simp))
            have r0 := H5.out.cell (j := 0) rfl
            have r1 := H5.out.cell (j := 1) rfl
            have r2 := H5.out.cell (j := 2) rfl
            have r3 := H5.out.cell (j := 3) rfl
            have k0 := H5.out.free 0
            have k1 := H5.out.free 1
            have k2 := H5.out.free 2
            have k3 := H5.out.free 3
            have l4 := hb5.lt
            have l2 := H5.out.lt
            have n24 : b2 ≠ b4 := by omega
            have n42 := n24.symm
            have HU5 : Hid (Upd [] w w5) := HU3.out.trans (HU4.out.trans u5)
            have HW4 : Hid (w.heap.size ≤ b4) := by have := HU3.out.size; have := HU4.out.size; unfold Hid; omega
            clear hw5 hb5 u5 hb4 g0 g1 g2 g3 g4 g5 g6 g7 g8 h0 h1 h2 h3 h4 h5 h6 h7 h8 m0 m1 m2 m3 m4
            by_cases o5 : c.op = 5
            · have s1 : (c.op == 5) = true := by simp [o5]
              by_cases e1 : x.r.e = 1
              · have s2 : (x.r.e == 1) = true := by simp [e1]
                have HCC2 : Hid (callP p.L x = some c) := by unfold Hid; rw [HCC.out, if_neg (fun h => h.2 e1)]
                clear o5 e1
                go_wp2_with fail
                refine bodyPost_ret (v := .tuple #[.agg #[.int .i64 (c.op), .int .i64 (c.flow), .int .i64 (c.a), .int .i64 (c.b)], .bool true]) (by simp [results, Tryz.results47, go_sem, r0, r1, r2, r3]) rfl ?_
                exact ⟨by rw [HCC2.out]; rfl, HU5.out.then (callW_upd w5 b2 c) (fun _ _ h => h) (fun i hi hm => by have := HB2.out; simp only [List.mem_cons, List.not_mem_nil, or_false] at hm; omega)⟩
              · have s2 : (x.r.e == 1) = false := by simp [e1]
                have HCC2 : Hid (callP p.L x = some ⟨4, 0, 0, 0⟩) := by unfold Hid; rw [HCC.out, if_pos ⟨o5, e1⟩]
                clear o5 e1
                go_wp2_with fail
                refine bodyPost_ret (v := .tuple #[.agg #[.int .i64 4, .int .i64 0, .int .i64 0, .int .i64 0], .bool true]) (by simp [results, Tryz.results47, go_sem, r0, r1, r2, r3]) rfl ?_
                exact ⟨by rw [HCC2.out]; rfl, HU5.out.then (callW_upd w5 b2 ⟨4, 0, 0, 0⟩) (fun _ _ h => h) (fun i hi hm => by have := HB2.out; simp only [List.mem_cons, List.not_mem_nil, or_false] at hm; omega)⟩
            · have s1 : (c.op == 5) = false := by simp [o5]
              have HCC2 : Hid (callP p.L x = some c) := by unfold Hid; rw [HCC.out, if_neg (fun h => o5 h.1)]
              clear o5
              go_wp2_with fail
              refine bodyPost_ret (v := .tuple #[.agg #[.int .i64 (c.op), .int .i64 (c.flow), .int .i64 (c.a), .int .i64 (c.b)], .bool true]) (by simp [results, Tryz.results47, go_sem, r0, r1, r2, r3]) rfl ?_
              exact ⟨by rw [HCC2.out]; rfl, HU5.out.then (callW_upd w5 b2 c) (fun _ _ h => h) (fun i hi hm => by have := HB2.out; simp only [List.mem_cons, List.not_mem_nil, or_false] at hm; omega)⟩
end Go.Proofs.YtfeobcmcellcpaaGreat
