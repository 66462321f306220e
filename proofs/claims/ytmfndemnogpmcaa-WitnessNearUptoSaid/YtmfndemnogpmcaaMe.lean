/-
  The walks of what holds packets and Rets against each other. No condition.
-/
import Derived.Test.YtmfndemnogpmcaaMb
set_option linter.unusedVariables false
set_option linter.unusedSimpArgs false
namespace Go.Proofs.Ytmfndemnogpmcaa
open Go.RowKit

/-- The packets of a slice that is read, one by one. -/
theorem pk_at {w : World} {v : Value} {n : Nat} {L : List Pk} (h : SlAt w 3 v n (L.flatMap pkVs)) : L.length = n ∧ n ≤ maxLen ∧ ∃ ao cap, v = .slice ao n cap ∧ ∀ i, i < n → ∃ b off p, ao = some ⟨b, off, none⟩ ∧ b < w.heap.size ∧ L[i]? = some p ∧ w.cell? ⟨b, off + i * 3, none⟩ = some (.int .i64 p.flow) ∧ w.cell? ⟨b, off + i * 3 + 1, none⟩ = some (.int .i64 p.len) ∧ w.cell? ⟨b, off + i * 3 + 2, none⟩ = some (.int .i64 p.mark) := by
  obtain ⟨h1, h2, ao, cap, rfl, h3⟩ := h.get pkVs 3 pkVs_len (by omega)
  refine ⟨h1, h2, ao, cap, rfl, fun i hi => ?_⟩
  rcases h3 with h3 | ⟨b, off, rfl, hb, hc⟩
  · omega
  · obtain ⟨p, hp⟩ : ∃ p, L[i]? = some p := ⟨_, List.getElem?_eq_getElem (by omega)⟩
    exact ⟨b, off, p, rfl, hb, hp, hc i p hp 0 _ rfl, hc i p hp 1 _ rfl, hc i p hp 2 _ rfl⟩

set_option maxHeartbeats 400000 in
theorem pkplainf_any (p q : Pk) (w : World) : Calls Try.prog 63 #[pkV p, pkV q] w (RetUpd [] w (.bool (pkE p q))) := by
  have t : ∀ a b : Int, (a == b) = decide (a = b) := fun a b => by rw [Bool.eq_iff_iff]; simp
  unfold pkV pkE
  go_enter Try.func63, Try.ntmps63
  go_wp2
  all_goals
    go_ret
    exact ⟨by simp_all, ((Upd.refl _ _).alloc _).alloc _⟩
def PkSameAt (w : World) (L M : List Pk) (iv : Value) (wr : World) : Prop := ∃ i : Nat, iv = .int .i64 i ∧ i ≤ L.length ∧ (∀ j p q, j < i → L[j]? = some p → M[j]? = some q → pkE p q = true) ∧ Upd [] w wr
theorem PkSameAt.next {w w' : World} {L M : List Pk} {i : Nat} {p q : Pk} (hi : i < L.length) (h : ∀ j p q, j < i → L[j]? = some p → M[j]? = some q → pkE p q = true) (h1 : L[i]? = some p) (h2 : M[i]? = some q) (he : pkE p q = true) (hU : Upd [] w w') : PkSameAt w L M (.int .i64 ((i + 1 : Nat) : Int)) w' :=
  ⟨i + 1, rfl, hi, fun j a b hj ha hb => by
    by_cases e : j = i
    · subst e; rw [h1] at ha; rw [h2] at hb; cases ha; cases hb; exact he
    · exact h j a b (by omega) ha hb, hU⟩

set_option maxHeartbeats 4000000 in
theorem pksame_any {L M : List Pk} {v1 v2 : Value} {n m : Nat} {w : World} (h1 : SlAt w 3 v1 n (L.flatMap pkVs)) (h2 : SlAt w 3 v2 m (M.flatMap pkVs)) :
    Calls Try.prog 62 #[v1, v2, .func (.func 63) #[] #[]] w (RetUpd [] w (.bool (eqPk L M))) := by
  have H1 := Lib.hid h1
  have H2 := Lib.hid h2
  obtain ⟨hl1, hb1, a1, c1, rfl, -⟩ := pk_at h1
  obtain ⟨hl2, hb2, a2, c2, rfl, -⟩ := pk_at h2
  have bn : n ≤ 9223372036854775807 := hb1
  have HL1 := Lib.hid hl1
  have HL2 := Lib.hid hl2
  clear h1 h2 hl1 hl2 hb1 hb2
  by_cases hnm : n = m
  · subst hnm
    have t0 : ((n : Int) == (n : Int)) = true := by simp
    go_enter Try.func62, Try.ntmps62
    go_wp2
    go_loopw [7] (fun iv wr => PkSameAt w L M iv wr) (fun iv _ => n - (intOf iv).toNat)
    case atStart => exact ⟨0, rfl, by omega, fun j p q hj => by omega, Upd.refl _ _⟩
    case round =>
      obtain ⟨i, rfl, hi, hall, hU⟩ := hrel
      rw [HL1.out] at hi
      have HU := Lib.hid hU
      have HALL := Lib.hid hall
      clear hU hall
      by_cases hlt : i < n
      · have t1 : decide (i < n) = true := by simp [hlt]
        have b1 : (i : Int) < (n : Int) := by omega
        obtain ⟨-, -, _, _, e1, k1⟩ := pk_at (H1.out.upd HU.out)
        cases e1
        obtain ⟨-, -, _, _, e2, k2⟩ := pk_at (H2.out.upd HU.out)
        cases e2
        obtain ⟨g1, o1, p, rfl, l1, hp, x0, x1, x2⟩ := k1 i hlt
        obtain ⟨g2, o2, q, rfl, l2, hq, y0, y1, y2⟩ := k2 i hlt
        clear k1 k2
        have HC := Lib.hid (fun w' => pkplainf_any p q w')
        have HP := Lib.hid hp
        have HQ := Lib.hid hq
        clear hp hq
        have fin : i + 1 ≤ 9223372036854775807 := by omega
        cases hpq : pkE p q with
        | true =>
          rw [hpq] at HC
          go_wp2_with fail
          go_region_held3 (fun w' => Upd [] wr w' ∧ ∀ (b o : Nat), b < wr.heap.size → b ∉ ([] : List Nat) → w'.cell? ⟨b, o, none⟩ = wr.cell? ⟨b, o, none⟩)
            (first | exact Held.init _ _ | exact Held.step (by assumption) hB) (first | (go_at_call 63; refine (HC.out _).mono ?_; rintro e w' ⟨rfl, hB⟩))
          have hU2 := HU.out.trans ((Upd.refl [] wr).drew.trans hB)
          go_wp2
          exact ⟨PkSameAt.next (by rw [HL1.out]; exact hlt) HALL.out HP.out HQ.out hpq hU2, by first | (simp [intOf]; done) | (simp [intOf]; omega)⟩
        | false =>
          rw [hpq] at HC
          have hf : eqPk L M = false := eqPk_at (by rw [HL1.out, HL2.out]) HP.out HQ.out hpq
          rw [hf]
          go_wp2_with fail
          go_region_held3 (fun w' => Upd [] wr w' ∧ ∀ (b o : Nat), b < wr.heap.size → b ∉ ([] : List Nat) → w'.cell? ⟨b, o, none⟩ = wr.cell? ⟨b, o, none⟩)
            (first | exact Held.init _ _ | exact Held.step (by assumption) hB) (first | (go_at_call 63; refine (HC.out _).mono ?_; rintro e w' ⟨rfl, hB⟩))
          have hU2 := HU.out.trans ((Upd.refl [] wr).drew.trans hB)
          go_wp2
          go_ret
          exact ⟨rfl, hU2⟩
      · have t1 : decide (i < n) = false := by simp; omega
        have hT : eqPk L M = true := eqPk_all (by rw [HL1.out, HL2.out]) (fun j p q hp hq => HALL.out j p q (by have := (List.getElem?_eq_some_iff.1 hp).1; rw [HL1.out] at this; omega) hp hq)
        go_wp2
        go_ret
        exact ⟨by rw [hT]; rfl, HU.out⟩
  · have t0 : ((n : Int) == (m : Int)) = false := by simp; omega
    have hf : eqPk L M = false := eqPk_len (by rw [HL1.out, HL2.out]; exact hnm)
    rw [hf]
    go_enter Try.func62, Try.ntmps62
    go_wp2
    go_ret
    exact ⟨rfl, Upd.refl _ _⟩
theorem pkplain_any {L M : List Pk} {v1 v2 : Value} {n m : Nat} {w : World} (h1 : SlAt w 3 v1 n (L.flatMap pkVs)) (h2 : SlAt w 3 v2 m (M.flatMap pkVs)) :
    Calls Try.prog 43 #[v1, v2] w (RetUpd [] w (.bool (eqPk L M))) := by
  have H1 := pksame_any h1 h2
  obtain ⟨-, -, a1, c1, rfl, -⟩ := pk_at h1
  obtain ⟨-, -, a2, c2, rfl, -⟩ := pk_at h2
  clear h1 h2
  go_enter Try.func43, Try.ntmps43
  go_wp2_with fail
  refine H1.mono ?_
  rintro e w2 ⟨rfl, hU⟩
  go_wp2
  go_ret
  exact ⟨rfl, hU⟩

set_option maxHeartbeats 4000000 in
theorem pkequal_any {L M : List Pk} {v1 v2 : Value} {n m : Nat} {w : World} (h1 : SlAt w 3 v1 n (L.flatMap pkVs)) (h2 : SlAt w 3 v2 m (M.flatMap pkVs)) :
    Calls Try.prog 52 #[v1, v2] w (RetUpd [] w (.bool (eqPk L M))) := by
  have H1 := Lib.hid h1
  have H2 := Lib.hid h2
  obtain ⟨hl1, hb1, a1, c1, rfl, -⟩ := pk_at h1
  obtain ⟨hl2, hb2, a2, c2, rfl, -⟩ := pk_at h2
  have bn : n ≤ 9223372036854775807 := hb1
  have HL1 := Lib.hid hl1
  have HL2 := Lib.hid hl2
  clear h1 h2 hl1 hl2 hb1 hb2
  by_cases hnm : n = m
  · subst hnm
    have t0 : ((n : Int) == (n : Int)) = true := by simp
    go_enter Try.func52, Try.ntmps52
    go_wp2
    go_loopw [13] (fun iv wr => PkSameAt w L M iv wr) (fun iv _ => n - (intOf iv).toNat)
    case atStart => exact ⟨0, rfl, by omega, fun j p q hj => by omega, Upd.refl _ _⟩
    case round =>
      obtain ⟨i, rfl, hi, hall, hU⟩ := hrel
      rw [HL1.out] at hi
      have HU := Lib.hid hU
      have HALL := Lib.hid hall
      clear hU hall
      by_cases hlt : i < n
      · have t1 : decide (i < n) = true := by simp [hlt]
        have b1 : (i : Int) < (n : Int) := by omega
        obtain ⟨-, -, _, _, e1, k1⟩ := pk_at (H1.out.upd HU.out)
        cases e1
        obtain ⟨-, -, _, _, e2, k2⟩ := pk_at (H2.out.upd HU.out)
        cases e2
        obtain ⟨g1, o1, p, rfl, l1, hp, x0, x1, x2⟩ := k1 i hlt
        obtain ⟨g2, o2, q, rfl, l2, hq, y0, y1, y2⟩ := k2 i hlt
        clear k1 k2
        have HP := Lib.hid hp
        have HQ := Lib.hid hq
        clear hp hq
        have fin : i + 1 ≤ 9223372036854775807 := by omega
        cases hpq : pkE p q with
        | true =>
          obtain rfl := pkE_iff.1 hpq
          go_wp2_with fail
          go_region
          all_goals
            go_wp2
            exact ⟨PkSameAt.next (by rw [HL1.out]; exact hlt) HALL.out HP.out HQ.out hpq (HU.out.trans (Upd.refl [] wr).drew), by first | (simp [intOf]; done) | (simp [intOf]; omega)⟩
        | false =>
          have hf : eqPk L M = false := eqPk_at (by rw [HL1.out, HL2.out]) HP.out HQ.out hpq
          have hne : ¬ (p.flow = q.flow ∧ p.len = q.len ∧ p.mark = q.mark) := fun h => by
            have : p = q := by cases p; cases q; simp at h; simp [h]
            rw [pkE_iff.2 this] at hpq; cases hpq
          by_cases n1 : p.flow = q.flow
          · by_cases n2 : p.len = q.len
            · have n3 : ¬ p.mark = q.mark := fun h => hne ⟨n1, n2, h⟩
              clear hne
              go_wp2_with fail
              go_region
              all_goals
                go_wp2
                go_ret
                exact ⟨by rw [hf]; rfl, HU.out.trans (Upd.refl [] wr).drew⟩
            · clear n1
              clear hne
              go_wp2_with fail
              go_region
              all_goals
                go_wp2
                go_ret
                exact ⟨by rw [hf]; rfl, HU.out.trans (Upd.refl [] wr).drew⟩
          · skip
            clear hne
            go_wp2_with fail
            go_region
            all_goals
              go_wp2
              go_ret
              exact ⟨by rw [hf]; rfl, HU.out.trans (Upd.refl [] wr).drew⟩
      · have t1 : decide (i < n) = false := by simp; omega
        have hT : eqPk L M = true := eqPk_all (by rw [HL1.out, HL2.out]) (fun j p q hp hq => HALL.out j p q (by have := (List.getElem?_eq_some_iff.1 hp).1; rw [HL1.out] at this; omega) hp hq)
        go_wp2
        go_ret
        exact ⟨by rw [hT]; rfl, HU.out⟩
  · have t0 : ((n : Int) == (m : Int)) = false := by simp; omega
    have hf : eqPk L M = false := eqPk_len (by rw [HL1.out, HL2.out]; exact hnm)
    rw [hf]
    go_enter Try.func52, Try.ntmps52
    go_wp2
    go_ret
    exact ⟨rfl, Upd.refl _ _⟩

set_option maxHeartbeats 4000000 in
theorem wsame_any {a b : Rt} {va vb : Value} {w : World} (h1 : RtAt w va a) (h2 : RtAt w vb b) : Calls Try.prog 30 #[va, vb] w (RetUpd [] w (.bool (rtSame a b))) := by
  obtain ⟨la, rfl, h1⟩ := h1
  obtain ⟨lb, rfl, h2⟩ := h2
  have HP : Hid (∀ w', Upd [] w w' → Calls Try.prog 52 #[la, lb] w' (RetUpd [] w' (.bool (eqPk a.L b.L)))) := fun w' hu => pkequal_any (h1.upd hu) (h2.upd hu)
  clear h1 h2
  by_cases he : a.e = b.e
  · have t1 : (a.e == b.e) = true := by simp [he]
    by_cases hn : a.n = b.n
    · have t2 : (a.n == b.n) = true := by simp [hn]
      by_cases hv : a.v = b.v
      · have t3 : (a.v == b.v) = true := by simp [hv]
        have t4 : ((a.v : Int) == (b.v : Int)) = true := by simp [hv]
        have hr : rtSame a b = eqPk a.L b.L := by unfold rtSame; simp [he, hn, hv]
        rw [hr]
        clear hr he hn hv
        go_enter Try.func30, Try.ntmps30
        go_wp2_with fail
        refine (HP.out _ (((Upd.refl [] w).alloc _).alloc _)).mono ?_
        rintro e w2 ⟨rfl, hU⟩
        go_wp2
        all_goals
          go_ret
          exact ⟨by simp_all, (((Upd.refl [] w).alloc _).alloc _).trans hU⟩
      · have t3 : (a.v == b.v) = false := by simp [hv]
        have t4 : ((a.v : Int) == (b.v : Int)) = false := by simp; omega
        have hr : rtSame a b = false := by unfold rtSame; simp [hv]
        rw [hr]
        clear hr he hn hv
        go_enter Try.func30, Try.ntmps30
        go_wp2
        go_ret
        exact ⟨rfl, ((Upd.refl [] w).alloc _).alloc _⟩
    · have t2 : (a.n == b.n) = false := by simp [hn]
      have hr : rtSame a b = false := by unfold rtSame; simp [hn]
      rw [hr]
      clear hr he hn
      go_enter Try.func30, Try.ntmps30
      go_wp2
      go_ret
      exact ⟨rfl, ((Upd.refl [] w).alloc _).alloc _⟩
  · have t1 : (a.e == b.e) = false := by simp [he]
    have hr : rtSame a b = false := by unfold rtSame; simp [he]
    rw [hr]
    clear hr he
    go_enter Try.func30, Try.ntmps30
    go_wp2
    go_ret
    exact ⟨rfl, ((Upd.refl [] w).alloc _).alloc _⟩

set_option maxHeartbeats 4000000 in
theorem hret_any {a b : Rt} {va vb : Value} {w : World} (h1 : RtAt w va a) (h2 : RtAt w vb b) : Calls Try.prog 27 #[va, vb] w (RetUpd [] w (.bool (rtSame a b))) := by
  obtain ⟨la, rfl, h1⟩ := h1
  obtain ⟨lb, rfl, h2⟩ := h2
  have HP : Hid (∀ w', Upd [] w w' → Calls Try.prog 43 #[la, lb] w' (RetUpd [] w' (.bool (eqPk a.L b.L)))) := fun w' hu => pkplain_any (h1.upd hu) (h2.upd hu)
  clear h1 h2
  by_cases he : a.e = b.e
  · have t1 : (a.e == b.e) = true := by simp [he]
    by_cases hn : a.n = b.n
    · have t2 : (a.n == b.n) = true := by simp [hn]
      by_cases hv : a.v = b.v
      · have t3 : (a.v == b.v) = true := by simp [hv]
        have t4 : ((a.v : Int) == (b.v : Int)) = true := by simp [hv]
        have hr : rtSame a b = eqPk a.L b.L := by unfold rtSame; simp [he, hn, hv]
        rw [hr]
        clear hr he hn hv
        go_enter Try.func27, Try.ntmps27
        go_wp2_with fail
        refine (HP.out _ (((Upd.refl [] w).alloc _).alloc _)).mono ?_
        rintro e w2 ⟨rfl, hU⟩
        go_wp2
        all_goals
          go_ret
          exact ⟨by simp_all, (((Upd.refl [] w).alloc _).alloc _).trans hU⟩
      · have t3 : (a.v == b.v) = false := by simp [hv]
        have t4 : ((a.v : Int) == (b.v : Int)) = false := by simp; omega
        have hr : rtSame a b = false := by unfold rtSame; simp [hv]
        rw [hr]
        clear hr he hn hv
        go_enter Try.func27, Try.ntmps27
        go_wp2
        go_ret
        exact ⟨rfl, ((Upd.refl [] w).alloc _).alloc _⟩
    · have t2 : (a.n == b.n) = false := by simp [hn]
      have hr : rtSame a b = false := by unfold rtSame; simp [hn]
      rw [hr]
      clear hr he hn
      go_enter Try.func27, Try.ntmps27
      go_wp2
      go_ret
      exact ⟨rfl, ((Upd.refl [] w).alloc _).alloc _⟩
  · have t1 : (a.e == b.e) = false := by simp [he]
    have hr : rtSame a b = false := by unfold rtSame; simp [he]
    rw [hr]
    clear hr he
    go_enter Try.func27, Try.ntmps27
    go_wp2
    go_ret
    exact ⟨rfl, ((Upd.refl [] w).alloc _).alloc _⟩
end Go.Proofs.Ytmfndemnogpmcaa
