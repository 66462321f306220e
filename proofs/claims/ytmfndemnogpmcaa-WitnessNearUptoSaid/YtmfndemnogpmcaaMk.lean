/-
  Rows of Rets in memory, held against each other. No condition.
-/
import Derived.Test.YtmfndemnogpmcaaMj
set_option linter.unusedVariables false
set_option linter.unusedSimpArgs false
namespace Go.Proofs.Ytmfndemnogpmcaa
open Go.RowKit

/-- A Ret; where its packets lie. -/
structure Re where
  r : Rt
  lv : Value
def reVs (x : Re) : List Value := [.int .i64 x.r.e, x.lv, .int .i64 x.r.n, .int .u64 x.r.v]
theorem reVs_len (x : Re) : (reVs x).length = 4 := rfl
def RsAt (w : World) (v : Value) (l : List Re) : Prop := SlAt w 4 v l.length (l.flatMap reVs) ∧ ∀ x ∈ l, SlAt w 3 x.lv x.r.L.length (x.r.L.flatMap pkVs)
theorem RsAt.upd {w w' : World} {v : Value} {l : List Re} (h : RsAt w v l) (hu : Upd [] w w') : RsAt w' v l := ⟨h.1.upd hu, fun x hx => (h.2 x hx).upd hu⟩
theorem rs_at {w : World} {v : Value} {l : List Re} (h : RsAt w v l) : l.length ≤ maxLen ∧ ∃ ao cap, v = .slice ao l.length cap ∧ ∀ i x, l[i]? = some x → ∃ b off lo lc, ao = some ⟨b, off, none⟩ ∧ b < w.heap.size ∧ x.lv = .slice lo x.r.L.length lc ∧ SlAt w 3 x.lv x.r.L.length (x.r.L.flatMap pkVs) ∧ w.cell? ⟨b, off + i * 4, none⟩ = some (.int .i64 x.r.e) ∧ w.cell? ⟨b, off + i * 4 + 1, none⟩ = some x.lv ∧ w.cell? ⟨b, off + i * 4 + 2, none⟩ = some (.int .i64 x.r.n) ∧ w.cell? ⟨b, off + i * 4 + 3, none⟩ = some (.int .u64 x.r.v) := by
  obtain ⟨hs, hin⟩ := h
  obtain ⟨-, h2, ao, cap, rfl, h3⟩ := hs.get reVs 4 reVs_len (by omega)
  refine ⟨h2, ao, cap, rfl, fun i x hx => ?_⟩
  have hil := (List.getElem?_eq_some_iff.1 hx).1
  rcases h3 with h3 | ⟨b, off, rfl, hb, hc⟩
  · omega
  · have hsl := hin x (List.mem_of_getElem? hx)
    have hsl2 := hsl
    obtain ⟨lo, lc, e, -⟩ := hsl2
    exact ⟨b, off, lo, lc, rfl, hb, e, hsl, hc i x hx 0 _ rfl, hc i x hx 1 _ rfl, hc i x hx 2 _ rfl, hc i x hx 3 _ rfl⟩
def eqRt : List Rt → List Rt → Bool
  | [], [] => true
  | p :: L, q :: M => rtSame p q && eqRt L M
  | _, _ => false
theorem eqRt_at : ∀ {L M : List Rt} {i : Nat} {p q : Rt}, L.length = M.length → L[i]? = some p → M[i]? = some q → rtSame p q = false → eqRt L M = false
  | [], _, _, _, _, _, h, _, _ => by simp at h
  | p' :: L, [], i, p, q, hl, h1, h2, h3 => by simp at hl
  | p' :: L, q' :: M, 0, p, q, hl, h1, h2, h3 => by
    simp only [List.getElem?_cons_zero, Option.some.injEq] at h1 h2
    subst h1 h2
    simp [eqRt, h3]
  | p' :: L, q' :: M, i + 1, p, q, hl, h1, h2, h3 => by
    simp only [List.getElem?_cons_succ] at h1 h2
    simp [eqRt, eqRt_at (by simpa using hl) h1 h2 h3]
theorem eqRt_all : ∀ {L M : List Rt}, L.length = M.length → (∀ (i : Nat) (p q : Rt), L[i]? = some p → M[i]? = some q → rtSame p q = true) → eqRt L M = true
  | [], [], _, _ => rfl
  | [], _ :: _, h, _ => by simp at h
  | _ :: _, [], h, _ => by simp at h
  | p :: L, q :: M, hl, h => by
    simp [eqRt, h 0 p q rfl rfl, eqRt_all (by simpa using hl) (fun i a b ha hb => h (i + 1) a b ha hb)]
theorem eqRt_len : ∀ {L M : List Rt}, L.length ≠ M.length → eqRt L M = false
  | [], [], h => absurd rfl h
  | [], _ :: _, _ => rfl
  | _ :: _, [], _ => rfl
  | p :: L, q :: M, h => by simp [eqRt, eqRt_len (L := L) (M := M) (by simpa using h)]
def RtSameAt (w : World) (L M : List Re) (iv : Value) (wr : World) : Prop := ∃ i : Nat, iv = .int .i64 i ∧ i ≤ L.length ∧ (∀ j p q, j < i → L[j]? = some p → M[j]? = some q → rtSame p.r q.r = true) ∧ Upd [] w wr
theorem RtSameAt.next {w w' : World} {L M : List Re} {i : Nat} {p q : Re} (hi : i < L.length) (h : ∀ j p q, j < i → L[j]? = some p → M[j]? = some q → rtSame p.r q.r = true) (h1 : L[i]? = some p) (h2 : M[i]? = some q) (he : rtSame p.r q.r = true) (hU : Upd [] w w') : RtSameAt w L M (.int .i64 ((i + 1 : Nat) : Int)) w' :=
  ⟨i + 1, rfl, hi, fun j a b hj ha hb => by
    by_cases e : j = i
    · subst e; rw [h1] at ha; rw [h2] at hb; cases ha; cases hb; exact he
    · exact h j a b (by omega) ha hb, hU⟩
theorem map_get {L : List Re} {i : Nat} {p : Rt} (h : (L.map (·.r))[i]? = some p) : ∃ x, L[i]? = some x ∧ x.r = p := by
  rw [List.getElem?_map] at h
  cases hx : L[i]? with
  | none => rw [hx] at h; cases h
  | some x => rw [hx] at h; simp at h; exact ⟨x, rfl, h⟩

set_option maxHeartbeats 4000000 in
theorem rteq_any {L M : List Re} {v1 v2 : Value} {w : World} (h1 : RsAt w v1 L) (h2 : RsAt w v2 M) :
    Calls Try.prog 40 #[v1, v2, .func (.func 30) #[] #[]] w (RetUpd [] w (.bool (eqRt (L.map (·.r)) (M.map (·.r))))) := by
  have H1 := Lib.hid h1
  have H2 := Lib.hid h2
  obtain ⟨hb1, a1, c1, rfl, -⟩ := rs_at h1
  obtain ⟨hb2, a2, c2, rfl, -⟩ := rs_at h2
  obtain ⟨n, hn⟩ : ∃ n, L.length = n := ⟨_, rfl⟩
  obtain ⟨m, hm⟩ : ∃ m, M.length = m := ⟨_, rfl⟩
  have HL1 := Lib.hid hn
  have HL2 := Lib.hid hm
  rw [hn] at hb1 ⊢
  rw [hm] at hb2 ⊢
  have bn : n ≤ 9223372036854775807 := hb1
  obtain ⟨R, hR⟩ : ∃ y, eqRt (L.map (·.r)) (M.map (·.r)) = y := ⟨_, rfl⟩
  have HR := Lib.hid hR
  rw [hR]
  clear h1 h2 hb1 hb2 hn hm hR
  by_cases hnm : n = m
  · subst hnm
    have t0 : ((n : Int) == (n : Int)) = true := by simp
    go_enter Try.func40, Try.ntmps40
    go_wp2
    go_loopw [17] (fun iv wr => RtSameAt w L M iv wr) (fun iv _ => n - (intOf iv).toNat)
    case atStart => exact ⟨0, rfl, by omega, fun j p q hj => by omega, Upd.refl _ _⟩
    case round =>
      obtain ⟨i, rfl, hi, hall, hU⟩ := hrel
      rw [HL1.out] at hi
      have HU := Lib.hid hU
      have HALL := Lib.hid hall
      clear hU hall
      by_cases hlt : i < n
      · have t1 : decide (i < n) = true := by simp [hlt]
        have b1 : (i : Int) < (n : Int) := by omega
        obtain ⟨x, hx⟩ : ∃ x, L[i]? = some x := ⟨_, List.getElem?_eq_getElem (by rw [HL1.out]; exact hlt)⟩
        obtain ⟨y, hy⟩ : ∃ y, M[i]? = some y := ⟨_, List.getElem?_eq_getElem (by rw [HL2.out]; exact hlt)⟩
        obtain ⟨-, _, _, e1, k1⟩ := rs_at (H1.out.upd HU.out)
        cases e1
        obtain ⟨-, _, _, e2, k2⟩ := rs_at (H2.out.upd HU.out)
        cases e2
        obtain ⟨g1, o1, lo1, lc1, rfl, l1, hv1, hs1, x0, x1, x2, x3⟩ := k1 i x hx
        obtain ⟨g2, o2, lo2, lc2, rfl, l2, hv2, hs2, y0, y1, y2, y3⟩ := k2 i y hy
        rw [hv1] at x1 hs1
        rw [hv2] at y1 hs2
        obtain ⟨sm, hsm⟩ : ∃ s, rtSame x.r y.r = s := ⟨_, rfl⟩
        have HC : Hid (∀ w', Upd [] wr w' → Calls Try.prog 30 #[.agg #[.int .i64 x.r.e, .slice lo1 x.r.L.length lc1, .int .i64 x.r.n, .int .u64 x.r.v], .agg #[.int .i64 y.r.e, .slice lo2 y.r.L.length lc2, .int .i64 y.r.n, .int .u64 y.r.v]] w' (RetUpd [] w' (.bool sm))) := fun w' hu => by
          rw [← hsm]; exact wsame_any ⟨_, rfl, hs1.upd hu⟩ ⟨_, rfl, hs2.upd hu⟩
        have HX := Lib.hid hx
        have HY := Lib.hid hy
        have HSM := Lib.hid hsm
        have fin : i + 1 ≤ 9223372036854775807 := by omega
        clear k1 k2 hs1 hs2 hv1 hv2 hx hy hsm
        go_wp2_with fail
        refine (HC.out _ (by first | exact ((Upd.refl [] wr).alloc _).alloc _ | exact (((Upd.refl [] wr).alloc _).setCell (.inr (by simp)) _).alloc _)).mono ?_
        rintro e w3 ⟨rfl, hU3⟩
        have HU3 : Hid (Upd [] w w3) := HU.out.trans ((((Upd.refl [] wr).alloc _).alloc _).trans hU3)
        clear hU3
        cases sm with
        | true =>
          go_wp2_with fail
          exact ⟨RtSameAt.next (by rw [HL1.out]; exact hlt) HALL.out HX.out HY.out HSM.out HU3.out, by first | (simp [intOf]; done) | (simp [intOf]; omega)⟩
        | false =>
          have hf : eqRt (L.map (·.r)) (M.map (·.r)) = false := eqRt_at (i := i) (p := x.r) (q := y.r) (by rw [List.length_map, List.length_map, HL1.out, HL2.out]) (by rw [List.getElem?_map, HX.out]; rfl) (by rw [List.getElem?_map, HY.out]; rfl) HSM.out
          go_wp2
          go_ret
          exact ⟨by rw [HR.out.symm.trans hf]; rfl, HU3.out⟩
      · have t1 : decide (i < n) = false := by simp; omega
        have hT : eqRt (L.map (·.r)) (M.map (·.r)) = true := eqRt_all (by rw [List.length_map, List.length_map, HL1.out, HL2.out]) (fun j p q hp hq => by
          obtain ⟨x, hx, rfl⟩ := map_get hp
          obtain ⟨y, hy, rfl⟩ := map_get hq
          exact HALL.out j x y (by have := (List.getElem?_eq_some_iff.1 hx).1; rw [HL1.out] at this; omega) hx hy)
        go_wp2
        go_ret
        exact ⟨by rw [HR.out.symm.trans hT]; rfl, HU.out⟩
  · have t0 : ((n : Int) == (m : Int)) = false := by simp; omega
    have hf : eqRt (L.map (·.r)) (M.map (·.r)) = false := eqRt_len (by rw [List.length_map, List.length_map, HL1.out, HL2.out]; exact hnm)
    rw [HR.out.symm.trans hf]
    go_enter Try.func40, Try.ntmps40
    go_wp2
    go_ret
    exact ⟨rfl, Upd.refl _ _⟩
end Go.Proofs.Ytmfndemnogpmcaa
