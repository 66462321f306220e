/-
  A wheel's base goes on: the plain laws, and the walk of empty. No condition.
-/
import Derived.Test.YtbnifhdnpeiheaaDoorWj
set_option linter.unusedVariables false
set_option linter.unusedSimpArgs false
namespace Go.Proofs.YtbnifhdnpeiheaaDoor
open Go.RowKit

def badP (W b : Nat) (x : It) (q : Nat) : Prop := q % 64 = bucN W b (q / 64) ∧ lev3 W b (kn x) < q / 64
/-- A wheel on the way: up t0 a level what lies at the base's own place may lie too high; some items are in hand. -/
structure PO (s : WS) (lv : Nat) (rest L : List It) : Prop where
  perm : (allB s ++ rest).Perm L
  pl : ∀ q, q < 192 → ∀ x ∈ (s.bk q).L, okP s.wd s.base x q ∨ (1 ≤ q / 64 ∧ q / 64 ≤ lv ∧ badP s.wd s.base x q)
  bits : ∀ l, l < 3 → ∀ b, b < 64 → (s.mw l).testBit b = decide (0 < (s.bk (l * 64 + b)).L.length)

theorem move_base {W B t0 q : Nat} {x : It} (hq : q < 192) (h : okP W B x q) (h1 : B ≤ t0) (h2 : t0 ≤ kn x) : okP W t0 x q ∨ (1 ≤ q / 64 ∧ q / 64 ≤ 2 ∧ badP W t0 x q) := by
  obtain ⟨ha, hb⟩ := h
  obtain ⟨j, hj⟩ : ∃ j, q / 64 = j := ⟨_, rfl⟩
  have hj3 : j < 3 := by omega
  unfold okP badP
  rw [hj] at ha hb ⊢
  have hs := (lev3_spec hj3 ha).1
  rw [same_iff] at hs
  have m1 := Nat.div_le_div_right (c := 2 ^ (W + 6 * (j + 1))) h1
  have m2 := Nat.div_le_div_right (c := 2 ^ (W + 6 * (j + 1))) h2
  have hst : sameB W t0 (kn x) j = true := by rw [same_iff]; omega
  have hle := (lev3_lt_iff hj3).2 hst
  by_cases e : lev3 W t0 (kn x) = j
  · exact .inl ⟨e, hb⟩
  · have hlt : lev3 W t0 (kn x) < j := by omega
    obtain ⟨i, rfl⟩ : ∃ i, j = i + 1 := ⟨j - 1, by omega⟩
    have hs2 := (lev3_lt_iff (W := W) (b := t0) (k := kn x) (l := i) (by omega)).1 (by omega)
    rw [same_iff] at hs2
    refine .inr ⟨by omega, by omega, ?_, hlt⟩
    rw [← hb]
    unfold bucN
    rw [hs2]
theorem okP_not {W b q l : Nat} {x : It} (hl1 : 1 ≤ l) (hl : l < 3) (hq : q / 64 = l) (h : okP W b x q) (hb : q % 64 = bucN W b l) : False := by
  obtain ⟨ha, hc⟩ := h
  rw [hq] at ha hc
  obtain ⟨i, rfl⟩ : ∃ i, l = i + 1 := ⟨l - 1, by omega⟩
  obtain ⟨h1, h2⟩ := lev3_spec hl ha
  have h3 := h2 i (by omega)
  rw [same_iff] at h1
  have h4 : ¬ sameB W b (kn x) i = true := by rw [h3]; simp
  rw [same_iff] at h4
  have s1 := buc_split W b (i + 1)
  have s2 := buc_split W (kn x) (i + 1)
  apply h4
  omega

def emptyS (s : WS) (l b : Nat) : WS :=
  { s with bk := fun q => if q = l * 64 + b then Buc.z else s.bk q, mw := fun j => if j = l then andNB (s.mw l) b else s.mw j }

theorem bits_empty {s : WS} {l b : Nat} (hl : l < 3) (hb : b < 64) (h64 : s.mw l < 18446744073709551616) (h : ∀ l, l < 3 → ∀ b, b < 64 → (s.mw l).testBit b = decide (0 < (s.bk (l * 64 + b)).L.length)) :
    ∀ j, j < 3 → ∀ c, c < 64 → ((emptyS s l b).mw j).testBit c = decide (0 < ((emptyS s l b).bk (j * 64 + c)).L.length) := by
  intro j hj c hc
  have e0 : (emptyS s l b).mw j = if j = l then andNB (s.mw l) b else s.mw j := rfl
  have e1 : ((emptyS s l b).bk (j * 64 + c)).L.length = if j * 64 + c = l * 64 + b then 0 else (s.bk (j * 64 + c)).L.length := by simp only [emptyS]; split <;> rfl
  rw [e0, e1]
  by_cases e : j = l
  · subst e
    rw [if_pos rfl, andNB_bit _ _ _ hb h64, h j hj c hc]
    by_cases e2 : c = b
    · subst e2; simp
    · have h3 : ¬ (j * 64 + c = j * 64 + b) := by omega
      rw [if_neg h3]
      simp [Ne.symm e2]
  · have h3 : ¬ (j * 64 + c = l * 64 + b) := by omega
    rw [if_neg e, if_neg h3, h j hj c hc]
theorem bits_put {s : WS} {l b : Nat} {x : It} {ao : Option Addr} {cap : Nat} (hl : l < 3) (hb : b < 64) (h : ∀ l, l < 3 → ∀ b, b < 64 → (s.mw l).testBit b = decide (0 < (s.bk (l * 64 + b)).L.length)) :
    ∀ j, j < 3 → ∀ c, c < 64 → ((putS s l b x ao cap).mw j).testBit c = decide (0 < ((putS s l b x ao cap).bk (j * 64 + c)).L.length) := by
  intro j hj c hc
  have e0 : (putS s l b x ao cap).mw j = if j = l then orB (s.mw l) b else s.mw j := rfl
  have e1 : ((putS s l b x ao cap).bk (j * 64 + c)).L.length = if j * 64 + c = l * 64 + b then (s.bk (l * 64 + b)).L.length + 1 else (s.bk (j * 64 + c)).L.length := by
    simp only [putS]
    split
    · simp
    · rfl
  rw [e0, e1]
  by_cases e : j = l
  · subst e
    rw [if_pos rfl, orB_bit, h j hj c hc]
    by_cases e2 : c = b
    · subst e2; simp
    · have h3 : ¬ (j * 64 + c = j * 64 + b) := by omega
      rw [if_neg h3]
      simp [Ne.symm e2]
  · have h3 : ¬ (j * 64 + c = l * 64 + b) := by omega
    rw [if_neg e, if_neg h3, h j hj c hc]

theorem PO.bad {s : WS} {lv : Nat} {rest L : List It} (h : PO s lv rest L) (h1 : 1 ≤ lv) (h3 : lv < 3) {x : It} (hx : x ∈ (s.bk (lv * 64 + bucN s.wd s.base lv)).L) : lev3 s.wd s.base (kn x) < lv := by
  have hb := bucN_lt s.wd s.base lv
  have e1 : (lv * 64 + bucN s.wd s.base lv) / 64 = lv := by omega
  have e2 : (lv * 64 + bucN s.wd s.base lv) % 64 = bucN s.wd s.base lv := by omega
  rcases h.pl _ (by omega) x hx with h | ⟨_, _, h⟩
  · exact (okP_not h1 h3 e1 h (by rw [e2])).elim
  · have := h.2
    rw [e1] at this
    exact this
theorem PO.empty {s : WS} {lv : Nat} {L : List It} (h : PO s lv [] L) (h1 : 1 ≤ lv) (h3 : lv < 3) (h64 : s.mw lv < 18446744073709551616) :
    PO (emptyS s lv (bucN s.wd s.base lv)) (lv - 1) (s.bk (lv * 64 + bucN s.wd s.base lv)).L L := by
  have hb := bucN_lt s.wd s.base lv
  refine { perm := ?_, pl := fun q hq x hx => ?_, bits := bits_empty h3 hb h64 h.bits }
  · refine (flat_upd (fun q => (s.bk q).L) (fun q => ((emptyS s lv (bucN s.wd s.base lv)).bk q).L) (q0 := lv * 64 + bucN s.wd s.base lv) (by omega) (fun q hq => ?_) (B := []) ?_).trans h.perm
    · simp only [emptyS]; rw [if_neg hq]
    · simp [emptyS, Buc.z]
  · simp only [emptyS] at hx ⊢
    by_cases e : q = lv * 64 + bucN s.wd s.base lv
    · rw [if_pos e] at hx; cases hx
    · rw [if_neg e] at hx
      rcases h.pl q hq x hx with h | ⟨a, b, c⟩
      · exact .inl h
      · refine .inr ⟨a, ?_, c⟩
        rcases Nat.lt_or_ge (q / 64) lv with h' | h'
        · omega
        · exfalso
          have e3 : q / 64 = lv := by omega
          have := c.1
          rw [e3] at this
          omega
theorem PO.put {s : WS} {lv : Nat} {x : It} {rest L : List It} {ao : Option Addr} {cap : Nat} (h : PO s lv (x :: rest) L) {l : Nat} (hl : lev3 s.wd s.base (kn x) = l) (h3 : l < 3) :
    PO (putS s l (bucN s.wd (kn x) l) x ao cap) lv rest L := by
  have hb := bucN_lt s.wd (kn x) l
  have e1 : (l * 64 + bucN s.wd (kn x) l) / 64 = l := by omega
  have e2 : (l * 64 + bucN s.wd (kn x) l) % 64 = bucN s.wd (kn x) l := by omega
  refine { perm := ?_, pl := fun q hq y hy => ?_, bits := bits_put h3 hb h.bits }
  · refine (flat_upd (fun q => (s.bk q).L) (fun q => ((putS s l (bucN s.wd (kn x) l) x ao cap).bk q).L) (q0 := l * 64 + bucN s.wd (kn x) l) (by omega) (fun q hq => ?_) (B := x :: rest) ?_).trans h.perm
    · simp only [putS]; rw [if_neg hq]
    · simp [putS]
  · simp only [putS] at hy ⊢
    by_cases e : q = l * 64 + bucN s.wd (kn x) l
    · rw [if_pos e] at hy
      rw [List.mem_append] at hy
      rcases hy with hy | hy
      · subst e; exact h.pl _ hq y hy
      · simp at hy
        subst hy
        left
        subst e
        unfold okP
        rw [e1, e2]
        exact ⟨hl, rfl⟩
    · rw [if_neg e] at hy
      exact h.pl q hq y hy
theorem PO.len {s : WS} {lv : Nat} {rest L : List It} (h : PO s lv rest L) {q : Nat} (hq : q < 192) : (s.bk q).L.length + rest.length ≤ L.length := by
  have h1 := len_le_flat (fun q => (s.bk q).L) hq
  have h2 := h.perm.length_eq
  rw [List.length_append] at h2
  unfold allB at h2
  omega
theorem WOk.base {s : WS} {L : List It} (h : WOk s L) {t0 : Nat} (h1 : s.base ≤ t0) (h2 : ∀ x ∈ L, t0 ≤ kn x) : PO { s with base := t0 } 2 [] L :=
  { perm := by rw [List.append_nil]; exact h.perm
    pl := fun q hq x hx => move_base hq (h.pl q hq x hx) h1 (h2 x (h.perm.mem_iff.1 (mem_allB.2 ⟨q, hq, hx⟩)))
    bits := h.bits }
theorem PO.ok {s s0 : WS} {L : List It} (h : PO s 0 [] L) (h0 : WOk s0 L) (hM : s.M = s0.M) (h2 : ∀ x ∈ L, s.base ≤ kn x) : WOk s L :=
  { srt := h0.srt, nd := h0.nd, len := h0.len
    perm := by have := h.perm; rw [List.append_nil] at this; exact this
    key := fun x hx => ⟨(h0.key x hx).1, h2 x hx⟩
    pl := fun q hq x hx => by
      rcases h.pl q hq x hx with h | ⟨a, b, _⟩
      · exact h
      · omega
    bits := h.bits
    keys := by rw [hM]; exact h0.keys
    mlen := by rw [hM]; exact h0.mlen }

/-! ### Footprints -/
def Fr (F F' : List Nat) (w w' : World) : Prop := (∀ c ∈ F', c ∈ F ∨ w.heap.size ≤ c) ∧ Upd F w w'
theorem Fr.refl (F : List Nat) (w : World) : Fr F F w w := ⟨fun c hc => .inl hc, Upd.refl _ _⟩
theorem Fr.trans {F F' F'' : List Nat} {w w' w'' : World} (h : Fr F F' w w') (k : Fr F' F'' w' w'') : Fr F F'' w w'' := by
  have hs := h.2.size
  refine ⟨fun c hc => ?_, h.2.then k.2 (fun _ _ e => e) (fun i hi e => ?_)⟩
  · rcases k.1 c hc with e | e
    · exact h.1 c e
    · right; omega
  · rcases h.1 i e with e | e
    · exact e
    · omega
theorem Fr.of {F : List Nat} {w w' : World} (h : Upd [] w w') : Fr F F w w' := ⟨fun c hc => .inl hc, h.nil⟩
theorem Fr.up {F F' : List Nat} {w w' w'' : World} (h : Fr F F' w w') (hu : Upd [] w' w'') : Fr F F' w w'' := h.trans (Fr.of hu)

theorem PutTo.fr {wb : Nat} {s : WS} {l b : Nat} {x : It} {w w' : World} (h : PutTo wb s l b x w w') (hl : l < 3) (hb : b < 64) : ∃ ao cap, WhAt w' wb (putS s l b x ao cap) ∧ Fr (s.fp wb) ((putS s l b x ao cap).fp wb) w w' := by
  obtain ⟨ao, cap, h1, h2, h3⟩ := h
  refine ⟨ao, cap, h1, fun c hc => ?_, h3.mono (fun i _ hm => ?_)⟩
  · rcases WS.mem_fp.1 hc with e | e | ⟨q, hq, e⟩
    · exact .inl (WS.mem_fp.2 (.inl e))
    · exact .inl (WS.mem_fp.2 (.inr (.inl e)))
    · simp only [putS] at e
      split at e
      · rcases h2 c e with e | e
        · exact .inl (WS.mem_fp.2 (.inr (.inr ⟨l * 64 + b, by omega, e⟩)))
        · exact .inr e
      · exact .inl (WS.mem_fp.2 (.inr (.inr ⟨q, hq, e⟩)))
  · rcases List.mem_cons.1 hm with e | e
    · exact WS.mem_fp.2 (.inl e)
    · exact WS.mem_fp.2 (.inr (.inr ⟨l * 64 + b, by omega, e⟩))
theorem empty_fp {wb : Nat} {s : WS} {l b c : Nat} (h : c ∈ (emptyS s l b).fp wb) : c ∈ s.fp wb := by
  rcases WS.mem_fp.1 h with e | e | ⟨q, hq, e⟩
  · exact WS.mem_fp.2 (.inl e)
  · exact WS.mem_fp.2 (.inr (.inl e))
  · simp only [emptyS] at e
    split at e
    · cases e
    · exact WS.mem_fp.2 (.inr (.inr ⟨q, hq, e⟩))

theorem empty_done {w w1 : World} {wb l b : Nat} {s : WS} (h : WhAt w wb s) (hl : l < 3) (hb : b < 64) (hU : Upd [] w w1) :
    WhAt ((w1.setCell ⟨wb, 2 + l * 64 + b, none⟩ (.slice none 0 0)).setCell ⟨wb, 194 + l, none⟩ (.int .u64 (andNB (s.mw l) b))) wb (emptyS s l b) ∧ Upd [wb] w ((w1.setCell ⟨wb, 2 + l * 64 + b, none⟩ (.slice none 0 0)).setCell ⟨wb, 194 + l, none⟩ (.int .u64 (andNB (s.mw l) b))) := by
  rw [Nat.add_assoc 2]
  have hq : l * 64 + b < 192 := by omega
  have hu : Upd [wb] w1 ((w1.setCell ⟨wb, 2 + (l * 64 + b), none⟩ (.slice none 0 0)).setCell ⟨wb, 194 + l, none⟩ (.int .u64 (andNB (s.mw l) b))) := ((Upd.refl _ _).setCell (by simp) _).setCell (by simp) _
  have h1 := h.up hU
  refine ⟨{ top := ?_, rows := fun q hq' => ?_, map := h1.map.upd hu (by simp; exact fun e => h.d1 e.symm), ndm := h.ndm, d1 := h.d1, d2 := fun q hq' c hc => ?_, d3 := fun q hq' r hr hqr c hc => ?_, small := fun q hq' => ?_, b64 := h.b64, wd40 := h.wd40, mw64 := fun j hj => ?_, msmall := h.msmall }, hU.nil.trans hu⟩
  · refine ((h1.top.set _ _).set _ _).congr (fun o ho => ?_)
    simp only [emptyS]
    by_cases e1 : o = 194 + l
    · subst e1
      rw [if_pos rfl]
      have := wheelF_mw (emptyS s l b) hl
      simp only [emptyS] at this
      rw [this]
      simp
    · rw [if_neg e1]
      by_cases e2 : o = 2 + (l * 64 + b)
      · subst e2
        rw [if_pos rfl]
        have := wheelF_bk (emptyS s l b) hq
        simp only [emptyS] at this
        rw [this]
        simp [Buc.z]
      · rw [if_neg e2]
        unfold wheelF
        simp only []
        split
        · rfl
        split
        · rfl
        split
        · rw [if_neg (by omega)]
        split
        · rw [if_neg (by omega)]
        · rfl
  · simp only [emptyS]
    split
    · exact RowO.nil _ _ _
    · exact (h1.rows q hq').upd hu (fun c hc => by simp; exact (h.d2 q hq' c hc).1)
  · simp only [emptyS] at hc
    split at hc
    · cases hc
    · exact h.d2 q hq' c hc
  · simp only [emptyS] at hc ⊢
    split at hc
    · cases hc
    · split
      · exact fun e => by cases e
      · exact h.d3 q hq' r hr hqr c hc
  · simp only [emptyS]
    split
    · simp [Buc.z]
    · exact h.small q hq'
  · simp only [emptyS]
    split
    · exact andNB_lt (h.mw64 l hl)
    · exact h.mw64 j hj

set_option maxRecDepth 100000 in
set_option maxHeartbeats 4000000 in
theorem wempty_any (wb l b : Nat) (s : WS) (w : World) (h : WhAt w wb s) (hl3 : l < 3) (hbl : b < 64) :
    Calls Tryd.prog 94 #[.pointer (some ⟨wb, 0, none⟩), .int .i64 l, .int .i64 b] w (fun e w' => e = .returned (.slice (s.bk (l * 64 + b)).ao (s.bk (l * 64 + b)).L.length (s.bk (l * 64 + b)).cap) ∧ WhAt w' wb (emptyS s l b) ∧ Upd [wb] w w') := by
  have HH := Lib.hid h
  have hT2 := h.top
  have c0 := hT2.cell (o := 2 + (l * 64 + b)) (by omega)
  rw [wheelF_bk s (by omega), ← Nat.add_assoc] at c0
  have c1 := hT2.cell (o := 194 + l) (by omega)
  rw [wheelF_mw s hl3] at c1
  have z0 := hT2.free (2 + l * 64 + b)
  have z1 := hT2.free (194 + l)
  have lw := hT2.lt
  have bb : (b : Int) < 64 := by omega
  have bl : (l : Int) < 3 := by omega
  obtain ⟨v, hv⟩ : ∃ v, Value.slice (s.bk (l * 64 + b)).ao (s.bk (l * 64 + b)).L.length (s.bk (l * 64 + b)).cap = v := ⟨_, rfl⟩
  rw [hv] at c0 ⊢
  have HC1 := Lib.hid c1
  clear h hT2 hv
  go_enter Tryd.func94, Tryd.ntmps94
  go_wp2
  obtain ⟨w5, hw5⟩ : ∃ w5, w5 = w.setCell ⟨wb, 2 + l * 64 + b, none⟩ (.slice none 0 0) := ⟨_, rfl⟩
  rw [← hw5]
  have hne : (⟨wb, 194 + l, none⟩ : Addr) ≠ ⟨wb, 2 + l * 64 + b, none⟩ := by first | (simp; done) | (simp; omega)
  have m5 : w5.cell? ⟨wb, 194 + l, none⟩ = some (.int .u64 (s.mw l)) := by rw [hw5, World.cell?_setCell_other _ _ _ _ (fun e => hne e.symm)]; exact HC1.out
  have mz5 : w5.frozen? ⟨wb, 194 + l, none⟩ = false := by rw [hw5]; simpa using z1
  have lw5 : wb < w5.heap.size := by rw [hw5]; simpa using lw
  have HW5 := Lib.hid hw5
  clear hw5 c0 c1 z0 z1 hne
  go_region_with (go_at_call 119; refine (without_any (s.mw l) b (HH.out.mw64 l hl3) hbl _).mono ?_; rintro e w6 ⟨rfl, rfl⟩)
  all_goals
    go_wp2
    go_ret
    have hd := empty_done HH.out hl3 hbl (Upd.refl [] w)
    rw [← HW5.out] at hd
    exact ⟨rfl, hd.1.up (Upd.refl [] _).drew, hd.2.drew⟩
end Go.Proofs.YtbnifhdnpeiheaaDoor
