/-
  The walk of the library's DeleteFunc at items, of which one goes. No condition.
-/
import Derived.Test.YtbnifhdnpeiheaaDoorWm
import Derived.Laws.IdiomCopy
set_option linter.unusedVariables false
set_option linter.unusedSimpArgs false
namespace Go.Proofs.YtbnifhdnpeiheaaDoor
open Go.RowKit

section
variable {P : Program}
theorem run_clear1 (w : World) (t e ty : TypeId) (z z0 z1 : Value) (ht : P.underlying t = some (.slice e)) (hv : ∀ w, (zeroValue e).run P w = .ok z w) (hz : z.cells = #[z0, z1]) (h0 : z0.oneCell' = true) (h1 : z1.oneCell' = true) (b o c : Nat) (u0 u1 : Value)
    (c0 : w.cell? ⟨b, o, none⟩ = some u0) (c1 : w.cell? ⟨b, o + 1, none⟩ = some u1) (f0 : w.frozen? ⟨b, o, none⟩ = false) (f1 : w.frozen? ⟨b, o + 1, none⟩ = false) :
    (Builtin.clear_ #[t] ty #[.slice (some ⟨b, o, none⟩) 1 c]).run P w = .ok (.tuple #[]) ((w.setCell ⟨b, o, none⟩ z0).setCell ⟨b, o + 1, none⟩ z1) := by
  have hzc : (Builtin.zeroCells z.cells 1).toList = [z0, z1] := by
    rw [hz]
    simp [Builtin.zeroCells]
    rfl
  have hst := run_storeCells_cells (P := P) b o [z0, z1] 0 w
    (by intro j hj; have : j = 0 ∨ j = 1 := by simp at hj; omega
        rcases this with rfl | rfl
        · simp [c0]
        · simp [c1])
    (by intro j hj; have : j = 0 ∨ j = 1 := by simp at hj; omega
        rcases this with rfl | rfl
        · simpa using f0
        · simpa using f1)
    (by intro v hv'; simp at hv'; rcases hv' with rfl | rfl <;> assumption)
  simp only [Nat.add_zero, World.setCells] at hst
  simp [Builtin.clear_, run_underlying ht, hv, hzc, hst]
theorem wpList_clear1 (w : World) {ops : Array Oper} {rest : List Oper} {o : Oper} {a : Act} {Q : Exit → Act → World → Prop} (hgd : o.guard = none) (x : Operand) (t : TypeId)
    (ho : o.op = .call { callee := .builtin .clear, args := #[x], argTypes := #[t] }) (e : TypeId) (z z0 z1 : Value) (ht : P.underlying t = some (.slice e)) (hv : ∀ w, (zeroValue e).run P w = .ok z w) (hz : z.cells = #[z0, z1]) (h0 : z0.oneCell' = true) (h1 : z1.oneCell' = true)
    (b off c : Nat) (hx : a.eval x = .slice (some ⟨b, off, none⟩) 1 c) (u0 u1 : Value) (c0 : w.cell? ⟨b, off, none⟩ = some u0) (c1 : w.cell? ⟨b, off + 1, none⟩ = some u1) (f0 : w.frozen? ⟨b, off, none⟩ = false) (f1 : w.frozen? ⟨b, off + 1, none⟩ = false)
    (h : wpList P ops Q rest (a.put o.dst (.tuple #[])) ((w.setCell ⟨b, off, none⟩ z0).setCell ⟨b, off + 1, none⟩ z1)) : wpList P ops Q (o :: rest) a w := by
  refine wpList_plain hgd fun K hK => ?_
  have hr := run_clear1 (P := P) w t e o.type z z0 z1 ht hv hz h0 h1 b off c u0 u1 c0 c1 f0 f1
  unfold Oper.wp execOp
  simp only [ho, resolve, invoke, builtin, Sem.run_bind, Sem.run_pure, Result.andThen_ok, List.map_toArray, List.map_cons, List.map_nil, hx, hr]
  exact hK _ _ h
end

theorem zeroItem (w : World) : (zeroValue 35).run Tryd.prog w = .ok (.agg #[.int .u64 0, .int .i64 0]) w := by kernel_rfl
def delV (xb : Nat) : Value := .func (.func 109) #[] #[.pointer (some ⟨xb, 0, none⟩)]

/-- What the array holds while it closes up behind place i. -/
def ShiftOf (L : List It) (n i m : Nat) (A : List It) : Prop := A.length = n ∧ ∀ p, p < n → atI A p = if p < i then atI L p else if p < m then atI L (p + 1) else atI L p
theorem ShiftOf.start {L : List It} {n i : Nat} (hn : L.length = n) : ShiftOf L n i i L := ⟨hn, fun p hp => by split <;> (try split) <;> first | rfl | omega⟩
theorem ShiftOf.step {L : List It} {n i m : Nat} {A : List It} (h : ShiftOf L n i m A) (him : i ≤ m) (hm : m + 1 < n) : ShiftOf L n i (m + 1) (A.set m (atI L (m + 1))) := by
  refine ⟨by simp [h.1], fun p hp => ?_⟩
  by_cases e : p = m
  · subst e
    unfold atI at *
    rw [getD_set_same _ _ _ _ (by rw [h.1]; exact hp), if_neg (by omega), if_pos (by omega)]
  · have h2 := h.2 p hp
    unfold atI at *
    rw [getD_set_other _ _ _ _ _ (fun e' => e e'.symm), h2]
    split
    · rfl
    · by_cases c : p < m
      · rw [if_pos c, if_pos (by omega)]
      · rw [if_neg c, if_neg (by omega)]
theorem ShiftOf.done {L : List It} {n i m : Nat} {A : List It} (h : ShiftOf L n i m A) (hi : i ≤ m) (hm : m + 1 = n) (hn : L.length = n) : A.take m = L.take i ++ L.drop (i + 1) := by
  apply List.ext_getElem
  · simp [h.1]; omega
  · intro p h1 h2
    have hp : p < m := by rw [List.length_take, h.1] at h1; omega
    have h3 := h.2 p (by omega)
    rw [atI_get A p (by rw [h.1]; omega)] at h3
    rw [List.getElem_take, h3]
    by_cases c : p < i
    · rw [if_pos c, List.getElem_append_left (by rw [List.length_take]; omega), List.getElem_take, atI_get L p (by omega)]
    · rw [if_neg c, if_pos hp, List.getElem_append_right (by rw [List.length_take]; omega), List.getElem_drop, atI_get L (p + 1) (by omega)]
      congr 1
      rw [List.length_take]
      omega

set_option maxHeartbeats 1000000 in
theorem wdropf_any (x y : It) (xb : Nat) (w : World) (hx : Blk w xb 35 (itVs x)) :
    Calls Tryd.prog 109 #[.agg #[.int .u64 y.1, .int .i64 y.2], .pointer (some ⟨xb, 0, none⟩)] w (RetUpd [] w (.bool (decide (y = x)))) := by
  have k0 := hx.cell (j := 0) rfl
  have k1 := hx.cell (j := 1) rfl
  have lx := hx.lt
  have he : decide (y = x) = ((y.1 == x.1) && (y.2 == x.2)) := by
    rw [Bool.eq_iff_iff, decide_eq_true_iff, Bool.and_eq_true, beq_iff_eq, beq_iff_eq, Prod.ext_iff]
  obtain ⟨b, hb⟩ : ∃ b, decide (y = x) = b := ⟨_, rfl⟩
  rw [hb] at he ⊢
  have HE := Lib.hid he
  clear hx he hb
  go_enter Tryd.func109, Tryd.ntmps109
  go_wp2
  all_goals
    go_ret
    exact ⟨ret_bool (by rw [HE.out]; simp [*]), (Upd.refl [] w).alloc _⟩

/-- A row of items of which one goes. -/
structure DelAt (w : World) (g n cap xb i : Nat) (L : List It) (x : It) : Prop where
  row : Row w 35 2 g n cap (L.flatMap itVs)
  len : L.length = n
  hi : i < n
  at_ : atI L i = x
  one : ∀ j, j < n → j ≠ i → atI L j ≠ x
  box : Blk w xb 35 (itVs x)
  ne : xb ≠ g
theorem DelAt.upd {w w' : World} {g n cap xb i : Nat} {L : List It} {x : It} (h : DelAt w g n cap xb i L x) (hu : Upd [] w w') : DelAt w' g n cap xb i L x := { h with row := h.row.upd hu (by simp), box := h.box.upd hu (by simp) }

def IdxL (w : World) (i : Nat) (jv : Value) (wr : World) : Prop := ∃ j : Nat, jv = .int .i64 j ∧ j ≤ i ∧ Upd [] w wr
set_option maxHeartbeats 4000000 in
theorem index_any (g n cap xb i : Nat) (L : List It) (x : It) (w : World) (hsm : n ≤ 1000) (h : DelAt w g n cap xb i L x) :
    Calls Tryd.prog 130 #[.slice (some ⟨g, 0, none⟩) n cap, delV xb] w (RetUpd [] w (.int .i64 i)) := by
  have HD := Lib.hid h
  have hi := h.hi
  clear h
  unfold delV
  go_enter Tryd.func130, Tryd.ntmps130
  go_wp2
  go_loopw [8] (fun jv wr => IdxL w i jv wr) (fun jv _ => n - (intOf jv).toNat)
  case atStart => exact ⟨0, rfl, by omega, Upd.refl _ _⟩
  case round =>
    obtain ⟨j, rfl, hj, hU⟩ := hrel
    have HU := Lib.hid hU
    have t1 : decide (j < n) = true := by simp; omega
    have b1 : (j : Int) < (n : Int) := by omega
    have h2 := HD.out.upd hU
    have hl := h2.row.lt
    obtain ⟨y, hy⟩ : ∃ y, atI L j = y := ⟨_, rfl⟩
    obtain ⟨x0, x1⟩ := item_cells h2.row (i := j) (by rw [h2.len]; omega)
    rw [hy] at x0 x1
    have HY := Lib.hid hy
    clear hU h2 hy
    go_wp2_with fail
    refine (wdropf_any x y xb _ ((HD.out.upd HU.out).box)).mono ?_
    rintro e w3 ⟨rfl, hU3⟩
    by_cases e : j = i
    · have hd : decide (y = x) = true := by have := HD.out.at_; rw [← e, HY.out] at this; simp [this]
      rw [hd]
      subst e
      go_wp2
      go_ret
      exact ⟨rfl, HU.out.trans hU3⟩
    · have hd : decide (y = x) = false := by have := HD.out.one j (by omega) e; rw [HY.out] at this; simp [this]
      rw [hd]
      have HE : Hid (¬ j = i) := e
      clear e hd
      go_wp2
      exact ⟨⟨j + 1, by congr 1, by have := HE.out; omega, HU.out.trans hU3⟩, by first | (simp [intOf]; done) | (simp [intOf]; omega)⟩

def DelL (w : World) (g n cap i : Nat) (L : List It) (mv jv : Value) (wr : World) : Prop :=
  ∃ (m : Nat) (A : List It), mv = .int .i64 m ∧ jv = .int .i64 ((m : Int) + 1) ∧ i ≤ m ∧ m + 1 ≤ n ∧ ShiftOf L n i m A ∧ Row wr 35 2 g n cap (A.flatMap itVs) ∧ Upd [g] w wr
/-- What DeleteFunc leaves. -/
def DelPost (g n cap : Nat) (L : List It) (x : It) (w : World) (e : Ending) (w' : World) : Prop :=
  e = .returned (.slice (some ⟨g, 0, none⟩) (n - 1) cap) ∧ Row w' 35 2 g (n - 1) cap ((dropI L x.2).flatMap itVs) ∧ Upd [g] w w'

set_option maxRecDepth 100000 in
set_option maxHeartbeats 8000000 in
theorem delete_any (g n cap xb i : Nat) (L : List It) (x : It) (w : World) (hsm : n ≤ 1000) (hnd : NdI L) (h : DelAt w g n cap xb i L x) :
    Calls Tryd.prog 108 #[.slice (some ⟨g, 0, none⟩) n cap, delV xb] w (DelPost g n cap L x w) := by
  have HD := Lib.hid h
  have hi := h.hi
  have hcap := h.row.o.cap_le.1
  have HI := Lib.hid (fun w h => index_any g n cap xb i L x w hsm h)
  have t0 : ((i : Int) == -1) = false := by simp
  have HND := Lib.hid hnd
  clear h hnd
  unfold delV at HI ⊢
  go_enter Tryd.func108, Tryd.ntmps108
  go_wp2_with fail
  refine (HI.out w HD.out).mono ?_
  rintro e w1 ⟨rfl, hU1⟩
  have HU1 := Lib.hid hU1
  clear hU1
  go_wp2_with fail
  go_loopw [5, 6] (fun mv jv wr => DelL w g n cap i L mv jv wr) (fun _ jv _ => n - (intOf jv).toNat)
  case atStart => exact ⟨i, L, rfl, rfl, by omega, by omega, ShiftOf.start HD.out.len, HD.out.row.upd HU1.out (by simp), HU1.out.nil⟩
  case round =>
    obtain ⟨m, A, rfl, rfl, him, hmn, hS, hR, hU⟩ := hrel
    have HS := Lib.hid hS
    have HR := Lib.hid hR
    have HU := Lib.hid hU
    have hl := hR.lt
    clear hS hR hU
    by_cases hlt : m + 1 < n
    · have t1 : decide (m + 1 < n) = true := by simp; omega
      have t1' : decide ((m : Int) + 1 < (n : Int)) = true := by simp; omega
      have b1 : (m : Int) + 1 < (n : Int) := by omega
      have b2 : (m : Int) < (n : Int) := by omega
      obtain ⟨y, hy⟩ : ∃ y, atI L (m + 1) = y := ⟨_, rfl⟩
      have hyA : atI A (m + 1) = y := by rw [HS.out.2 (m + 1) hlt, if_neg (by omega), if_neg (by omega), hy]
      obtain ⟨x0, x1⟩ := item_cells HR.out (i := m + 1) (by rw [HS.out.1]; omega)
      rw [hyA] at x0 x1
      obtain ⟨u0, y0⟩ := HR.out.spot (j := m * 2) (by omega)
      obtain ⟨u1, y1⟩ := HR.out.spot (j := m * 2 + 1) (by omega)
      have f0 := HR.out.free (m * 2)
      have f1 := HR.out.free (m * 2 + 1)
      have hno : Hid (decide (y = x) = false) := by have := HD.out.one (m + 1) hlt (by omega); rw [hy] at this; unfold Hid; simp [this]
      have hbx := HD.out.box.upd HU.out (by simp; exact HD.out.ne)
      have HBX := Lib.hid hbx
      have HY := Lib.hid hy
      clear hy hyA hbx
      go_wp2_with fail
      refine (wdropf_any x y xb _ (HBX.out.alloc _)).mono ?_
      rintro e w3 ⟨rfl, hU3⟩
      rw [hno.out]
      have hU13 : Upd [] wr w3 := ((Upd.refl [] wr).alloc _).trans hU3
      have hR3 := HR.out.upd hU13 (by simp)
      obtain ⟨v0, z0⟩ := hR3.spot (j := m * 2) (by omega)
      obtain ⟨v1, z1⟩ := hR3.spot (j := m * 2 + 1) (by omega)
      have g0 := hR3.free (m * 2)
      have g1 := hR3.free (m * 2 + 1)
      have hl3 := hR3.lt
      have hB3 := (Blk.new wr 35 [.int .u64 y.1, .int .i64 y.2]).upd hU3 (by simp)
      have q0 := hB3.cell (j := 0) rfl
      have q1 := hB3.cell (j := 1) rfl
      have HR3 := Lib.hid hR3
      have HU13 := Lib.hid hU13
      clear hU3 hU13 hR3 hB3 x0 x1 y0 y1 f0 f1
      go_wp2
      refine ⟨⟨m + 1, A.set m y, by congr 1, by congr 1, by omega, by omega, ?_, ?_, ((HU.out.trans HU13.out.nil).setCell (by simp) _).setCell (by simp) _⟩, by first | (simp [intOf]; done) | (simp [intOf]; omega)⟩
      · rw [← HY.out]; exact HS.out.step him hlt
      · rw [← item_set A m (by rw [HS.out.1]; omega) y]
        exact (HR3.out.set _ _).set _ _
    · have t1 : decide (m + 1 < n) = false := by simp; omega
      have t1' : decide ((m : Int) + 1 < (n : Int)) = false := by simp; omega
      have hmn1 : Hid (m + 1 = n) := by unfold Hid; omega
      have hnm : n - m = 1 := by omega
      have b1 : m ≤ n := by omega
      have b2 : (m : Int) ≤ (n : Int) := by omega
      have b3 : m ≤ cap := by omega
      have b4 : ¬ cap = m := by omega
      obtain ⟨u0, y0⟩ := HR.out.spot (j := m * 2) (by omega)
      obtain ⟨u1, y1⟩ := HR.out.spot (j := m * 2 + 1) (by omega)
      have f0 := HR.out.free (m * 2)
      have f1 := HR.out.free (m * 2 + 1)
      clear hlt
      go_wp2_with (refine wpList_clear1 _ (by rfl) _ _ (by rfl) 35 _ (.int .u64 0) (.int .i64 0) underlyingItems zeroItem rfl rfl rfl g (m * 2) _ (by rfl) u0 u1 y0 y1 f0 f1 ?_)
      go_ret
      have hn1 : n - 1 = m := by have := hmn1.out; omega
      refine ⟨by rw [hn1]; rfl, ?_, (HU.out.setCell (by simp) _).setCell (by simp) _⟩
      have hr := ((HR.out.set (m * 2) (.int .u64 0)).set (m * 2 + 1) (.int .i64 0)).trunc m (by omega)
      rw [hn1]
      have hx := item_set A m (by rw [HS.out.1]; have := hmn1.out; omega) (0, 0)
      have e2 : (((A.flatMap itVs).set (m * 2) (.int .u64 0)).set (m * 2 + 1) (.int .i64 0)).take (m * 2) = (dropI L x.2).flatMap itVs := by
        have hx' : ((A.flatMap itVs).set (m * 2) (.int .u64 0)).set (m * 2 + 1) (.int .i64 0) = (A.set m (0, 0)).flatMap itVs := hx
        rw [hx', flat_take itVs 2 itVs_len]
        have e3 : (A.set m (0, 0)).take m = A.take m := by
          apply List.ext_getElem
          · simp
          · intro p h1 h2
            rw [List.getElem_take, List.getElem_take, List.getElem_set_ne]
            rw [List.length_take] at h1; omega
        rw [e3, HS.out.done him hmn1.out HD.out.len, cut_list HND.out (by rw [HD.out.len]; exact hi) HD.out.at_]
      rw [e2] at hr
      exact hr
end Go.Proofs.YtbnifhdnpeiheaaDoor
