/-
  The walk of the wheel's Drop. No condition.
-/
import Derived.Test.YtbnifhdnpeiheaaDoorWo
set_option linter.unusedVariables false
set_option linter.unusedSimpArgs false
namespace Go.Proofs.YtbnifhdnpeiheaaDoor
open Go.RowKit

def setB (s : WS) (q : Nat) (bu : Buc) : WS := { s with bk := fun r => if r = q then bu else s.bk r }
theorem bucket_done {w w1 : World} {wb l b : Nat} {s : WS} {bu : Buc} (h : WhAt w wb s) (hl : l < 3) (hb : b < 64) (ha : bu.ao = (s.bk (l * 64 + b)).ao) (hsm : bu.L.length ≤ 1000) (hU : Upd (blkO bu.ao) w w1)
    (hR : RowO w1 35 2 bu.ao bu.L.length bu.cap (bu.L.flatMap itVs)) :
    WhAt (w1.setCell ⟨wb, 2 + l * 64 + b, none⟩ (.slice bu.ao bu.L.length bu.cap)) wb (setB s (l * 64 + b) bu) := by
  rw [Nat.add_assoc 2]
  have hq : l * 64 + b < 192 := by omega
  have hu : Upd [wb] w1 (w1.setCell ⟨wb, 2 + (l * 64 + b), none⟩ (.slice bu.ao bu.L.length bu.cap)) := (Upd.refl _ _).setCell (by simp) _
  have hnw : wb ∉ blkO bu.ao := fun e => (h.d2 _ hq _ (ha ▸ e)).1 rfl
  have hnm : s.mb ∉ blkO bu.ao := fun e => (h.d2 _ hq _ (ha ▸ e)).2 rfl
  refine { top := ?_, rows := fun q hq' => ?_, map := (h.map.upd hU hnm).upd hu (by simp; exact fun e => h.d1 e.symm), ndm := h.ndm, d1 := h.d1, d2 := fun q hq' c hc => ?_, d3 := fun q hq' r hr hqr c hc => ?_, small := fun q hq' => ?_, b64 := h.b64, wd40 := h.wd40, mw64 := h.mw64, msmall := h.msmall }
  · refine ((h.top.upd hU hnw).set _ _).congr (fun o ho => ?_)
    simp only [setB]
    by_cases e2 : o = 2 + (l * 64 + b)
    · subst e2
      rw [if_pos rfl]
      have := wheelF_bk (setB s (l * 64 + b) bu) hq
      simp only [setB] at this
      rw [this]
      simp
    · rw [if_neg e2]
      unfold wheelF
      simp only []
      split
      · rfl
      split
      · rfl
      split
      · rw [if_neg (by omega)]
      · rfl
  · simp only [setB]
    split
    · exact hR.upd hu (fun c hc => by simp; exact fun e => hnw (e ▸ hc))
    · rename_i hne
      exact ((h.rows q hq').upd hU (fun c hc e => h.d3 q hq' _ hq hne c hc (ha ▸ e))).upd hu (fun c hc => by simp; exact (h.d2 q hq' c hc).1)
  · simp only [setB] at hc
    split at hc
    · rw [ha] at hc; exact h.d2 _ hq c hc
    · exact h.d2 q hq' c hc
  · simp only [setB] at hc ⊢
    split at hc
    · rename_i e1
      rw [if_neg (by omega)]
      rw [ha] at hc
      exact h.d3 _ hq r hr (by omega) c hc
    · rename_i e1
      split
      · rw [ha]; exact h.d3 q hq' _ hq e1 c hc
      · exact h.d3 q hq' r hr hqr c hc
  · simp only [setB]
    split
    · exact hsm
    · exact h.small q hq'

theorem delM_len {M : AL} {k : Int} {v : Value} (h : lookM M k = some v) : (delM M k).length + 1 = M.length := by
  induction M with
  | nil => simp [lookM] at h
  | cons p r ih =>
    obtain ⟨a, x⟩ := p
    simp only [lookM] at h
    simp only [delM]
    by_cases e : k = a
    · rw [if_pos e]; rfl
    · rw [if_neg e] at h ⊢
      rw [List.length_cons, ih h, List.length_cons]

def dropS (s : WS) (l b : Nat) (id : Int) : WS := setB { s with M := delM s.M id } (l * 64 + b) ⟨(s.bk (l * 64 + b)).ao, (s.bk (l * 64 + b)).cap, dropI (s.bk (l * 64 + b)).L id⟩
def DropTo (wb : Nat) (s : WS) (l b : Nat) (id : Int) (w w' : World) : Prop :=
  WhAt w' wb (if dropI (s.bk (l * 64 + b)).L id = [] then emptyS (dropS s l b id) l b else dropS s l b id) ∧ Upd (s.fp wb) w w'

set_option maxRecDepth 100000 in
set_option maxHeartbeats 4000000 in
theorem wdrop_no (wb : Nat) (s : WS) (id : Int) (w : World) (h : WhAt w wb s) (hno : lookM s.M id = none) :
    Calls Tryd.prog 69 #[.pointer (some ⟨wb, 0, none⟩), .int .i64 id] w (RetUpd [] w (itV zIt false)) := by
  have h1 := h.up ((Upd.refl [] w).alloc (.cells #[.int .u64 0, .int .i64 0] 35))
  have c0 := h.top.cell (o := 197) (by omega)
  rw [wheelF_mb] at c0
  have lw := h.top.lt
  have hl := h1.map.look (P := Tryd.prog) underlyingU64Map underlyingInt5 zeroU64 id true
  rw [hno] at hl
  simp only [if_true, Option.getD_none, Option.isSome_none] at hl
  clear h h1 hno
  go_enter Tryd.func69, Tryd.ntmps69
  go_wp2
  exact bodyPost_ret (v := itV zIt false) (by simp [results, Tryd.results69, go_sem, itV, zIt]) rfl ⟨rfl, ((Upd.refl [] w).alloc _)⟩

set_option maxRecDepth 100000 in
set_option maxHeartbeats 8000000 in
theorem wdrop_yes (wb l b k : Nat) (s : WS) (id : Int) (w : World) (hk : k < 18446744073709551616) (h : WhAt w wb s) (hyes : lookM s.M id = some (.int .u64 k)) (hb : s.base ≤ k) (hl : lev3 s.wd s.base k = l) (hl3 : l < 3) (hbe : bucN s.wd k l = b) (i : Nat) (hi : i < (s.bk (l * 64 + b)).L.length) (hat : atI (s.bk (l * 64 + b)).L i = ((k : Int), id)) (hnd : NdI (s.bk (l * 64 + b)).L) :
    Calls Tryd.prog 69 #[.pointer (some ⟨wb, 0, none⟩), .int .i64 id] w (fun e w' => e = .returned (itV ((k : Int), id) true) ∧ DropTo wb s l b id w w') := by
  have HH := Lib.hid h
  have h1 := h.up ((Upd.refl [] w).alloc (.cells #[.int .u64 0, .int .i64 0] 35))
  have HB0 := Lib.hid (Blk.new w 35 [.int .u64 0, .int .i64 0])
  have hlk := h1.map.look (P := Tryd.prog) underlyingU64Map underlyingInt5 zeroU64 id true
  rw [hyes] at hlk
  simp only [if_true, Option.getD_some, Option.isSome_some] at hlk
  obtain ⟨w2, hdel, hto⟩ := h1.map.del (P := Tryd.prog) underlyingU64Map underlyingInt5 id 0
  have HW2 : Hid (WhAt w2 wb { s with M := delM s.M id }) := h1.withM hto (h.ndm.del id) (by have := delM_len hyes; have := h.msmall; omega)
  have hU2 : Upd [s.mb] w w2 := ((Upd.refl [] w).alloc _).nil.trans hto.upd
  have HU2 := Lib.hid hU2
  have c0 := h.top.cell (o := 197) (by omega)
  rw [wheelF_mb] at c0
  have lw := h.top.lt
  have lw2 := HW2.out.top.lt
  have ls2 := hto.size
  have hR0 := HB0.out.upd hto.upd (by simp; have := h.map.lt; omega)
  have HR0 := Lib.hid hR0
  have HHI := Lib.hid hi
  have HAT := Lib.hid hat
  have HND := Lib.hid hnd
  have HPL := Lib.hid (fun w (h : WhAt w wb { s with M := delM s.M id }) => place_yes wb k l hk { s with M := delM s.M id } w h hb hl hl3)
  have HBE := Lib.hid hbe
  have hbl : b < 64 := by rw [← hbe]; exact bucN_lt _ _ _
  have s2 : w.heap.size < w2.heap.size := by simp at ls2; omega
  clear h h1 hyes hto hU2 ls2 hR0 hi hat hnd hb hl hbe
  go_enter Tryd.func69, Tryd.ntmps69
  go_wp2_with fail
  refine (HPL.out _ (HW2.out.up ((Upd.refl [] w2).alloc _))).mono ?_
  rintro e w4 ⟨rfl, hU4⟩
  have hbw : bucN { s with M := delM s.M id }.wd k l = b := HBE.out
  rw [hbw]
  have HW4 := Lib.hid ((HW2.out.up ((Upd.refl [] w2).alloc (.cells #[.int .u64 k, .int .i64 id] 35))).up hU4)
  have HX4 := Lib.hid ((Blk.new w2 35 [.int .u64 k, .int .i64 id]).upd hU4 (by simp))
  have HR4 := Lib.hid ((HR0.out.alloc (.cells #[.int .u64 k, .int .i64 id] 35)).upd hU4 (by simp))
  have HU4 : Hid (Upd [s.mb] w w4) := HU2.out.trans ((Upd.refl [s.mb] w2).alloc _ |>.trans hU4.nil)
  have s4 := hU4.size
  have s4' : w2.heap.size < w4.heap.size := by simp at s4; omega
  clear hU4 s4 hlk hdel c0 lw2 hbw
  obtain ⟨B, hB⟩ : ∃ B, (s.bk (l * 64 + b)).L = B := ⟨_, rfl⟩
  obtain ⟨ao, hao⟩ : ∃ ao, (s.bk (l * 64 + b)).ao = ao := ⟨_, rfl⟩
  obtain ⟨cap, hcap⟩ : ∃ cap, (s.bk (l * 64 + b)).cap = cap := ⟨_, rfl⟩
  have hR4 := HW4.out.rows (l * 64 + b) (by omega)
  have c1 := HW4.out.top.cell (o := 2 + (l * 64 + b)) (by omega)
  rw [wheelF_bk _ (by omega), ← Nat.add_assoc] at c1
  have hd2 := HH.out.d2 (l * 64 + b) (by omega)
  have hsm := HH.out.small (l * 64 + b) (by omega)
  have hlt0 := (HH.out.rows (l * 64 + b) (by omega)).lt
  have hz1 := HW4.out.top.free (2 + l * 64 + b)
  have lw4 := HW4.out.top.lt
  have HS1 : Hid (dropS s l b id = setB { s with M := delM s.M id } (l * 64 + b) ⟨ao, cap, dropI B id⟩) := by unfold Hid dropS; rw [hB, hao, hcap]
  have HBD := Lib.hid (fun w1 (hU : Upd (blkO ao) w4 w1) (hR : RowO w1 35 2 ao (dropI B id).length cap ((dropI B id).flatMap itVs)) => bucket_done (bu := ⟨ao, cap, dropI B id⟩) HW4.out hl3 hbl hao.symm (by rw [← hB]; exact Nat.le_trans (List.length_filter_le _ _) hsm) hU hR)
  have HBL := Lib.hid hB
  simp only [hB, hao, hcap] at HHI HAT HND hR4 c1 hd2 hsm hlt0 ⊢
  obtain ⟨g, hg, hrow⟩ := hR4.row (by have := HHI.out; omega)
  subst hg
  obtain ⟨n, hn⟩ : ∃ n, B.length = n := ⟨_, rfl⟩
  rw [hn] at c1 hsm hrow
  have hgd := hd2 g (by simp [blkO])
  have hgw := hlt0 g (by simp [blkO])
  have HDA : Hid (DelAt w4 g n cap w2.heap.size i B ((k : Int), id)) := { row := hrow, len := hn, hi := by rw [← hn]; exact HHI.out, at_ := HAT.out, one := fun j hj hji e => hji (atI_inj HND.out (by omega) HHI.out (by rw [e, HAT.out])), box := HX4.out, ne := by omega }
  have hcut : (dropI B id).length = n - 1 := by
    have := cut_list HND.out HHI.out HAT.out
    rw [← this, List.length_append, List.length_take, List.length_drop]
    have := HHI.out
    omega
  obtain ⟨n1, hn1⟩ : ∃ n1, n - 1 = n1 := ⟨_, rfl⟩
  rw [hn1] at hcut
  have HN1 := Lib.hid hn1
  have HCUT := Lib.hid hcut
  have HN := Lib.hid hn
  have hwg : wb ≠ g := fun e => hgd.1 e.symm
  have hrg : w.heap.size ≠ g := by omega
  have hxg : w2.heap.size ≠ g := by omega
  have HC1 := Lib.hid c1
  have HZ1 := Lib.hid hz1
  have HGD := Lib.hid hgd
  have HGF : Hid (g ∈ s.fp wb) := WS.mem_fp.2 (.inr (.inr ⟨l * 64 + b, by omega, by rw [hao]; simp [blkO]⟩))
  have bb : (b : Int) < 64 := by omega
  have bl : (l : Int) < 3 := by omega
  clear hB hao hcap hR4 hd2 hlt0 hrow hn hcut hn1 hgd hz1
  go_wp2
  go_region_with (go_at_call 108; refine (delete_any g n cap w2.heap.size i B ((k : Int), id) _ hsm HND.out (HDA.out.upd (Upd.refl [] w4).drew)).mono ?_; rintro e w5 ⟨rfl, hR5, hU5⟩; rw [HN1.out] at hR5 ⊢; have e5 := hU5.cell lw4 (by simpa using hwg) (2 + l * 64 + b); have e5' := e5.trans HC1.out; have z5 := (hU5.frozen lw4 (by simpa using hwg) (2 + l * 64 + b)).trans HZ1.out; have lw5 := Nat.lt_of_lt_of_le lw4 hU5.size; have HR5 := Lib.hid hR5; have HU5 := Lib.hid hU5; clear hR5 hU5 e5)
  all_goals
    obtain ⟨w6, hw6⟩ : ∃ w6, w6 = w5.setCell ⟨wb, 2 + l * 64 + b, none⟩ (.slice (some ⟨g, 0, none⟩) n1 cap) := ⟨_, rfl⟩
    rw [← hw6]
    have HW6 : Hid (WhAt w6 wb (dropS s l b id)) := by
      unfold Hid
      have := HBD.out w5 ((Upd.refl _ w4).drew.trans HU5.out) (by rw [HCUT.out]; exact HR5.out.o)
      rw [HS1.out, hw6]
      simp only [HCUT.out] at this
      exact this
    have hu56 : Upd [wb] w5 w6 := by rw [hw6]; exact (Upd.refl _ _).setCell (by simp) _
    have hu46 : Upd [g, wb] w4 w6 := ((Upd.refl [g, wb] w4).drew.trans (HU5.out.mono (fun i _ hm => by simp at hm; simp [hm]))).trans (hu56.mono (fun i _ hm => by simp at hm; simp [hm]))
    have c6 : w6.cell? ⟨wb, 2 + l * 64 + b, none⟩ = some (.slice (some ⟨g, 0, none⟩) n1 cap) := by rw [hw6]; exact World.cell?_setCell_same _ _ _ e5'
    have lw6 : wb < w6.heap.size := Nat.lt_of_lt_of_le lw5 hu56.size
    have hR6 := HR4.out.upd hu46 (by simp; exact ⟨hrg, by omega⟩)
    have hX6 := HX4.out.upd hu46 (by simp; exact ⟨hxg, by omega⟩)
    have HR6 := Lib.hid hR6
    have HX6 := Lib.hid hX6
    have HU6 : Hid (Upd (s.fp wb) w w6) := (HU4.out.mono (fun i _ hm => by simp at hm; exact WS.mem_fp.2 (.inr (.inl hm)))).trans (hu46.mono (fun i _ hm => by
      simp at hm
      rcases hm with e | e
      · exact e ▸ HGF.out
      · exact WS.mem_fp.2 (.inl e)))
    have k0 := hR6.cell (j := 0) rfl
    have k1 := hR6.cell (j := 1) rfl
    have z0 := hR6.free 0
    have z1 := hR6.free 1
    have lr6 := hR6.lt
    have q0 := hX6.cell (j := 0) rfl
    have q1 := hX6.cell (j := 1) rfl
    have lx6 := hX6.lt
    clear hw6 hu56 hu46 hR6 hX6 e5' z5 c1
    by_cases hz : n1 = 0
    · have t1 : ((n1 : Int) == 0) = true := by simp [hz]
      have hnil : Hid (dropI B id = []) := List.eq_nil_of_length_eq_zero (by rw [HCUT.out]; exact hz)
      clear hz
      go_wp2_with fail
      refine (wempty_any wb l b _ w6 HW6.out hl3 hbl).mono ?_
      rintro e w7 ⟨rfl, hW7, hU7⟩
      have HW7 := Lib.hid hW7
      have hR7 := HR6.out.upd hU7 (by simp; omega)
      have hX7 := HX6.out.upd hU7 (by simp; omega)
      have m0 := hR7.cell (j := 0) rfl
      have m1 := hR7.cell (j := 1) rfl
      have f0 := hR7.free 0
      have f1 := hR7.free 1
      have lr7 := hR7.lt
      have p0 := hX7.cell (j := 0) rfl
      have p1 := hX7.cell (j := 1) rfl
      have lx7 := hX7.lt
      have HU7 : Hid (Upd (s.fp wb) w w7) := HU6.out.trans (hU7.mono (fun i _ hm => by simp at hm; exact WS.mem_fp.2 (.inl hm)))
      clear hW7 hU7 hR7 hX7 k0 k1 z0 z1 q0 q1 c6
      go_wp2
      obtain ⟨s0, s1⟩ := two_set (w := w7) rfl rfl m0 m1 (.int .u64 k) (.int .i64 id)
      refine bodyPost_ret (v := itV ((k : Int), id) true) (by simp [results, Tryd.results69, go_sem, s0, s1, itV]) rfl ⟨rfl, ?_, (HU7.out.setCell (.inr (Nat.le_refl _)) _).setCell (.inr (Nat.le_refl _)) _⟩
      rw [if_pos (by rw [HBL.out]; exact hnil.out)]
      exact HW7.out.upd (((Upd.refl [w.heap.size] w7).setCell (by simp) _).setCell (by simp) _) (fun c hc e => by
        simp at e
        rcases WS.mem_fp.1 (empty_fp hc) with h | h | ⟨q, hq, h⟩
        · omega
        · have := HH.out.map.lt; simp only [dropS, setB] at h; omega
        · simp only [dropS, setB] at h
          split at h
          · have := (HH.out.rows (l * 64 + b) (by omega)).lt c h; omega
          · have := (HH.out.rows q hq).lt c h; omega)
    · have t1 : ((n1 : Int) == 0) = false := by simp [hz]
      have hnil : Hid (dropI B id ≠ []) := fun e => hz (by rw [← HCUT.out, e]; rfl)
      clear hz
      go_wp2
      obtain ⟨s0, s1⟩ := two_set (w := w6) rfl rfl k0 k1 (.int .u64 k) (.int .i64 id)
      refine bodyPost_ret (v := itV ((k : Int), id) true) (by simp [results, Tryd.results69, go_sem, s0, s1, itV]) rfl ⟨rfl, ?_, (HU6.out.setCell (.inr (Nat.le_refl _)) _).setCell (.inr (Nat.le_refl _)) _⟩
      rw [if_neg (by rw [HBL.out]; exact hnil.out)]
      exact HW6.out.upd (((Upd.refl [w.heap.size] w6).setCell (by simp) _).setCell (by simp) _) (fun c hc e => by
        simp at e
        rcases WS.mem_fp.1 hc with h | h | ⟨q, hq, h⟩
        · omega
        · have := HH.out.map.lt; simp only [dropS, setB] at h; omega
        · simp only [dropS, setB] at h
          split at h
          · have := (HH.out.rows (l * 64 + b) (by omega)).lt c h; omega
          · have := (HH.out.rows q hq).lt c h; omega)
end Go.Proofs.YtbnifhdnpeiheaaDoor
