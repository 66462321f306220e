/-
  The walks of a queue: play, Min, Push. No condition.
-/
import Derived.Test.YtkepeolbpgnlbaaGreatDoorQb
import Derived.Test.YtkepeolbpgnlbaaGreatDoorQuiet
set_option linter.unusedVariables false
set_option linter.unusedSimpArgs false
namespace Go.Proofs.YtkepeolbpgnlbaaGreatDoor
open Go.RowKit

/-- A queue that one leaf of its tour still has to be told of; one that it was told of. -/
def QStl (W : World) (qb wd : Nat) (M : List Sh) (T : List Leaf) (i : Nat) (fp : List Nat) (w : World) : Prop :=
  ∃ sr cap t sb F, QAt W w qb wd M T sr cap t sb F ∧ i < M.length ∧ T.set i (leafOf (shAt M i).2) = leavesM M ∧ fp = fpN (headsQ qb sr t) M.length F
def QNow (W : World) (qb wd : Nat) (M : List Sh) (fp : List Nat) (w : World) : Prop :=
  ∃ sr cap t sb F, QAt W w qb wd M (leavesM M) sr cap t sb F ∧ fp = fpN (headsQ qb sr t) M.length F
section
variable {W w : World} {qb wd : Nat} {M : List Sh} {T : List Leaf} {fp : List Nat} {i : Nat}
theorem QStl.updS (h : QStl W qb wd M T i fp w) {S : List Nat} {w' : World} (hu : Upd S w w') (hs : ∀ c ∈ fp, c ∉ S) (hw : ∀ c ∈ S, W.heap.size ≤ c) : QStl W qb wd M T i fp w' := by
  obtain ⟨sr, cap, t, sb, F, h1, h2, h3, rfl⟩ := h; exact ⟨sr, cap, t, sb, F, h1.updS hu hs hw, h2, h3, rfl⟩
theorem QStl.upd (h : QStl W qb wd M T i fp w) {w' : World} (hu : Upd [] w w') : QStl W qb wd M T i fp w' := h.updS hu (by simp) (by simp)
theorem QStl.lt (h : QStl W qb wd M T i fp w) : ∀ c ∈ fp, c < w.heap.size := by obtain ⟨_, _, _, _, _, h, _, _, rfl⟩ := h; exact h.lt
theorem QNow.updS (h : QNow W qb wd M fp w) {S : List Nat} {w' : World} (hu : Upd S w w') (hs : ∀ c ∈ fp, c ∉ S) (hw : ∀ c ∈ S, W.heap.size ≤ c) : QNow W qb wd M fp w' := by
  obtain ⟨sr, cap, t, sb, F, h1, rfl⟩ := h; exact ⟨sr, cap, t, sb, F, h1.updS hu hs hw, rfl⟩
theorem QNow.upd (h : QNow W qb wd M fp w) {w' : World} (hu : Upd [] w w') : QNow W qb wd M fp w' := h.updS hu (by simp) (by simp)
theorem QNow.lt (h : QNow W qb wd M fp w) : ∀ c ∈ fp, c < w.heap.size := by obtain ⟨_, _, _, _, _, h, rfl⟩ := h; exact h.lt
theorem QNow.ok {L : List It} (h : QNow W qb wd M fp w) (h2 : QOk M L) : QG W qb wd M L fp w := by obtain ⟨sr, cap, t, sb, F, h1, rfl⟩ := h; exact ⟨sr, cap, t, sb, F, h1, h2, rfl⟩
theorem QAt.told {sr cap : Nat} {t : Tr} {sb : Nat → Nat} {F : Nat → List Nat} {w1 w2 : World} (h : QAt W w1 qb wd M T sr cap t sb F) (hi : i < M.length) (hT : T.set i (leafOf (shAt M i).2) = leavesM M) {e : Ending} {f : Leaf} (hfl : f = leafOf (shAt M i).2) (k : PlayIn t i f w1 e w2) :
    ∃ fp', QNow W qb wd M fp' w2 ∧ Fr (fpN (headsQ qb sr t) M.length F) fp' w1 w2 := by
  obtain ⟨t', k1, k2, k3⟩ := h.played hi k
  refine ⟨_, ⟨sr, cap, t', sb, F, by rw [← hT, ← hfl]; exact k1, rfl⟩, fun c hc => .inl (by rw [k2] at hc; exact hc), k3.mono (fun c _ hc => mem_fpN.2 (.inl ?_))⟩
  simp only [headsQ, List.mem_cons, List.not_mem_nil, or_false] at hc ⊢
  exact .inr (.inr (.inr hc))
end

set_option maxRecDepth 100000 in
set_option maxHeartbeats 4000000 in
theorem qplay {W w : World} {qb wd : Nat} {M : List Sh} {T : List Leaf} {fp : List Nat} {i : Nat} (h : QStl W qb wd M T i fp w) (h16 : M.length ≤ 16) :
    Calls Tryz.prog 45 #[.pointer (some ⟨qb, 0, none⟩), .int .i64 i] w (fun e w' => e = .returned (.tuple #[]) ∧ ∃ fp', QNow W qb wd M fp' w' ∧ Fr fp fp' w w') := by
  obtain ⟨sr, cap, t, sb, F, h1, hi, h3, h4⟩ := h
  subst h4
  obtain ⟨p0, p1, pp, lq, ls⟩ := h1.cells
  have pi := pp i hi
  have HM := Lib.hid (h1.sh i hi).min
  have HQ := Lib.hid h1
  have HI := Lib.hid hi
  have HT := Lib.hid h3
  have hil : i < t.L.length := by rw [h1.tl, h1.tlen]; exact hi
  have HIL := Lib.hid hil
  obtain ⟨n, hn⟩ : ∃ n, M.length = n := ⟨_, rfl⟩
  rw [hn] at p0 hi h16
  obtain ⟨K, hK⟩ : ∃ K, (shAt M i).2 = K := ⟨_, rfl⟩
  have HK := Lib.hid hK
  rw [hK] at HM
  clear h1 h3 pp hil hn hK
  cases K with
  | nil =>
    go_enter Tryz.func45, Tryz.ntmps45
    go_wp2_with fail
    refine HM.out.mono ?_
    rintro e w2 ⟨rfl, hU⟩
    unfold firstV itV
    have p1' := (hU.cell lq (by simp) 1).trans p1
    have lq' := Nat.lt_of_lt_of_le lq hU.size
    have HU := Lib.hid hU
    clear p0 p1 pi lq ls hU
    go_wp2_with fail
    refine (tunset_in t i _ ((HQ.out.upd HU.out).upd ((Upd.refl [] w2).alloc _)).tour HIL.out).mono ?_
    intro e w3 h3
    have HE : Hid (e = .returned (.bool true)) := h3.1
    have HP : Hid (∃ fp', QNow W qb wd M fp' w3 ∧ Fr (fpN (headsQ qb sr t) M.length F) fp' w w3) := by
      obtain ⟨fp', k1, k2⟩ := ((HQ.out.upd HU.out).upd ((Upd.refl [] w2).alloc _)).told HI.out HT.out (by rw [HK.out]; rfl) h3
      exact ⟨fp', k1, (Fr.of (HU.out.trans ((Upd.refl [] w2).alloc _))).trans k2⟩
    clear h3
    rw [HE.out]
    go_wp2
    go_end0
    exact ⟨rfl, HP.out⟩
  | cons x r =>
    go_enter Tryz.func45, Tryz.ntmps45
    go_wp2_with fail
    refine HM.out.mono ?_
    rintro e w2 ⟨rfl, hU⟩
    unfold firstV itV
    have p1' := (hU.cell lq (by simp) 1).trans p1
    have lq' := Nat.lt_of_lt_of_le lq hU.size
    have HU := Lib.hid hU
    clear p0 p1 pi lq ls hU
    go_wp2_with fail
    refine wp_region_tail 6 (by kernel_rfl) (by kernel_rfl) ?_
    simp only [List.take_succ_cons, List.take_zero, List.drop_succ_cons, List.drop_zero]
    repeat (go_big_quiet_step (fail))
    refine wpQuiet_nil ?_
    go_wp2_with fail
    refine (tset_in t i x _ ((HQ.out.upd HU.out).upd ((Upd.refl [] w2).alloc _).drew).tour HIL.out).mono ?_
    intro e w3 h3
    have HE : Hid (e = .returned (.bool true)) := h3.1
    have HP : Hid (∃ fp', QNow W qb wd M fp' w3 ∧ Fr (fpN (headsQ qb sr t) M.length F) fp' w w3) := by
      obtain ⟨fp', k1, k2⟩ := ((HQ.out.upd HU.out).upd ((Upd.refl [] w2).alloc _).drew).told HI.out HT.out (by rw [HK.out]; rfl) h3
      exact ⟨fp', k1, (Fr.of (HU.out.trans ((Upd.refl [] w2).alloc _).drew)).trans k2⟩
    clear h3
    rw [HE.out]
    go_wp2
    go_end0
    exact ⟨rfl, HP.out⟩

/-! ### Min: who wins -/
section
variable {W w : World} {qb wd : Nat} {M : List Sh} {L : List It} {fp : List Nat}
/-- What Win tells of a queue's tour. -/
def WinQ (M : List Sh) (L : List It) (w : World) (e : Ending) (w' : World) : Prop :=
  Upd [] w w' ∧ ((L = [] ∧ e = .returned (.tuple #[.int .i64 0, .agg #[.int .u64 0, .int .i64 0], .bool false])) ∨
    ∃ (j : Nat) (x : It) (r l : List It), j < M.length ∧ (shAt M j).2 = x :: r ∧ L = x :: l ∧ e = .returned (.tuple #[.int .i64 j, .agg #[.int .u64 x.1, .int .i64 x.2], .bool true]))
theorem QAt.win {sr cap : Nat} {t : Tr} {sb : Nat → Nat} {F : Nat → List Nat} (h : QAt W w qb wd M (leavesM M) sr cap t sb F) (hk : QOk M L) :
    Calls Tryz.prog 47 #[.pointer (some ⟨t.bt, 0, none⟩)] w (WinQ M L w) := by
  have hfit := h.tour.fits
  rw [h.tl, leavesM_len] at hfit
  have hw := good_wins h.good h.pow h.tour.fits (2 * t.size - 1) 1 rfl (by omega) (by have := hk.one; omega)
  rw [h.tl, leavesM_len] at hw
  have hl := hk.wins hfit hw
  refine (twin_any t w h.tour).mono ?_
  rintro e w' ⟨h1, h2⟩
  refine ⟨h1, ?_⟩
  rcases hl with ⟨e1, e2⟩ | ⟨j, x, r, l, e1, e2, e3, e4⟩
  · left
    rcases h2 with ⟨_, h2⟩ | ⟨h0, _⟩
    · exact ⟨e2, h2⟩
    · omega
  · right
    rcases h2 with ⟨h0, _⟩ | ⟨_, h2⟩
    · omega
    · refine ⟨j, x, r, l, e2, e3, e4, ?_⟩
      rw [h2, e1]
      have : leafAt t.L (j : Int) = (x, true) := by
        unfold leafAt; rw [Int.toNat_natCast, h.tl, leavesM_get e2, e3]; rfl
      rw [this]
end
end Go.Proofs.YtkepeolbpgnlbaaGreatDoor
