/-
  law08: base, made; a queue and the document's that hold the same. No condition.
-/
import Derived.Test.YtkepeolbpgnlbaaGreatDoorQj
import Derived.Test.YtkepeolbpgnlbaaGreatDoorPB
import Derived.Test.YtkepeolbpgnlbaaGreatDoorUPlain
set_option linter.unusedVariables false
set_option linter.unusedSimpArgs false
namespace Go.Proofs.YtkepeolbpgnlbaaGreatDoor
open Go.RowKit

/-- A queue and the document's that hold the same. -/
def QR (W : World) (qb rb wd : Nat) (M : List Sh) (L : List It) (fp fq : List Nat) (w : World) : Prop := QG W qb wd M L fp w ∧ RQ W rb wd M fq w ∧ ∀ c ∈ fp, c ∉ fq
theorem QR.upd {W w w' : World} {qb rb wd : Nat} {M : List Sh} {L : List It} {fp fq : List Nat} (h : QR W qb rb wd M L fp fq w) (hu : Upd [] w w') : QR W qb rb wd M L fp fq w' := ⟨h.1.upd hu, h.2.1.upd hu, h.2.2⟩
theorem QR.updS {W w w' : World} {qb rb wd : Nat} {M : List Sh} {L : List It} {fp fq S : List Nat} (h : QR W qb rb wd M L fp fq w) (hu : Upd S w w') (h1 : ∀ c ∈ fp, c ∉ S) (h2 : ∀ c ∈ fq, c ∉ S) (hS : ∀ c ∈ S, W.heap.size ≤ c) : QR W qb rb wd M L fp fq w' := ⟨h.1.updS hu h1 hS, h.2.1.updS hu h2, h.2.2⟩

/-! ### base -/
def BaseAt (w : World) (n : Nat) (ov iv : Value) (wr : World) : Prop := ∃ i b : Nat, iv = .int .i64 i ∧ ov = .int .u64 b ∧ i ≤ n ∧ b < 18446744073709551616 ∧ Upd [] w wr
def BaseTo (w : World) (e : Ending) (w' : World) : Prop := ∃ b : Nat, b < 18446744073709551616 ∧ e = .returned (.int .u64 b) ∧ Upd [] w w'

set_option maxRecDepth 100000 in
set_option maxHeartbeats 4000000 in
theorem RQ.base {W w : World} {qb wd : Nat} {M : List Sh} {fp : List Nat} (h : RQ W qb wd M fp w) (h1 : 1 ≤ M.length) (h16 : M.length ≤ 16) :
    Calls Tryz.prog 31 #[.pointer (some ⟨qb, 0, none⟩)] w (BaseTo w) := by
  obtain ⟨sr, cap, sb, F, hq, rfl⟩ := h
  have HQ := Lib.hid hq
  obtain ⟨n, hn⟩ : ∃ n, M.length = n := ⟨_, rfl⟩
  have HN := Lib.hid hn
  obtain ⟨p0, pp, lq, ls⟩ := hq.cells
  have pi := pp 0 (by omega)
  obtain ⟨ao0, cap0, hB0, -, h64, -⟩ := (hq.sh 0 (by omega)).cells
  have c1 := hB0.cell (j := 1) rfl
  obtain ⟨b0, hb0⟩ : ∃ b, (shAt M 0).1 = b := ⟨_, rfl⟩
  rw [hb0] at c1 h64
  rw [hn] at p0 h1 h16
  have b1 : (0 : Int) < (n : Int) := by omega
  clear hq pp hB0 hn hb0
  go_enter Tryz.func31, Tryz.ntmps31
  go_wp2_with fail
  go_loopw [3, 4] (fun ov iv wr => BaseAt w n ov iv wr) (fun _ iv _ => n - (intOf iv).toNat)
  case atStart => exact ⟨1, b0, rfl, rfl, by omega, h64, Upd.refl _ _⟩
  case round =>
    clear p0 lq ls pi c1
    obtain ⟨i, b, rfl, rfl, hi, hb, hU⟩ := hrel
    obtain ⟨p0, pp, lq, ls⟩ := (HQ.out.upd hU).cells
    rw [HN.out] at p0
    have HU := Lib.hid hU
    by_cases hlt : i < n
    · have t1 : decide (i < n) = true := by simp [hlt]
      have b1 : (i : Int) < (n : Int) := by omega
      have hiM : i < M.length := by rw [HN.out]; exact hlt
      have pi := pp i hiM
      obtain ⟨aoi, capi, hBi, -, h64i, -⟩ := ((HQ.out.upd hU).sh i hiM).cells
      have c1 := hBi.cell (j := 1) rfl
      obtain ⟨bi, hbi⟩ : ∃ b, (shAt M i).1 = b := ⟨_, rfl⟩
      rw [hbi] at c1 h64i
      clear hU pp hBi hiM hbi
      go_wp2
      exact ⟨⟨i + 1, Min.min b bi, by congr 1, by congr 1; omega, by omega, by omega, HU.out⟩, by first | (simp [intOf]; done) | (simp [intOf]; omega)⟩
    · have t1 : decide (i < n) = false := by simp; omega
      clear hU pp
      go_wp2
      go_ret
      exact ⟨b, hb, rfl, HU.out⟩

/-! ### made -/
def QMadeTo (W w : World) (e : Ending) (w' : World) : Prop :=
  ∃ qb rb V m fp fq, e = .returned (.tuple #[.pointer (some ⟨qb, 0, none⟩), .pointer (some ⟨rb, 0, none⟩)]) ∧ QR W qb rb V (zeroM m) [] fp fq w' ∧ Upd [] w w' ∧ (∀ c ∈ fp, w.heap.size ≤ c) ∧ ∀ c ∈ fq, w.heap.size ≤ c

set_option maxHeartbeats 4000000 in
theorem qmade_any (W : World) (sh wd : Int) (w : World) (hU : Upd [] W w) (hT : TabAt 0 Lib.deBruijn64tab W) :
    Calls Tryz.prog 7 #[.int .i64 sh, .int .i64 wd] w (QMadeTo W w) := by
  have HNQ := Lib.hid (fun (w : World) (h : Upd [] W w) (s v : Int) => QG.new h hT s v)
  have HNR := Lib.hid (fun (w : World) (h : Upd [] W w) (s v : Int) => RQ.new h s v)
  have HU := Lib.hid hU
  have hmb := modI_bd sh 5 (by omega) (by omega)
  have hmb3 := modI_bd wd 3 (by omega) (by omega)
  obtain ⟨s5, hs5⟩ : ∃ m, modI sh 5 = m := ⟨_, rfl⟩
  obtain ⟨s6, hs6⟩ : ∃ m, modI sh 6 = m := ⟨_, rfl⟩
  obtain ⟨m, hm⟩ : ∃ m, modI wd 3 = m := ⟨_, rfl⟩
  obtain ⟨m7, hm7⟩ : ∃ m, modI wd 7 = m := ⟨_, rfl⟩
  have HM := Lib.hid hm
  have HM7 := Lib.hid hm7
  have HS5 := Lib.hid hs5
  have HS6 := Lib.hid hs6
  clear hm hm7 hs5 hs6 hU hmb hmb3
  cases ht : decide (0 < m) <;> cases hs : decide (0 < s5)
  · go_enter Tryz.func7, Tryz.ntmps7
    go_wp2_with fail
    refine (mod_any sh 5 (by omega) (by omega) _).mono ?_
    rintro e w2 ⟨rfl, rfl⟩
    rw [HS5.out]
    go_wp2_with fail
    refine (mod_any wd 3 (by omega) (by omega) _).mono ?_
    rintro e w2 ⟨rfl, rfl⟩
    rw [HM.out]
    go_wp2_with fail
    refine (HNQ.out w HU.out sh wd).mono ?_
    rintro e w3 ⟨qb, fp, rfl, hQ, hU3, hfp⟩
    have H3 := Lib.hid hU3
    have HQ := Lib.hid hQ
    have HF := Lib.hid hfp
    clear hU3 hQ hfp
    go_wp2_with fail
    refine (HNR.out w3 (HU.out.trans H3.out) sh wd).mono ?_
    rintro e w4 ⟨rb, fq, rfl, hR, hU4, hfq⟩
    have H4 := Lib.hid hU4
    have HR := Lib.hid hR
    have HG := Lib.hid hfq
    clear hU4 hR hfq
    go_wp2
    go_ret2
    exact ⟨qb, rb, heldN wd, leavesOf sh, fp, fq, rfl, ⟨HQ.out.upd H4.out, HR.out, fun c hc e => by have := HQ.out.lt c hc; have := HG.out c e; omega⟩, H3.out.trans H4.out, HF.out, fun c hc => by have := HG.out c hc; have := H3.out.size; omega⟩
  · go_enter Tryz.func7, Tryz.ntmps7
    go_wp2_with fail
    refine (mod_any sh 5 (by omega) (by omega) _).mono ?_
    rintro e w2 ⟨rfl, rfl⟩
    rw [HS5.out]
    go_wp2_with fail
    refine (mod_any sh 6 (by omega) (by omega) _).mono ?_
    rintro e w2 ⟨rfl, rfl⟩
    rw [HS6.out]
    go_wp2_with fail
    refine (mod_any wd 3 (by omega) (by omega) _).mono ?_
    rintro e w2 ⟨rfl, rfl⟩
    rw [HM.out]
    go_wp2_with fail
    refine (HNQ.out w HU.out s6 wd).mono ?_
    rintro e w3 ⟨qb, fp, rfl, hQ, hU3, hfp⟩
    have H3 := Lib.hid hU3
    have HQ := Lib.hid hQ
    have HF := Lib.hid hfp
    clear hU3 hQ hfp
    go_wp2_with fail
    refine (HNR.out w3 (HU.out.trans H3.out) s6 wd).mono ?_
    rintro e w4 ⟨rb, fq, rfl, hR, hU4, hfq⟩
    have H4 := Lib.hid hU4
    have HR := Lib.hid hR
    have HG := Lib.hid hfq
    clear hU4 hR hfq
    go_wp2
    go_ret2
    exact ⟨qb, rb, heldN wd, leavesOf s6, fp, fq, rfl, ⟨HQ.out.upd H4.out, HR.out, fun c hc e => by have := HQ.out.lt c hc; have := HG.out c e; omega⟩, H3.out.trans H4.out, HF.out, fun c hc => by have := HG.out c hc; have := H3.out.size; omega⟩
  · go_enter Tryz.func7, Tryz.ntmps7
    go_wp2_with fail
    refine (mod_any sh 5 (by omega) (by omega) _).mono ?_
    rintro e w2 ⟨rfl, rfl⟩
    rw [HS5.out]
    go_wp2_with fail
    refine (mod_any wd 3 (by omega) (by omega) _).mono ?_
    rintro e w2 ⟨rfl, rfl⟩
    rw [HM.out]
    go_wp2_with fail
    refine (mod_any wd 7 (by omega) (by omega) _).mono ?_
    rintro e w2 ⟨rfl, rfl⟩
    rw [HM7.out]
    go_wp2_with fail
    refine (HNQ.out w HU.out sh m7).mono ?_
    rintro e w3 ⟨qb, fp, rfl, hQ, hU3, hfp⟩
    have H3 := Lib.hid hU3
    have HQ := Lib.hid hQ
    have HF := Lib.hid hfp
    clear hU3 hQ hfp
    go_wp2_with fail
    refine (HNR.out w3 (HU.out.trans H3.out) sh m7).mono ?_
    rintro e w4 ⟨rb, fq, rfl, hR, hU4, hfq⟩
    have H4 := Lib.hid hU4
    have HR := Lib.hid hR
    have HG := Lib.hid hfq
    clear hU4 hR hfq
    go_wp2
    go_ret2
    exact ⟨qb, rb, heldN m7, leavesOf sh, fp, fq, rfl, ⟨HQ.out.upd H4.out, HR.out, fun c hc e => by have := HQ.out.lt c hc; have := HG.out c e; omega⟩, H3.out.trans H4.out, HF.out, fun c hc => by have := HG.out c hc; have := H3.out.size; omega⟩
  · go_enter Tryz.func7, Tryz.ntmps7
    go_wp2_with fail
    refine (mod_any sh 5 (by omega) (by omega) _).mono ?_
    rintro e w2 ⟨rfl, rfl⟩
    rw [HS5.out]
    go_wp2_with fail
    refine (mod_any sh 6 (by omega) (by omega) _).mono ?_
    rintro e w2 ⟨rfl, rfl⟩
    rw [HS6.out]
    go_wp2_with fail
    refine (mod_any wd 3 (by omega) (by omega) _).mono ?_
    rintro e w2 ⟨rfl, rfl⟩
    rw [HM.out]
    go_wp2_with fail
    refine (mod_any wd 7 (by omega) (by omega) _).mono ?_
    rintro e w2 ⟨rfl, rfl⟩
    rw [HM7.out]
    go_wp2_with fail
    refine (HNQ.out w HU.out s6 m7).mono ?_
    rintro e w3 ⟨qb, fp, rfl, hQ, hU3, hfp⟩
    have H3 := Lib.hid hU3
    have HQ := Lib.hid hQ
    have HF := Lib.hid hfp
    clear hU3 hQ hfp
    go_wp2_with fail
    refine (HNR.out w3 (HU.out.trans H3.out) s6 m7).mono ?_
    rintro e w4 ⟨rb, fq, rfl, hR, hU4, hfq⟩
    have H4 := Lib.hid hU4
    have HR := Lib.hid hR
    have HG := Lib.hid hfq
    clear hU4 hR hfq
    go_wp2
    go_ret2
    exact ⟨qb, rb, heldN m7, leavesOf s6, fp, fq, rfl, ⟨HQ.out.upd H4.out, HR.out, fun c hc e => by have := HQ.out.lt c hc; have := HG.out c e; omega⟩, H3.out.trans H4.out, HF.out, fun c hc => by have := HG.out c hc; have := H3.out.size; omega⟩
end Go.Proofs.YtkepeolbpgnlbaaGreatDoor
