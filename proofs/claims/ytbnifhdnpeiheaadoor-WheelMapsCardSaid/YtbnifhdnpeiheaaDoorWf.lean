/-
  The walk of the wheel's Min. Condition: where a table of the library's lies.
-/
import Derived.Test.YtbnifhdnpeiheaaDoorWe
set_option linter.unusedVariables false
set_option linter.unusedSimpArgs false
namespace Go.Proofs.YtbnifhdnpeiheaaDoor
open Go.RowKit

theorem tab_upd {g : Nat} {tab : List Nat} {w w' : World} (h : TabAt g tab w) (hu : Upd [] w w') : TabAt g tab w' := by
  intro j hj
  have h1 := h j hj
  have hl : g < w.heap.size := by
    rcases Nat.lt_or_ge g w.heap.size with hlt | hge
    · exact hlt
    · simp [World.cell?, Array.getElem?_eq_none hge] at h1
  rw [hu.cell hl (by simp)]
  exact h1
theorem next0_any (x : Nat) (hx : x < 18446744073709551616) (w : World) (hT : TabAt 0 Lib.deBruijn64tab w) : Calls Tryd.prog 106 #[.int .u64 x, .int .i64 0] w (fun e w' => e = .returned (.int .i64 (nxtB x 0)) ∧ w = w') := by
  have := next_any x 0 hx (by omega) w hT
  simpa using this

def minI (x : It) (L : List It) : It := L.foldl (fun m y => if ahead y m = true then y else m) x
theorem minI_take (x : It) (L : List It) (i : Nat) (hi : i < L.length) : minI x (L.take (i + 1)) = if ahead (atI L i) (minI x (L.take i)) = true then atI L i else minI x (L.take i) := by
  unfold minI
  rw [List.take_succ_eq_append_getElem hi, List.foldl_append, ← atI_get L i hi]
  rfl

def MinAt (s : WS) (w1 : World) (lv : Value) (wr : World) : Prop := ∃ l : Nat, lv = .int .i64 l ∧ l ≤ 3 ∧ (∀ j, j < l → nxtB (s.mw j) 0 = -1) ∧ Upd [] w1 wr
def InAt (L : List It) (x : It) (g : Nat) (w1 : World) (iv : Value) (wr : World) : Prop :=
  ∃ i : Nat, iv = .int .i64 i ∧ i ≤ L.length ∧ Upd [] w1 wr ∧ Blk wr g 35 (itVs (minI x (L.take i)))

/-- What Min tells: the least of the first bucket that has an item. -/
def MinOf (s : WS) (v : Value) : Prop :=
  ((∀ l, l < 3 → nxtB (s.mw l) 0 = -1) ∧ v = itV zIt false) ∨
  ∃ l b : Nat, l < 3 ∧ (∀ j, j < l → nxtB (s.mw j) 0 = -1) ∧ nxtB (s.mw l) 0 = b ∧ v = itV (minI (atI (s.bk (l * 64 + b)).L 0) (s.bk (l * 64 + b)).L) true
def MinPost (s : WS) (w : World) (e : Ending) (w' : World) : Prop := ∃ v, e = .returned v ∧ MinOf s v ∧ Upd [] w w'

set_option maxRecDepth 100000 in
set_option maxHeartbeats 16000000 in
theorem wmin_any (wb : Nat) (s : WS) (w : World) (h : WhAt w wb s) (hT : TabAt 0 Lib.deBruijn64tab w) (hne : ∀ l b : Nat, l < 3 → nxtB (s.mw l) 0 = b → 0 < (s.bk (l * 64 + b)).L.length) :
    Calls Tryd.prog 66 #[.pointer (some ⟨wb, 0, none⟩)] w (MinPost s w) := by
  have HH := Lib.hid h
  have HT := Lib.hid hT
  have HNE := Lib.hid hne
  have lw := h.top.lt
  obtain ⟨w1, hw1⟩ : ∃ w1, w1 = w.alloc (.cells #[.int .u64 0, .int .i64 0] 35 (0, 0)) := ⟨_, rfl⟩
  have HU1 : Hid (Upd [] w w1) := by unfold Hid; rw [hw1]; exact (Upd.refl _ w).alloc _
  have HB1 : Hid (Blk w1 w.heap.size 35 [.int .u64 0, .int .i64 0]) := by unfold Hid; rw [hw1]; exact heap_one w _
  have HW1 := Lib.hid hw1
  clear h hT hne hw1
  go_enter Tryd.func66, Tryd.ntmps66
  go_wp2_with fail
  rw [← HW1.out]
  go_loopw [9] (fun lv wr => MinAt s w1 lv wr) (fun lv _ => 3 - (intOf lv).toNat)
  case atStart => exact ⟨0, rfl, by omega, fun j hj => by omega, Upd.refl _ _⟩
  case round =>
    obtain ⟨l, rfl, hl, hj, hU⟩ := hrel
    have HJ := Lib.hid hj
    have HU := Lib.hid hU
    have HUw : Hid (Upd [] w wr) := HU1.out.trans hU
    clear hj hU
    by_cases hlt : l < 3
    · have t1 : decide ((l : Int) < 3) = true := by simp; omega
      have b1 : (l : Int) < 3 := by omega
      have hT2 := (HH.out.up HUw.out).top
      have c1 := hT2.cell (o := 194 + l) (by omega)
      rw [wheelF_mw s hlt] at c1
      have lwr := hT2.lt
      have HT2 := Lib.hid hT2
      clear hT2
      go_wp2_with fail
      refine (next0_any (s.mw l) (HH.out.mw64 l hlt) wr (tab_upd HT.out HUw.out)).mono ?_
      rintro e w3 ⟨rfl, rfl⟩
      rcases nxtB_cases (s.mw l) 0 with hn | ⟨b, hn⟩
      · rw [hn]
        have HN := Lib.hid hn
        clear hn c1
        go_wp2
        exact ⟨⟨l + 1, by congr 1, by omega, fun j hj => by
          by_cases e : j = l
          · subst e; exact HN.out
          · exact HJ.out j (by omega), HU.out⟩, by first | (simp [intOf]; done) | (simp [intOf]; omega)⟩
      · rw [hn]
        have HN := Lib.hid hn
        have hb64 := (nxtB_some (HH.out.mw64 l hlt) hn).2.2.1
        have bb : (b : Int) < 64 := by omega
        have hpos := HNE.out l b hlt hn
        have hR := (HH.out.up HUw.out).rows (l * 64 + b) (by omega)
        have hsm := HH.out.small (l * 64 + b) (by omega)
        have c0 := HT2.out.cell (o := 2 + (l * 64 + b)) (by omega)
        rw [wheelF_bk s (by omega), ← Nat.add_assoc] at c0
        obtain ⟨L, hL⟩ : ∃ L, (s.bk (l * 64 + b)).L = L := ⟨_, rfl⟩
        obtain ⟨cap, hcap⟩ : ∃ cap, (s.bk (l * 64 + b)).cap = cap := ⟨_, rfl⟩
        have HL := Lib.hid hL
        rw [hL] at c0 hpos hR hsm
        rw [hcap] at c0 hR
        obtain ⟨n, hnn⟩ : ∃ n, L.length = n := ⟨_, rfl⟩
        rw [hnn] at c0 hpos hR hsm
        have HNN := Lib.hid hnn
        obtain ⟨g, hg, lg, x0, x1⟩ := hR.items hnn hpos
        rw [hg] at c0 hR
        rw [Nat.zero_mul] at x0
        rw [Nat.zero_mul, Nat.zero_add] at x1
        have HR : Hid (RowO w 35 2 (some ⟨g, 0, none⟩) n cap (L.flatMap itVs)) := by
          have := HH.out.rows (l * 64 + b) (by omega)
          rw [hL, hcap, hnn, hg] at this
          exact this
        have bn : (0 : Int) < (n : Int) := by omega
        obtain ⟨x, hx⟩ : ∃ x, atI L 0 = x := ⟨_, rfl⟩
        rw [hx] at x0 x1
        have HX := Lib.hid hx
        clear hn hR hL hcap hnn hg hx c1
        go_wp2_with fail
        obtain ⟨wo, rfl⟩ : ∃ wo : World, wo = wr := ⟨_, rfl⟩
        obtain ⟨w6, hw6⟩ : ∃ w6, w6 = wo.alloc (.cells #[.int .u64 x.1, .int .i64 x.2] 35 (0, 0)) := ⟨_, rfl⟩
        rw [← hw6]
        have HU6 : Hid (Upd [] w w6) := by unfold Hid; rw [hw6]; exact HUw.out.alloc _
        have HU16 : Hid (Upd [] w1 w6) := by unfold Hid; rw [hw6]; exact HU.out.alloc _
        have HB6 : Hid (Blk w6 wo.heap.size 35 (itVs x)) := by unfold Hid; rw [hw6]; exact heap_one wo _
        have hgr : w1.heap.size ≤ wo.heap.size := HU.out.size
        clear hw6 c0 x0 x1
        go_loopw [40] (fun iv wq => InAt L x wo.heap.size w1 iv wq) (fun iv _ => n - (intOf iv).toNat)
        case atStart => exact ⟨0, rfl, by omega, HU16.out, HB6.out⟩
        case round =>
          clear HB6 HU6 HU16
          obtain ⟨i, rfl, hi, hUq, hBq⟩ := hrel
          rw [HNN.out] at hi
          have HUq := Lib.hid hUq
          have HBq := Lib.hid hBq
          have HUqw : Hid (Upd [] w wr) := HU1.out.trans hUq
          obtain ⟨m, hm⟩ : ∃ m, minI x (L.take i) = m := ⟨_, rfl⟩
          rw [hm] at HBq hBq
          have HM := Lib.hid hm
          have q0 := hBq.cell (j := 0) rfl
          have q1 := hBq.cell (j := 1) rfl
          have lq := hBq.lt
          clear hUq hBq hm
          by_cases hlt2 : i < n
          · have t2 : decide (i < n) = true := by simp [hlt2]
            have bi : (i : Int) < (n : Int) := by omega
            obtain ⟨g', hg', lg', y0, y1⟩ := (HR.out.upd HUqw.out (by simp)).items HNN.out hlt2
            obtain rfl : g = g' := by simpa using hg'
            obtain ⟨y, hy⟩ : ∃ y, atI L i = y := ⟨_, rfl⟩
            rw [hy] at y0 y1
            have HTK : Hid (minI x (L.take (i + 1)) = if ahead y m = true then y else m) := by unfold Hid; rw [minI_take x L i (by rw [HNN.out]; exact hlt2), hy, HM.out]
            clear hg' hy
            go_wp2_with fail
            refine (ahead_any y m _).mono ?_
            rintro e w7 ⟨rfl, hU7⟩
            have hU67 : Upd [] wr w7 := ((Upd.refl [] wr).alloc _).trans hU7
            have hX7 := HBq.out.upd hU67 (by simp)
            have hY7 := (Blk.new wr 35 [.int .u64 y.1, .int .i64 y.2]).upd hU7 (by simp)
            have p0 := hX7.cell (j := 0) rfl
            have p1 := hX7.cell (j := 1) rfl
            have z0 := hX7.free 0
            have z1 := hX7.free 1
            have lx7 := hX7.lt
            have r0 := hY7.cell (j := 0) rfl
            have r1 := hY7.cell (j := 1) rfl
            have ly7 := hY7.lt
            have HX7 := Lib.hid hX7
            have HU7 : Hid (Upd [] w1 w7) := HUq.out.trans hU67
            have hne : (wr.heap.size = wo.heap.size) = False := by simp; omega
            clear hU7 hU67 hX7 hY7 q0 q1 y0 y1
            cases ha : ahead y m with
            | true =>
              have HTT : Hid (minI x (L.take (i + 1)) = y) := by unfold Hid; rw [HTK.out, ha]; rfl
              clear ha
              go_wp2
              exact ⟨⟨i + 1, by congr 1, by rw [HNN.out]; omega, (HU7.out.setCell (.inr hgr) _).setCell (.inr hgr) _, by rw [HTT.out]; exact (HX7.out.set 0 _).set 1 _⟩, by have := HNN.out; first | (simp [intOf]; done) | (simp [intOf]; omega)⟩
            | false =>
              have HTT : Hid (minI x (L.take (i + 1)) = m) := by unfold Hid; rw [HTK.out, ha]; rfl
              clear ha
              go_wp2
              exact ⟨⟨i + 1, by congr 1, by rw [HNN.out]; omega, HU7.out, by rw [HTT.out]; exact HX7.out⟩, by have := HNN.out; first | (simp [intOf]; done) | (simp [intOf]; omega)⟩
          · have t2 : decide (i < n) = false := by simp [hlt2]
            have HML : Hid (m = minI x L) := by unfold Hid; rw [← HM.out, List.take_of_length_le (by rw [HNN.out]; omega)]
            have hB1 := HB1.out.upd HUq.out (by simp)
            have k0 := hB1.cell (j := 0) rfl
            have k1 := hB1.cell (j := 1) rfl
            have z0 := hB1.free 0
            have z1 := hB1.free 1
            have lk := hB1.lt
            clear hB1
            go_wp2
            obtain ⟨s0, s1⟩ := two_set (w := wr) rfl rfl k0 k1 (.int .u64 m.1) (.int .i64 m.2)
            refine bodyPost_ret (v := itV m true) (by simp [results, Tryd.results66, go_sem, s0, s1, itV]) rfl ⟨_, rfl, .inr ⟨l, b, hlt, HJ.out, HN.out, by rw [HML.out, HL.out, HX.out]⟩, (HUqw.out.setCell (.inr (by simp)) _).setCell (.inr (by simp)) _⟩
    · have t1 : decide ((l : Int) < 3) = false := by simp; omega
      have hB1 := HB1.out.upd HU.out (by simp)
      have k0 := hB1.cell (j := 0) rfl
      have k1 := hB1.cell (j := 1) rfl
      have z0 := hB1.free 0
      have z1 := hB1.free 1
      have lk := hB1.lt
      clear hB1
      go_wp2
      obtain ⟨s0, s1⟩ := two_set (w := wr) rfl rfl k0 k1 (.int .u64 0) (.int .i64 0)
      refine bodyPost_ret (v := itV zIt false) (by simp [results, Tryd.results66, go_sem, s0, s1, itV, zIt]) rfl ⟨_, rfl, .inl ⟨fun j hj => HJ.out j (by omega), rfl⟩, (HUw.out.setCell (.inr (by simp)) _).setCell (.inr (by simp)) _⟩
end Go.Proofs.YtbnifhdnpeiheaaDoor
