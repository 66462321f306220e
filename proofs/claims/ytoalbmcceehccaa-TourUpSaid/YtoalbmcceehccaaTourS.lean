/-
  The walk of the reference's Node at a node that there is. No condition.
-/
import Derived.Test.YtoalbmcceehccaaTourR
namespace Go.Proofs.Ytoalbmcceehccaa
open Go.RowKit

theorem scan_start (r : Rf) (size k : Nat) (fin : Int) (w : World) (h1 : 1 ≤ r.has.length) (hf : scanF r.has r.xs size k r.has.length 0 (-1) = fin) : ScanAt r size k fin w (.int .i64 (-1)) (.int .i64 0) w :=
  ⟨0, -1, rfl, rfl, by omega, by omega, by omega, Upd.refl _ _, hf⟩
theorem scan_keep {r : Rf} {size k : Nat} {fin : Int} {w wr : World} {i : Nat} {best : Int} (hi : i < r.has.length) (hb : -1 ≤ best) (hb2 : best < r.has.length) (hU : Upd [] w wr)
    (hf : scanF r.has r.xs size k (r.has.length - i) i best = fin) (ht : takesF r.has r.xs size k i best = false) : ScanAt r size k fin w (.int .i64 best) (.int .i64 ((i : Int) + 1)) wr :=
  ⟨i + 1, best, by congr 1, rfl, by omega, hb, hb2, hU, by rw [scanF_step _ _ _ _ _ _ _ hi, ht] at hf; exact hf⟩
theorem scan_take {r : Rf} {size k : Nat} {fin : Int} {w wr : World} {i : Nat} {best : Int} (hi : i < r.has.length) (hU : Upd [] w wr)
    (hf : scanF r.has r.xs size k (r.has.length - i) i best = fin) (ht : takesF r.has r.xs size k i best = true) : ScanAt r size k fin w (.int .i64 i) (.int .i64 ((i : Int) + 1)) wr :=
  ⟨i + 1, i, by congr 1, rfl, by omega, by omega, by omega, hU, by rw [scanF_step _ _ _ _ _ _ _ hi, ht] at hf; exact hf⟩
theorem takes_no1 {has : List Bool} {xs : List It} {size k i : Nat} {best : Int} (h : up (size + i) k ≠ k) : takesF has xs size k i best = false := by simp [takesF, h]
theorem takes_no2 {has : List Bool} {xs : List It} {size k i : Nat} {best : Int} (h : has.getD i false = false) : takesF has xs size k i best = false := by unfold takesF; rw [h]; simp
theorem takes_yes {has : List Bool} {xs : List It} {size k i : Nat} {best : Int} (h : up (size + i) k = k) (h2 : has.getD i false = true) (h3 : best < 0) : takesF has xs size k i best = true := by unfold takesF; rw [h2]; simp [h, h3]
theorem takes_as {has : List Bool} {xs : List It} {size k i : Nat} {best : Int} (h : up (size + i) k = k) (h2 : has.getD i false = true) (h3 : ¬ best < 0) : takesF has xs size k i best = ahead (xAt xs i) (xAt xs best) := by unfold takesF; rw [h2]; simp [h, h3]

set_option maxHeartbeats 16000000 in
theorem rnode_in (r : Rf) (k : Nat) (w : World) (h : RTAt w r) (hk1 : 1 ≤ k) (hk2 : k < 2 * sizeOf2 r.has.length) :
    Calls Try.prog 15 #[.pointer (some ⟨r.p, 0, none⟩), .int .i64 k] w (RetUpd [] w (.int .i64 (scanF r.has r.xs (sizeOf2 r.has.length) k r.has.length 0 (-1)))) := by
  have h0 := h.top.cell (j := 0) rfl
  have h1 := h.top.cell (j := 1) rfl
  have small := h.small
  have lp := h.top.lt
  have lh := h.hrow.lt
  have lx := h.xrow.lt
  have HR := Lib.hid h
  obtain ⟨fin, hfin⟩ : ∃ fin, scanF r.has r.xs (sizeOf2 r.has.length) k r.has.length 0 (-1) = fin := ⟨_, rfl⟩
  rw [hfin]
  obtain ⟨n, hn⟩ : ∃ n, r.has.length = n := ⟨_, rfl⟩
  rw [hn] at h0 h1 small
  have one : 1 ≤ n := by rw [← hn]; exact h.one
  have HN := Lib.hid hn
  have HF := Lib.hid hfin
  have HK2 := Lib.hid hk2
  clear hn h hk2 hfin
  go_enter Try.func15, Try.ntmps15
  go_wp2
  go_loop [5] (fun v => SizeIs n v) (fun v => 16 - (intOf v).toNat)
  case atStart => exact ⟨1, rfl, .inl rfl, .inl rfl⟩
  case round =>
    obtain ⟨s, rfl, hp, hs⟩ := hrel
    have h16 : s ≤ 16 := by unfold Pow at hp; omega
    have hs1 : 1 ≤ s := by unfold Pow at hp; omega
    have HP := Lib.hid hp
    have HS := Lib.hid hs
    clear hp hs
    by_cases hsn : s < n
    · go_wp2
      exact ⟨⟨2 * s, by congr 1, HP.out.step small hsn, .inr (by omega)⟩, by simp [intOf]; omega⟩
    · have hz : Hid (s = sizeOf2 n) := HP.out.done HS.out (by omega) small
      have d0 : decide ((k : Int) < 1) = false := by simp; omega
      have hks : k < 2 * s := by have := HK2.out; rw [HN.out, ← hz.out] at this; exact this
      have d1 : decide (2 * (s : Int) ≤ k) = false := by simp; omega
      go_wp2
      have hF2 : Hid (scanF r.has r.xs s k r.has.length 0 (-1) = fin) := by have := HF.out; rw [HN.out, ← hz.out, ← HN.out] at this; exact this
      clear HK2 HP HS d0 d1 HF
      go_loopw [6, 7] (fun bv iv wr => ScanAt r s k fin w bv iv wr) (fun _ iv _ => n - (intOf iv).toNat)
      case atStart => exact scan_start r s k fin w (by rw [HN.out]; exact one) hF2.out
      case round =>
        clear hF2
        obtain ⟨i, best, rfl, rfl, hi, hb, hb2, hU, hf⟩ := hrel
        rw [HN.out] at hi hb2
        have c0 : wr.cell? ⟨r.p, 0, none⟩ = some (.slice (some ⟨r.hb, 0, none⟩) n n) := by rw [hU.cell lp (by simp)]; exact h0
        have c1 : wr.cell? ⟨r.p, 1, none⟩ = some (.slice (some ⟨r.xb, 0, none⟩) n n) := by rw [hU.cell lp (by simp)]; exact h1
        have HU := Lib.hid hU
        have hF := Lib.hid hf
        clear hU hf
        by_cases hin : i < n
        · have b1 : wr.cell? ⟨r.hb, i, none⟩ = some (.bool (r.has.getD i false)) := by
            rw [HU.out.cell lh (by simp)]
            have := HR.out.hrow
            rw [HN.out] at this
            exact has_row this hin
          have xi := item_rows (by have := HR.out.xrow; rw [HN.out] at this; exact this) (i : Int) (by omega) (by omega)
          rw [Int.toNat_natCast] at xi
          have x0 : wr.cell? ⟨r.xb, i * 2, none⟩ = some (.int .u64 (xAt r.xs i).1) := by rw [HU.out.cell lx (by simp)]; exact xi.1
          have x1 : wr.cell? ⟨r.xb, i * 2 + 1, none⟩ = some (.int .i64 (xAt r.xs i).2) := by rw [HU.out.cell lx (by simp)]; exact xi.2
          clear xi
          obtain ⟨u, hu⟩ : ∃ u, up (s + i) k = u := ⟨_, rfl⟩
          have hu32 : s + i ≤ 32 := by omega
          have Hu := Lib.hid hu
          obtain ⟨hasi, hhas⟩ : ∃ b, r.has.getD i false = b := ⟨_, rfl⟩
          rw [hhas] at b1
          have HH := Lib.hid hhas
          clear hu hhas
          go_wp2
          go_loop [8] (fun v => UpIs k u v) (fun v => (intOf v).toNat)
          case atStart => exact ⟨s + i, by congr 1, hu32, Hu.out⟩
          case round =>
            obtain ⟨m, rfl, hm32, hm⟩ := hrel
            have Hm := Lib.hid hm
            clear hm
            by_cases hkm : k < m
            · go_wp2
              exact ⟨⟨m / 2, by congr 1, by omega, by rw [← up_half m k hk1 hkm]; exact Hm.out⟩, by simp [intOf]; omega⟩
            · have hmu : Hid (m = u) := by have := Hm.out; rw [up_le m k (by omega)] at this; exact this
              have hmk : m ≤ k := by omega
              clear hkm Hm
              have hi' : i < r.has.length := by rw [HN.out]; exact hin
              have hb2' : best < r.has.length := by rw [HN.out]; exact hb2
              have i0 : (0 : Int) ≤ (i : Int) := by omega
              have i1 : (i : Int) < (n : Int) := by omega
              by_cases hmk2 : m = k
              · have g1 : ((m : Int) == (k : Int)) = true := by simp [hmk2]
                have hup : Hid (up (s + i) k = k) := Hu.out.trans (hmu.out.symm.trans hmk2)
                clear hmk2
                cases hasi with
                | false =>
                  go_wp2_with fail
                  go_quiet (fail)
                  go_wp2
                  exact ⟨scan_keep hi' hb hb2' (HU.out.drewN _) hF.out (takes_no2 HH.out), by simp [intOf]; omega⟩
                | true =>
                  by_cases hbn : best < 0
                  · have g2 : decide (best < 0) = true := by simp; omega
                    go_wp2_with fail
                    go_quiet (fail)
                    go_wp2
                    exact ⟨scan_take hi' (HU.out.drewN _) hF.out (takes_yes hup.out HH.out hbn), by simp [intOf]; omega⟩
                  · have g2 : decide (best < 0) = false := by simp; omega
                    have be := item_rows (by have := HR.out.xrow; rw [HN.out] at this; exact this) best (by omega) (by omega)
                    have y0 : wr.cell? ⟨r.xb, best.toNat * 2, none⟩ = some (.int .u64 (xAt r.xs best).1) := by rw [HU.out.cell lx (by simp)]; exact be.1
                    have y1 : wr.cell? ⟨r.xb, best.toNat * 2 + 1, none⟩ = some (.int .i64 (xAt r.xs best).2) := by rw [HU.out.cell lx (by simp)]; exact be.2
                    have HT := Lib.hid (takes_as (xs := r.xs) hup.out HH.out hbn)
                    have j0 : 0 ≤ best := by omega
                    obtain ⟨xa, hxa⟩ : ∃ x, xAt r.xs i = x := ⟨_, rfl⟩
                    obtain ⟨xb, hxb⟩ : ∃ x, xAt r.xs best = x := ⟨_, rfl⟩
                    have HXA := Lib.hid hxa
                    have HXB := Lib.hid hxb
                    rw [hxa] at x0 x1
                    rw [hxb] at y0 y1
                    have lpw := Nat.lt_of_lt_of_le lp HU.out.size
                    have lhw := Nat.lt_of_lt_of_le lh HU.out.size
                    have lxw := Nat.lt_of_lt_of_le lx HU.out.size
                    clear be hbn hxa hxb hb
                    go_wp2_with fail
                    go_region_held3 (fun w' => Upd [] wr w' ∧ ∀ (b o : Nat), b < wr.heap.size → b ∉ ([] : List Nat) → w'.cell? ⟨b, o, none⟩ = wr.cell? ⟨b, o, none⟩)
                      (first | exact Held.init _ _ | exact Held.step (by assumption) hB) (first | (go_at_call 16; refine (rahead_any xa xb _).mono ?_; rintro e w' ⟨rfl, hB⟩))
                    have HT' := HT.out
                    rw [HXA.out, HXB.out] at HT'
                    cases ht : ahead xa xb <;> rw [ht] at HT' <;> go_wp2
                    · exact ⟨scan_keep hi' (by omega) hb2' (HU.out.trans ((Upd.refl [] wr).drew.trans hB)) hF.out HT', by simp [intOf]; omega⟩
                    · exact ⟨scan_take hi' (HU.out.trans ((Upd.refl [] wr).drew.trans hB)) hF.out HT', by simp [intOf]; omega⟩
              · have g1 : ((m : Int) == (k : Int)) = false := by simp; omega
                have hup : Hid (up (s + i) k ≠ k) := fun e => hmk2 (hmu.out.trans (Hu.out.symm.trans e))
                clear hmk2
                go_wp2_with fail
                go_quiet (fail)
                go_wp2
                exact ⟨scan_keep hi' hb hb2' (HU.out.drewN _) hF.out (takes_no1 hup.out), by simp [intOf]; omega⟩
        · go_wp2
          go_ret
          have : i = n := by omega
          subst this
          have hF' := hF.out
          rw [HN.out, Nat.sub_self] at hF'
          exact ⟨ret_int hF', HU.out⟩
end Go.Proofs.Ytoalbmcceehccaa
