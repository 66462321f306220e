/-
  The walk of HeapPlays. No condition.
-/
import Derived.Test.YtilibinmbmgedaaHeapW
namespace Go.Proofs.Ytilibinmbmgedaa
open Go.RowKit

theorem deed_cells {w : World} {v : Value} {n : Nat} {D : Nat → Nat → Int} (h : RowsAt w [.i64, .u64, .i64] v n D) : ∃ ao cap, v = .slice ao n cap ∧ n ≤ maxLen ∧ (n = 0 ∨ ∃ b off, ao = some ⟨b, off, none⟩ ∧ b < w.heap.size ∧
    ∀ i, i < n → w.cell? ⟨b, off + i * 3, none⟩ = some (.int .i64 (D i 0)) ∧ w.cell? ⟨b, off + i * 3 + 1, none⟩ = some (.int .u64 (D i 1)) ∧ w.cell? ⟨b, off + i * 3 + 2, none⟩ = some (.int .i64 (D i 2)) ∧ 0 ≤ D i 1) := by
  obtain ⟨ao, cap, hv, hm, h | ⟨b, off, ha, hb, hc⟩⟩ := h
  · exact ⟨ao, cap, hv, hm, .inl h⟩
  · exact ⟨ao, cap, hv, hm, .inr ⟨b, off, ha, hb, fun i hi => ⟨by simpa using (hc i hi 0 .i64 rfl).1, by simpa [Nat.add_assoc] using (hc i hi 1 .u64 rfl).1, by simpa [Nat.add_assoc] using (hc i hi 2 .i64 rfl).1, (wf_u64_bd (hc i hi 1 .u64 rfl).2).1⟩⟩⟩

theorem PR.start {W w : World} {hb : Nat} {fp : List Nat} (h : HG W hb [] fp w) : PR W hb w.heap.size [] fp [w.heap.size] (w.alloc (.cells #[.slice none 0 0] 28)) :=
  ⟨h.upd ((Upd.refl [] w).alloc _), IG.new (Blk.new w 28 [.slice none 0 0]) h.2.2.size, fun c hc e => by have := h.1.lt c hc; simp at e; omega⟩

def PlaysAt (W : World) (hb b c : Nat) (iv : Value) (wr : World) : Prop := ∃ (i : Nat) (L : List It) (fp fq : List Nat), iv = .int .i64 i ∧ i ≤ c ∧ L.length ≤ i ∧ PR W hb b L fp fq wr

set_option maxRecDepth 100000 in
set_option maxHeartbeats 32000000 in
theorem hplays_walk (v : Value) (m : Nat) (D : Nat → Nat → Int) (W : World) (hv : RowsAt W [.i64, .u64, .i64] v m D) :
    Calls Try.prog 3 #[v] W (RetUpd [] W (.bool true)) := by
  obtain ⟨ao, cap, rfl, hmm, hD⟩ := deed_cells hv
  unfold maxLen at hmm
  have HD := Lib.hid hD
  clear hD hv
  obtain ⟨c, hc⟩ : ∃ c : Nat, min m 80 = c := ⟨_, rfl⟩
  have hcm : c ≤ m := by omega
  have hc80 : c ≤ 80 := by omega
  have HC : Hid (min m 80 = c) := hc
  clear hc
  go_enter Try.func3, Try.ntmps3
  go_wp2_with fail
  refine (HG.new W).mono ?_
  rintro e1 w1 ⟨hb, fp0, rfl, hG, -⟩
  have HG0 := Lib.hid hG
  clear hG
  go_wp2_with fail
  refine (awake4_any _).mono ?_
  rintro e w2 ⟨rfl, hU⟩
  have HP2 : Hid (PR W hb w1.heap.size [] fp0 [w1.heap.size] w2) := (PR.start HG0.out).upd hU
  clear hU HG0
  obtain ⟨b, hb1⟩ : ∃ b, w1.heap.size = b := ⟨_, rfl⟩
  rw [hb1] at HP2 ⊢
  clear hb1
  go_wp2
  go_loopw [5] (fun iv wr => PlaysAt W hb b c iv wr) (fun iv _ => c - (intOf iv).toNat)
  case atStart => exact ⟨0, [], fp0, _, rfl, by omega, by simp, HP2.out⟩
  case round =>
    clear HP2
    obtain ⟨i, L, fp, fq, rfl, hi, hLi, hP⟩ := hrel
    have HP := Lib.hid hP
    clear hP
    by_cases hlt : i < c
    · rcases HD.out with h0 | ⟨bd, off, rfl, hb1, hcc⟩
      · omega
      obtain ⟨c0, c1, c2, hk0⟩ := hcc i (by omega)
      rw [← HP.out.1.2.2.cell hb1 (by simp)] at c0 c1 c2
      have him : i < m := by omega
      have t1 : decide (i < m) = true := by simp; omega
      have t2 : decide ((i : Int) < 80) = true := by simp; omega
      have b1 : (i : Int) < (m : Int) := by omega
      obtain ⟨k, hk⟩ : ∃ k, D i 0 = k := ⟨_, rfl⟩
      obtain ⟨key, hkey⟩ : ∃ k, D i 1 = k := ⟨_, rfl⟩
      obtain ⟨id, hid⟩ : ∃ k, D i 2 = k := ⟨_, rfl⟩
      rw [hk] at c0
      rw [hkey] at c1 hk0
      rw [hid] at c2
      clear hcc hb1 hk hkey hid
      go_wp2_with fail
      go_region_with (first | (go_at_call 9; refine (step4_any W hb b L fp fq k key id hk0 _ (HP.out.upd (Upd.refl [] wr).drew) (by omega)).mono ?_; rintro e w6 ⟨rfl, L6, fp6, fq6, hP6, -, -, -, hl6⟩; have HP6 := Lib.hid hP6; obtain ⟨ao6, cap6, q0, -, lb6, -⟩ := hP6.2.1.cell; obtain ⟨n6, hn6⟩ : ∃ n, L6.length = n := ⟨_, rfl⟩; rw [hn6] at q0 hl6; have HN6 := Lib.hid hn6; clear hP6 hn6) | (go_at_call 10; refine HP6.out.1.len.mono ?_; rintro e w7 ⟨rfl, -, hU7⟩; rw [HN6.out]; have q7 := (hU7.cell lb6 (by simp) 0).trans q0; have lb7 := Nat.lt_of_lt_of_le lb6 hU7.size; have HU7 := Lib.hid hU7; clear hU7))
      all_goals
        go_wp2
        exact ⟨⟨i + 1, L6, fp6, fq6, by congr 1, by omega, by have := HN6.out; omega, HP6.out.upd HU7.out⟩, by first | (simp [intOf]; done) | (simp [intOf]; omega)⟩
    · have t1 : Hid (decide (i < m) = true ∧ decide ((i : Int) < 80) = false ∨ decide (i < m) = false) := by
        have := HC.out
        unfold Hid
        by_cases h : i < m
        · left; exact ⟨by simp; omega, by simp; omega⟩
        · right; simp; omega
      obtain ⟨ao6, cap6, q0, hR, lb6, -⟩ := HP.out.2.1.cell
      obtain ⟨n, hn⟩ : ∃ n, L.length = n := ⟨_, rfl⟩
      rw [hn] at q0 hR
      have HN := Lib.hid hn
      have HR := Lib.hid hR
      have hn80 : n ≤ 80 := by omega
      clear hn hR hLi
      rcases t1.out with ⟨t2, t3⟩ | t2
      all_goals
        clear t1
        go_wp2_with fail
        go_region_held3 (fun w2 => Upd [] wr w2 ∧ ∀ (b o : Nat), b < wr.heap.size → b ∉ ([] : List Nat) → w2.cell? ⟨b, o, none⟩ = wr.cell? ⟨b, o, none⟩)
          (first | exact Held.init _ _ | assumption | exact Held.step (by assumption) hBb | exact Held.step (by assumption) hBa)
          (first | (go_at_call 12; refine (heap_all hb L fp _ (HP.out.upd (Upd.refl [] wr).drew).1.1 (by have := HN.out; omega)).mono ?_; rintro e w6 ⟨aoa, capa, rfl, hRa, -, hBa⟩; rw [HN.out] at hRa ⊢; have HRa := Lib.hid hRa; clear hRa) | (go_at_call 11; refine (plain_any aoa ao6 n capa cap6 L _ HN.out (by omega) HRa.out (HR.out.upd ((Upd.refl [] wr).drew.trans hBa) (by simp))).mono ?_; rintro e w7 ⟨rfl, hBb⟩))
        go_wp2
        go_ret
        exact ⟨rfl, ((HP.out.1.2.2.trans ((Upd.refl [] wr).drew.trans hBa)).trans hBb)⟩
end Go.Proofs.Ytilibinmbmgedaa
