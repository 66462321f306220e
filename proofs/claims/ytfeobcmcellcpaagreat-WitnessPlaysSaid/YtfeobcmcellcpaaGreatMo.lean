/-
  The walks of Plain at ints, and of law27's awake. No condition.
-/
import Derived.Test.YtfeobcmcellcpaaGreatMn
import Derived.Test.YtfeobcmcellcpaaGreatMi0
set_option linter.unusedVariables false
set_option linter.unusedSimpArgs false
namespace Go.Proofs.YtfeobcmcellcpaaGreat
open Go.RowKit

theorem Blk.sl {w : World} {b : Nat} {ty : TypeId} {cs : List Value} (h : Blk w b ty cs) (size n cap : Nat) (hl : cs.length = n * size) (hn : n ≤ maxLen) : SlAt w size (.slice (some ⟨b, 0, none⟩) n cap) n cs :=
  ⟨_, _, rfl, hn, hl, .inr ⟨b, 0, rfl, h.lt, fun j u hj => by rw [Nat.zero_add]; exact h.cell hj⟩⟩
theorem ints_at {w : World} {v : Value} {n : Nat} {L : List Int} (h : SlAt w 1 v n (L.flatMap iVs)) : L.length = n ∧ n ≤ maxLen ∧ ∃ ao cap, v = .slice ao n cap ∧ ∀ i, i < n → ∃ b off x, ao = some ⟨b, off, none⟩ ∧ b < w.heap.size ∧ L[i]? = some x ∧ w.cell? ⟨b, off + i, none⟩ = some (.int .i64 x) := by
  obtain ⟨h1, h2, ao, cap, rfl, h3⟩ := h.get iVs 1 iVs_len (by omega)
  refine ⟨h1, h2, ao, cap, rfl, fun i hi => ?_⟩
  rcases h3 with h3 | ⟨b, off, rfl, hb, hc⟩
  · omega
  · obtain ⟨x, hx⟩ : ∃ x, L[i]? = some x := ⟨_, List.getElem?_eq_getElem (by omega)⟩
    have := hc i x hx 0 _ rfl
    rw [Nat.mul_one, Nat.add_zero] at this
    exact ⟨b, off, x, rfl, hb, hx, this⟩
theorem iplainf_any (x : Int) (w : World) : Calls Tryz.prog 71 #[.int .i64 x, .int .i64 x] w (fun e w' => e = .returned (.bool true) ∧ w = w') := by
  go_enter Tryz.func71, Tryz.ntmps71
  go_wp2
  go_ret
  exact ⟨rfl, rfl⟩
def ISameAt (w : World) (n : Nat) (iv : Value) (wr : World) : Prop := ∃ i : Nat, iv = .int .i64 i ∧ i ≤ n ∧ Upd [] w wr

set_option maxHeartbeats 4000000 in
theorem isame_any {L : List Int} {v1 v2 : Value} {n : Nat} {w : World} (h1 : SlAt w 1 v1 n (L.flatMap iVs)) (h2 : SlAt w 1 v2 n (L.flatMap iVs)) :
    Calls Tryz.prog 70 #[v1, v2, .func (.func 71) #[] #[]] w (RetUpd [] w (.bool true)) := by
  have H1 := Lib.hid h1
  have H2 := Lib.hid h2
  obtain ⟨hl1, hb1, a1, c1, rfl, -⟩ := ints_at h1
  obtain ⟨-, -, a2, c2, rfl, -⟩ := ints_at h2
  have bn : n ≤ 9223372036854775807 := hb1
  have t0 : ((n : Int) == (n : Int)) = true := by simp
  clear h1 h2 hl1 hb1
  go_enter Tryz.func70, Tryz.ntmps70
  go_wp2
  go_loopw [7] (fun iv wr => ISameAt w n iv wr) (fun iv _ => n - (intOf iv).toNat)
  case atStart => exact ⟨0, rfl, by omega, Upd.refl _ _⟩
  case round =>
    obtain ⟨i, rfl, hi, hU⟩ := hrel
    have HU := Lib.hid hU
    clear hU
    by_cases hlt : i < n
    · have t1 : decide (i < n) = true := by simp [hlt]
      have b1 : (i : Int) < (n : Int) := by omega
      obtain ⟨-, -, _, _, e1, k1⟩ := ints_at (H1.out.upd HU.out)
      cases e1
      obtain ⟨-, -, _, _, e2, k2⟩ := ints_at (H2.out.upd HU.out)
      cases e2
      obtain ⟨g1, o1, x, rfl, l1, hx, x0⟩ := k1 i hlt
      obtain ⟨g2, o2, y, rfl, l2, hy, y0⟩ := k2 i hlt
      rw [hx] at hy
      cases hy
      have fin : i + 1 ≤ 9223372036854775807 := by omega
      clear k1 k2 hx
      go_wp2
      go_quiet (first | (go_at_call 71; exact Calls.quiet_of_same ((iplainf_any x _).mono (fun _ _ h => ⟨h.1, h.2.symm⟩))))
      have hU2 := HU.out.trans ((Upd.refl [] wr).drewN nq)
      go_wp2
      exact ⟨⟨i + 1, by congr 1, by omega, hU2⟩, by first | (simp [intOf]; done) | (simp [intOf]; omega)⟩
    · have t1 : decide (i < n) = false := by simp; omega
      go_wp2
      go_ret
      exact ⟨rfl, HU.out⟩
theorem iplain_any {L : List Int} {v1 v2 : Value} {n : Nat} {w : World} (h1 : SlAt w 1 v1 n (L.flatMap iVs)) (h2 : SlAt w 1 v2 n (L.flatMap iVs)) :
    Calls Tryz.prog 37 #[v1, v2] w (RetUpd [] w (.bool true)) := by
  have H1 := isame_any h1 h2
  obtain ⟨-, -, a1, c1, rfl, -⟩ := ints_at h1
  obtain ⟨-, -, a2, c2, rfl, -⟩ := ints_at h2
  clear h1 h2
  go_enter Tryz.func37, Tryz.ntmps37
  go_wp2_with fail
  refine H1.mono ?_
  rintro e w2 ⟨rfl, hU⟩
  go_wp2
  go_ret
  exact ⟨rfl, hU⟩
/-! ### awake -/
def awP (b : Nat) : Pl := ⟨⟨1, 1, 1, 0, 1⟩, [⟨.slice (some ⟨b, 0, none⟩) 2 2, [⟨6, 0, 0, 0⟩, ⟨5, 0, 2, 0⟩]⟩]⟩
def awX (n : Int) : Pt := ⟨3, 0, 0, ⟨0, [], n, 0⟩, .slice none 0 0⟩
def awD : Dn := ⟨0, 0, ⟨0, 0, 0, 0⟩, ⟨0, [], 0, 0⟩, .slice none 0 0, 0, 5⟩
theorem aw_call (b : Nat) : callP (awP b).L ⟨0, 0, 1, ⟨0, [], 0, 0⟩, .slice none 0 0⟩ = some ⟨4, 0, 0, 0⟩ := rfl
theorem aw_call0 (b : Nat) (n : Int) : callP (awP b).L (awX n) = some ⟨6, 0, 0, 0⟩ := rfl
theorem aw_plays (b : Nat) : ∃ m, playsM (awP b) [awX 0] = some m := ⟨_, rfl⟩
theorem aw_not (b : Nat) : (playsM (awP b) [awX 1]).isSome = false := rfl
theorem aw_within : withinP [awX 0] [awD] = true := by decide +kernel
theorem aw_whole (b : Nat) : wholeL (awP b).L [awX 0] = [1] := rfl
theorem aw_do (W : World) (c : Cf) : DoOk W c (fun k => k.op = 6) := fun w mb m G k hm hk hn => by
  have e : doM c m k = statM m := by unfold doM; simp [hk]
  rw [e]
  exact ⟨mdo_stats hm k hk, by show m.n ≤ m.n + 16; omega⟩
theorem aw_ok (b : Nat) (n : Int) : ∀ x ∈ [awX n], ∀ k, callP (awP b).L x = some k → k.op = 6 := by
  intro x hx k hk
  simp only [List.mem_cons, List.not_mem_nil, or_false] at hx
  subst hx
  rw [aw_call0] at hk
  cases hk
  rfl
end Go.Proofs.YtfeobcmcellcpaaGreat
