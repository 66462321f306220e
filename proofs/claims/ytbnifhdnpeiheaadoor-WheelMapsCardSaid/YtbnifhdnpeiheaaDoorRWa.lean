/-
  The document's wheel in memory: its items, base and width. No condition.
-/
import Derived.Test.YtbnifhdnpeiheaaDoorItemsF
import Derived.Test.YtbnifhdnpeiheaaDoorWr
set_option linter.unusedVariables false
set_option linter.unusedSimpArgs false
namespace Go.Proofs.YtbnifhdnpeiheaaDoor
open Go.RowKit

structure RAt (w : World) (b base wd : Nat) (far : Bool) (ao : Option Addr) (cap : Nat) (L : List It) : Prop where
  its : ItsAt w b 0 ao cap L
  blk : Blk w b 62 [.slice ao L.length cap, .int .u64 base, .int .i64 wd, .bool far]
  b64 : base < 18446744073709551616
  wid : heldN (wd : Int) = wd
theorem RAt.up {w w' : World} {b base wd : Nat} {far : Bool} {ao : Option Addr} {cap : Nat} {L : List It} (h : RAt w b base wd far ao cap L) {S : List Nat} (hu : Upd S w w') (h1 : b ∉ S) (h2 : ∀ c ∈ blkO ao, c ∉ S) : RAt w' b base wd far ao cap L :=
  ⟨h.its.upd hu h1 h2, h.blk.upd hu h1, h.b64, h.wid⟩
/-- What a deed leaves of it. -/
def RGo (b base wd : Nat) (far : Bool) (ao : Option Addr) (L : List It) (w w' : World) : Prop :=
  ∃ ao' cap', RAt w' b base wd far ao' cap' L ∧ (∀ c ∈ blkO ao', c ∈ blkO ao ∨ w.heap.size ≤ c) ∧ Upd [b] w w'
theorem RAt.go {w w' : World} {b base wd : Nat} {far : Bool} {ao : Option Addr} {cap : Nat} {L : List It} (h : RAt w b base wd far ao cap L) (hu : Upd [] w w') : RGo b base wd far ao L w w' :=
  ⟨ao, cap, h.up hu (by simp) (by simp), fun c hc => .inl hc, hu.nil⟩
theorem RGo.drew {b base wd : Nat} {far : Bool} {ao : Option Addr} {L : List It} {w w' : World} (h : RGo b base wd far ao L w w') : RGo b base wd far ao L w w'.drew := by
  obtain ⟨ao', cap', h1, h2, h3⟩ := h
  exact ⟨ao', cap', h1.up (Upd.refl [] w').drew (by simp) (by simp), h2, h3.drew⟩
theorem RAt.its_go {w w1 w' : World} {b base wd : Nat} {far : Bool} {ao : Option Addr} {cap : Nat} {L L' : List It} (h : RAt w1 b base wd far ao cap L) (h0 : Upd [] w w1) (k : ItsGo w1 b 0 ao L' w') : RGo b base wd far ao L' w w' := by
  obtain ⟨ao', cap', k1, k2, k3, k4, _⟩ := k
  refine ⟨ao', cap', ⟨k1, ?_, h.b64, h.wid⟩, fun c hc => ?_, h0.nil.trans k3⟩
  · have := k4 _ _ h.blk
    exact this
  · rcases k2 c hc with e | e
    · exact .inl e
    · exact .inr (Nat.le_trans h0.size e)
/-- The base set anew. -/
theorem RAt.based {w : World} {b base wd : Nat} {far : Bool} {ao : Option Addr} {cap : Nat} {L : List It} (h : RAt w b base wd far ao cap L) (n : Nat) (hn : n < 18446744073709551616) : RAt (w.setCell ⟨b, 1, none⟩ (.int .u64 n)) b n wd far ao cap L := by
  have hB := h.blk.set 1 (.int .u64 n)
  have hu : Upd [b] w (w.setCell ⟨b, 1, none⟩ (.int .u64 n)) := (Upd.refl [b] w).setCell (.inl (by simp)) _
  refine ⟨{ h.its with cell := hB.cell (j := 0) rfl, free := hB.free 0, row := h.its.row.upd hu (fun c hc e => by simp at e; exact h.its.apart (e ▸ hc)), lt := hB.lt }, hB, hn, h.wid⟩

def pushB (far : Bool) (base wd k : Nat) : Bool := decide (base ≤ k) && (far || decide (lev3 wd base k < 3))
theorem rlev_neg {base wd k : Nat} (hb : base < 18446744073709551616) (hk : k < 18446744073709551616) (h : k < base) (w : World) : Calls Tryd.prog 73 #[.int .u64 base, .int .u64 k, .int .i64 wd] w (fun e w' => e = .returned (.int .i64 (-1)) ∧ w = w') := by
  have := rlevel_any base k hb hk wd w
  unfold levN at this
  rwa [if_pos h] at this
theorem rlev_at {base wd k l : Nat} (hb : base < 18446744073709551616) (hk : k < 18446744073709551616) (h : base ≤ k) (hw : heldN (wd : Int) = wd) (hl : lev3 wd base k = l) (w : World) : Calls Tryd.prog 73 #[.int .u64 base, .int .u64 k, .int .i64 wd] w (fun e w' => e = .returned (.int .i64 l) ∧ w = w') := by
  have := rlevel_any base k hb hk wd w
  unfold levN at this
  rw [if_neg (by omega), hw, hl] at this
  exact this

set_option maxHeartbeats 4000000 in
theorem rwpush_low {b base wd : Nat} {far : Bool} {ao : Option Addr} {cap : Nat} {L : List It} {w : World} (h : RAt w b base wd far ao cap L) (k : Nat) (hk : k < 18446744073709551616) (id : Int) (hlow : k < base) :
    Calls Tryd.prog 52 #[.pointer (some ⟨b, 0, none⟩), .agg #[.int .u64 k, .int .i64 id]] w (fun e w' => e = .returned (.bool false) ∧ Upd [] w w') := by
  have c1 := h.blk.cell (j := 1) rfl
  have c2 := h.blk.cell (j := 2) rfl
  have lb := h.blk.lt
  have b64 := h.b64
  have HL := Lib.hid (fun w => rlev_neg (wd := wd) b64 hk hlow w)
  clear h b64
  go_enter Tryd.func52, Tryd.ntmps52
  go_wp2_with fail
  go_region_held3 (fun w' => Upd [] (w.alloc (.cells #[.int .u64 k, .int .i64 id] 35)) w' ∧ ∀ (b o : Nat), b < (w.alloc (.cells #[.int .u64 k, .int .i64 id] 35)).heap.size → b ∉ ([] : List Nat) → w'.cell? ⟨b, o, none⟩ = (w.alloc (.cells #[.int .u64 k, .int .i64 id] 35)).cell? ⟨b, o, none⟩)
    (first | exact Held.init _ _ | assumption) (first | (go_at_call 73; refine (HL.out _).mono ?_; rintro e w' ⟨rfl, rfl⟩))
  go_wp2
  go_ret
  exact ⟨rfl, ((Upd.refl [] w).alloc _).drew⟩
set_option maxHeartbeats 4000000 in
theorem rwpush_far {b base wd : Nat} {ao : Option Addr} {cap : Nat} {L : List It} {w : World} (h : RAt w b base wd false ao cap L) (k : Nat) (hk : k < 18446744073709551616) (id : Int) (hlow : base ≤ k) (h3 : lev3 wd base k = 3) :
    Calls Tryd.prog 52 #[.pointer (some ⟨b, 0, none⟩), .agg #[.int .u64 k, .int .i64 id]] w (fun e w' => e = .returned (.bool false) ∧ Upd [] w w') := by
  have c1 := h.blk.cell (j := 1) rfl
  have c2 := h.blk.cell (j := 2) rfl
  have c3 := h.blk.cell (j := 3) rfl
  have lb := h.blk.lt
  have b64 := h.b64
  have wid := h.wid
  have HL := Lib.hid (fun w => rlev_at (wd := wd) b64 hk hlow wid h3 w)
  clear h b64 wid
  go_enter Tryd.func52, Tryd.ntmps52
  go_wp2_with fail
  go_region_held3 (fun w' => Upd [] (w.alloc (.cells #[.int .u64 k, .int .i64 id] 35)) w' ∧ ∀ (b o : Nat), b < (w.alloc (.cells #[.int .u64 k, .int .i64 id] 35)).heap.size → b ∉ ([] : List Nat) → w'.cell? ⟨b, o, none⟩ = (w.alloc (.cells #[.int .u64 k, .int .i64 id] 35)).cell? ⟨b, o, none⟩)
    (first | exact Held.init _ _ | assumption) (first | (go_at_call 73; refine (HL.out _).mono ?_; rintro e w' ⟨rfl, rfl⟩))
  go_wp2
  go_ret
  exact ⟨rfl, ((Upd.refl [] w).alloc _).drew⟩
set_option maxHeartbeats 4000000 in
theorem rwpush_near {b base wd l : Nat} {far : Bool} {ao : Option Addr} {cap : Nat} {L : List It} {w : World} (h : RAt w b base wd far ao cap L) (k : Nat) (hk : k < 18446744073709551616) (id : Int) (hlow : base ≤ k) (hl : lev3 wd base k = l) (h3 : l < 3) (hsm : L.length < 1000) :
    Calls Tryd.prog 52 #[.pointer (some ⟨b, 0, none⟩), .agg #[.int .u64 k, .int .i64 id]] w (fun e w' => e = .returned (.bool (!hasI L id)) ∧ RGo b base wd far ao (if hasI L id = true then L else insI ((k : Int), id) L) w w') := by
  have c1 := h.blk.cell (j := 1) rfl
  have c2 := h.blk.cell (j := 2) rfl
  have c3 := h.blk.cell (j := 3) rfl
  have lb := h.blk.lt
  have b64 := h.b64
  have wid := h.wid
  have HL := Lib.hid (fun w => rlev_at (wd := wd) b64 hk hlow wid hl w)
  have HH := Lib.hid h
  have t1 : decide ((l : Int) < 0) = false := by simp
  have t2 : decide ((2 : Int) < (l : Int)) = false := by simp; omega
  have t3 : decide (2 < l) = false := by simp; omega
  have HP : Hid (∀ r L', (!hasI L id) = r → (if hasI L id = true then L else insI ((k : Int), id) L) = L' → ∀ w, ItsAt w b 0 ao cap L → Calls Tryd.prog 54 #[.pointer (some ⟨b, 0, none⟩), .agg #[.int .u64 k, .int .i64 id]] w (fun e w' => e = .returned (.bool r) ∧ ItsGo w b 0 ao L' w')) := by
    intro r L' e1 e2 w h
    subst e1
    subst e2
    exact ri_push b 0 ao cap L ((k : Int), id) w h hsm
  obtain ⟨r, hr⟩ : ∃ r, (!hasI L id) = r := ⟨_, rfl⟩
  obtain ⟨L', hL'⟩ : ∃ L', (if hasI L id = true then L else insI ((k : Int), id) L) = L' := ⟨_, rfl⟩
  rw [hL', hr]
  have HP := Lib.hid (HP.out r L' hr hL')
  clear h b64 wid hsm hr hL'
  go_enter Tryd.func52, Tryd.ntmps52
  go_wp2_with fail
  go_region_held3 (fun w' => Upd [] (w.alloc (.cells #[.int .u64 k, .int .i64 id] 35)) w' ∧ ∀ (b o : Nat), b < (w.alloc (.cells #[.int .u64 k, .int .i64 id] 35)).heap.size → b ∉ ([] : List Nat) → w'.cell? ⟨b, o, none⟩ = (w.alloc (.cells #[.int .u64 k, .int .i64 id] 35)).cell? ⟨b, o, none⟩)
    (first | exact Held.init _ _ | assumption) (first | (go_at_call 73; refine (HL.out _).mono ?_; rintro e w' ⟨rfl, rfl⟩))
  go_wp2_with fail
  go_region_with (go_at_call 54; refine (HP.out _ (HH.out.up (S := []) (by first | exact ((Upd.refl [] w).alloc _) | exact ((Upd.refl [] w).alloc _).drew | exact ((Upd.refl [] w).alloc _).drew.drew) (by simp) (by simp)).its).mono ?_; rintro e w2 ⟨rfl, hgo⟩; have hR := (HH.out.up (S := []) (by first | exact ((Upd.refl [] w).alloc _) | exact ((Upd.refl [] w).alloc _).drew | exact ((Upd.refl [] w).alloc _).drew.drew) (by simp) (by simp)).its_go (w := w) (by first | exact ((Upd.refl [] w).alloc _) | exact ((Upd.refl [] w).alloc _).drew | exact ((Upd.refl [] w).alloc _).drew.drew) hgo; clear hgo; have HR := Lib.hid hR; clear hR)
  go_wp2
  go_ret
  exact ⟨rfl, HR.out⟩

theorem rwpush {b base wd : Nat} {ao : Option Addr} {cap : Nat} {L : List It} {w : World} (h : RAt w b base wd false ao cap L) (k : Nat) (hk : k < 18446744073709551616) (id : Int) (hsm : L.length < 1000) :
    Calls Tryd.prog 52 #[.pointer (some ⟨b, 0, none⟩), .agg #[.int .u64 k, .int .i64 id]] w (fun e w' => e = .returned (.bool (fitsB base wd k && !hasI L id)) ∧ RGo b base wd false ao (if (fitsB base wd k && !hasI L id) = true then insI ((k : Int), id) L else L) w w') := by
  by_cases hb : base ≤ k
  · by_cases h3 : lev3 wd base k < 3
    · have hf : fitsB base wd k = true := by unfold fitsB; simp [hb, h3]
      rw [hf]
      refine (rwpush_near h k hk id hb rfl h3 hsm).mono ?_
      rintro e w' ⟨rfl, hR⟩
      refine ⟨by simp, ?_⟩
      cases hx : hasI L id with
      | true => rw [hx] at hR; simpa using hR
      | false => rw [hx] at hR; simpa using hR
    · have hf : fitsB base wd k = false := by unfold fitsB; simp [h3]
      have h4 := lev3_le wd base k
      rw [hf]
      refine (rwpush_far h k hk id hb (by omega)).mono ?_
      rintro e w' ⟨rfl, hR⟩
      exact ⟨by simp, by simpa using h.go hR⟩
  · have hf : fitsB base wd k = false := by unfold fitsB; simp [hb]
    rw [hf]
    refine (rwpush_low h k hk id (by omega)).mono ?_
    rintro e w' ⟨rfl, hR⟩
    exact ⟨by simp, by simpa using h.go hR⟩

end Go.Proofs.YtbnifhdnpeiheaaDoor
