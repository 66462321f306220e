/-
  Texts of this claim, joined: RWa, RWb, RWc, RWd, RWe, RWf. No condition.
-/
import Derived.Test.YtolohheflbmfaaaGreatDoorPI
import Derived.Test.YtolohheflbmfaaaGreatDoorPX
import Derived.Test.YtolohheflbmfaaaGreatDoorPB
set_option linter.unusedVariables false
set_option linter.unusedSimpArgs false
/-! RWa -/
namespace Go.Proofs.YtolohheflbmfaaaGreatDoor
open Go.RowKit

structure RAt (w : World) (b base wd : Nat) (far : Bool) (ao : Option Addr) (cap : Nat) (L : List It) : Prop where
  its : ItsAt w b 0 ao cap L
  blk : Blk w b 117 [.slice ao L.length cap, .int .u64 base, .int .i64 wd, .bool far]
  b64 : base < 18446744073709551616
  wid : heldN (wd : Int) = wd
theorem RAt.up {w w' : World} {b base wd : Nat} {far : Bool} {ao : Option Addr} {cap : Nat} {L : List It} (h : RAt w b base wd far ao cap L) {S : List Nat} (hu : Upd S w w') (h1 : b ∉ S) (h2 : ∀ c ∈ blkO ao, c ∉ S) : RAt w' b base wd far ao cap L :=
  ⟨h.its.upd hu h1 h2, h.blk.upd hu h1, h.b64, h.wid⟩

/-- What a deed leaves of it. -/
def RGo (b base wd : Nat) (far : Bool) (ao : Option Addr) (L : List It) (w w' : World) : Prop :=
  ∃ ao' cap', RAt w' b base wd far ao' cap' L ∧ (∀ c ∈ blkO ao', c ∈ blkO ao ∨ w.heap.size ≤ c) ∧ Upd [b] w w'
theorem RAt.go {w w' : World} {b base wd : Nat} {far : Bool} {ao : Option Addr} {cap : Nat} {L : List It} (h : RAt w b base wd far ao cap L) (hu : Upd [] w w') : RGo b base wd far ao L w w' :=
  ⟨ao, cap, h.up hu (by simp) (by simp), fun c hc => .inl hc, hu.nil⟩
theorem RGo.drew {b base wd : Nat} {far : Bool} {ao : Option Addr} {L : List It} {w w' : World} (h : RGo b base wd far ao L w w') : RGo b base wd far ao L w w'.drew := by
  obtain ⟨ao', cap', h1, h2, h3⟩ := h
  exact ⟨ao', cap', h1.up (Upd.refl [] w').drew (by simp) (by simp), h2, h3.drew⟩
theorem RAt.its_go {w w1 w' : World} {b base wd : Nat} {far : Bool} {ao : Option Addr} {cap : Nat} {L L' : List It} (h : RAt w1 b base wd far ao cap L) (h0 : Upd [] w w1) (k : ItsGo w1 b 0 ao L' w') : RGo b base wd far ao L' w w' := by
  obtain ⟨ao', cap', k1, k2, k3, k4, _⟩ := k
  refine ⟨ao', cap', ⟨k1, ?_, h.b64, h.wid⟩, fun c hc => ?_, h0.nil.trans k3⟩
  · have := k4 _ _ h.blk
    exact this
  · rcases k2 c hc with e | e
    · exact .inl e
    · exact .inr (Nat.le_trans h0.size e)

/-- The base set anew. -/
theorem RAt.based {w : World} {b base wd : Nat} {far : Bool} {ao : Option Addr} {cap : Nat} {L : List It} (h : RAt w b base wd far ao cap L) (n : Nat) (hn : n < 18446744073709551616) : RAt (w.setCell ⟨b, 1, none⟩ (.int .u64 n)) b n wd far ao cap L := by
  have hB := h.blk.set 1 (.int .u64 n)
  have hu : Upd [b] w (w.setCell ⟨b, 1, none⟩ (.int .u64 n)) := (Upd.refl [b] w).setCell (.inl (by simp)) _
  refine ⟨{ h.its with cell := hB.cell (j := 0) rfl, free := hB.free 0, row := h.its.row.upd hu (fun c hc e => by simp at e; exact h.its.apart (e ▸ hc)), lt := hB.lt }, hB, hn, h.wid⟩

def pushB (far : Bool) (base wd k : Nat) : Bool := decide (base ≤ k) && (far || decide (lev3 wd base k < 3))
theorem rlev_neg {base wd k : Nat} (hb : base < 18446744073709551616) (hk : k < 18446744073709551616) (h : k < base) (w : World) : Calls Tryz.prog 75 #[.int .u64 base, .int .u64 k, .int .i64 wd] w (fun e w' => e = .returned (.int .i64 (-1)) ∧ w = w') := by
  have := rlevel_any base k hb hk wd w
  unfold levN at this
  rwa [if_pos h] at this
theorem rlev_at {base wd k l : Nat} (hb : base < 18446744073709551616) (hk : k < 18446744073709551616) (h : base ≤ k) (hw : heldN (wd : Int) = wd) (hl : lev3 wd base k = l) (w : World) : Calls Tryz.prog 75 #[.int .u64 base, .int .u64 k, .int .i64 wd] w (fun e w' => e = .returned (.int .i64 l) ∧ w = w') := by
  have := rlevel_any base k hb hk wd w
  unfold levN at this
  rw [if_neg (by omega), hw, hl] at this
  exact this


set_option maxHeartbeats 4000000 in
theorem rwpush_low {b base wd : Nat} {far : Bool} {ao : Option Addr} {cap : Nat} {L : List It} {w : World} (h : RAt w b base wd far ao cap L) (k : Nat) (hk : k < 18446744073709551616) (id : Int) (hlow : k < base) :
    Calls Tryz.prog 57 #[.pointer (some ⟨b, 0, none⟩), .agg #[.int .u64 k, .int .i64 id]] w (fun e w' => e = .returned (.bool false) ∧ Upd [] w w') := by
  have c1 := h.blk.cell (j := 1) rfl
  have c2 := h.blk.cell (j := 2) rfl
  have lb := h.blk.lt
  have b64 := h.b64
  have HL := Lib.hid (fun w => rlev_neg (wd := wd) b64 hk hlow w)
  clear h b64
  go_enter Tryz.func57, Tryz.ntmps57
  go_wp2_with fail
  go_region_held3 (fun w' => Upd [] (w.alloc (.cells #[.int .u64 k, .int .i64 id] 54)) w' ∧ ∀ (b o : Nat), b < (w.alloc (.cells #[.int .u64 k, .int .i64 id] 54)).heap.size → b ∉ ([] : List Nat) → w'.cell? ⟨b, o, none⟩ = (w.alloc (.cells #[.int .u64 k, .int .i64 id] 54)).cell? ⟨b, o, none⟩)
    (first | exact Held.init _ _ | assumption) (first | (go_at_call 75; refine (HL.out _).mono ?_; rintro e w' ⟨rfl, rfl⟩))
  go_wp2
  go_ret
  exact ⟨rfl, ((Upd.refl [] w).alloc _).drew⟩

set_option maxHeartbeats 4000000 in
theorem rwpush_far {b base wd : Nat} {ao : Option Addr} {cap : Nat} {L : List It} {w : World} (h : RAt w b base wd false ao cap L) (k : Nat) (hk : k < 18446744073709551616) (id : Int) (hlow : base ≤ k) (h3 : lev3 wd base k = 3) :
    Calls Tryz.prog 57 #[.pointer (some ⟨b, 0, none⟩), .agg #[.int .u64 k, .int .i64 id]] w (fun e w' => e = .returned (.bool false) ∧ Upd [] w w') := by
  have c1 := h.blk.cell (j := 1) rfl
  have c2 := h.blk.cell (j := 2) rfl
  have c3 := h.blk.cell (j := 3) rfl
  have lb := h.blk.lt
  have b64 := h.b64
  have wid := h.wid
  have HL := Lib.hid (fun w => rlev_at (wd := wd) b64 hk hlow wid h3 w)
  clear h b64 wid
  go_enter Tryz.func57, Tryz.ntmps57
  go_wp2_with fail
  go_region_held3 (fun w' => Upd [] (w.alloc (.cells #[.int .u64 k, .int .i64 id] 54)) w' ∧ ∀ (b o : Nat), b < (w.alloc (.cells #[.int .u64 k, .int .i64 id] 54)).heap.size → b ∉ ([] : List Nat) → w'.cell? ⟨b, o, none⟩ = (w.alloc (.cells #[.int .u64 k, .int .i64 id] 54)).cell? ⟨b, o, none⟩)
    (first | exact Held.init _ _ | assumption) (first | (go_at_call 75; refine (HL.out _).mono ?_; rintro e w' ⟨rfl, rfl⟩))
  go_wp2
  go_ret
  exact ⟨rfl, ((Upd.refl [] w).alloc _).drew⟩

set_option maxHeartbeats 4000000 in
theorem rwpush_near {b base wd l : Nat} {far : Bool} {ao : Option Addr} {cap : Nat} {L : List It} {w : World} (h : RAt w b base wd far ao cap L) (k : Nat) (hk : k < 18446744073709551616) (id : Int) (hlow : base ≤ k) (hl : lev3 wd base k = l) (h3 : l < 3) (hsm : L.length < 1000) :
    Calls Tryz.prog 57 #[.pointer (some ⟨b, 0, none⟩), .agg #[.int .u64 k, .int .i64 id]] w (fun e w' => e = .returned (.bool (!hasI L id)) ∧ RGo b base wd far ao (if hasI L id = true then L else insI ((k : Int), id) L) w w') := by
  have c1 := h.blk.cell (j := 1) rfl
  have c2 := h.blk.cell (j := 2) rfl
  have c3 := h.blk.cell (j := 3) rfl
  have lb := h.blk.lt
  have b64 := h.b64
  have wid := h.wid
  have HL := Lib.hid (fun w => rlev_at (wd := wd) b64 hk hlow wid hl w)
  have HH := Lib.hid h
  have t1 : decide ((l : Int) < 0) = false := by simp
  have t2 : decide ((2 : Int) < (l : Int)) = false := by simp; omega
  have t3 : decide (2 < l) = false := by simp; omega
  have HP : Hid (∀ r L', (!hasI L id) = r → (if hasI L id = true then L else insI ((k : Int), id) L) = L' → ∀ w, ItsAt w b 0 ao cap L → Calls Tryz.prog 49 #[.pointer (some ⟨b, 0, none⟩), .agg #[.int .u64 k, .int .i64 id]] w (fun e w' => e = .returned (.bool r) ∧ ItsGo w b 0 ao L' w')) := by
    intro r L' e1 e2 w h
    subst e1
    subst e2
    exact ri_push b 0 ao cap L ((k : Int), id) w h hsm
  obtain ⟨r, hr⟩ : ∃ r, (!hasI L id) = r := ⟨_, rfl⟩
  obtain ⟨L', hL'⟩ : ∃ L', (if hasI L id = true then L else insI ((k : Int), id) L) = L' := ⟨_, rfl⟩
  rw [hL', hr]
  have HP := Lib.hid (HP.out r L' hr hL')
  clear h b64 wid hsm hr hL'
  go_enter Tryz.func57, Tryz.ntmps57
  go_wp2_with fail
  go_region_held3 (fun w' => Upd [] (w.alloc (.cells #[.int .u64 k, .int .i64 id] 54)) w' ∧ ∀ (b o : Nat), b < (w.alloc (.cells #[.int .u64 k, .int .i64 id] 54)).heap.size → b ∉ ([] : List Nat) → w'.cell? ⟨b, o, none⟩ = (w.alloc (.cells #[.int .u64 k, .int .i64 id] 54)).cell? ⟨b, o, none⟩)
    (first | exact Held.init _ _ | assumption) (first | (go_at_call 75; refine (HL.out _).mono ?_; rintro e w' ⟨rfl, rfl⟩))
  go_wp2_with fail
  go_region_with (go_at_call 49; refine (HP.out _ (HH.out.up (S := []) (by first | exact ((Upd.refl [] w).alloc _) | exact ((Upd.refl [] w).alloc _).drew | exact ((Upd.refl [] w).alloc _).drew.drew) (by simp) (by simp)).its).mono ?_; rintro e w2 ⟨rfl, hgo⟩; have hR := (HH.out.up (S := []) (by first | exact ((Upd.refl [] w).alloc _) | exact ((Upd.refl [] w).alloc _).drew | exact ((Upd.refl [] w).alloc _).drew.drew) (by simp) (by simp)).its_go (w := w) (by first | exact ((Upd.refl [] w).alloc _) | exact ((Upd.refl [] w).alloc _).drew | exact ((Upd.refl [] w).alloc _).drew.drew) hgo; clear hgo; have HR := Lib.hid hR; clear hR)
  go_wp2
  go_ret
  exact ⟨rfl, HR.out⟩

theorem rwpush {b base wd : Nat} {ao : Option Addr} {cap : Nat} {L : List It} {w : World} (h : RAt w b base wd false ao cap L) (k : Nat) (hk : k < 18446744073709551616) (id : Int) (hsm : L.length < 1000) :
    Calls Tryz.prog 57 #[.pointer (some ⟨b, 0, none⟩), .agg #[.int .u64 k, .int .i64 id]] w (fun e w' => e = .returned (.bool (fitsB base wd k && !hasI L id)) ∧ RGo b base wd false ao (if (fitsB base wd k && !hasI L id) = true then insI ((k : Int), id) L else L) w w') := by
  by_cases hb : base ≤ k
  · by_cases h3 : lev3 wd base k < 3
    · have hf : fitsB base wd k = true := by unfold fitsB; simp [hb, h3]
      rw [hf]
      refine (rwpush_near h k hk id hb rfl h3 hsm).mono ?_
      rintro e w' ⟨rfl, hR⟩
      refine ⟨by simp, ?_⟩
      cases hx : hasI L id with
      | true => rw [hx] at hR; simpa using hR
      | false => rw [hx] at hR; simpa using hR
    · have hf : fitsB base wd k = false := by unfold fitsB; simp [h3]
      have h4 := lev3_le wd base k
      rw [hf]
      refine (rwpush_far h k hk id hb (by omega)).mono ?_
      rintro e w' ⟨rfl, hR⟩
      exact ⟨by simp, by simpa using h.go hR⟩
  · have hf : fitsB base wd k = false := by unfold fitsB; simp [hb]
    rw [hf]
    refine (rwpush_low h k hk id (by omega)).mono ?_
    rintro e w' ⟨rfl, hR⟩
    exact ⟨by simp, by simpa using h.go hR⟩

end Go.Proofs.YtolohheflbmfaaaGreatDoor

/-! RWb -/
namespace Go.Proofs.YtolohheflbmfaaaGreatDoor
open Go.RowKit

theorem RGo.based {w w' : World} {b base wd : Nat} {far : Bool} {ao : Option Addr} {L : List It} (h : RGo b base wd far ao L w w') (n : Nat) (hn : n < 18446744073709551616) : RGo b n wd far ao L w (w'.setCell ⟨b, 1, none⟩ (.int .u64 n)) := by
  obtain ⟨ao', cap', h1, h2, h3⟩ := h
  exact ⟨ao', cap', h1.based n hn, h2, h3.setCell (.inl (by simp)) _⟩
theorem RGo.up {w w' w'' : World} {b base wd : Nat} {far : Bool} {ao : Option Addr} {L : List It} (h : RGo b base wd far ao L w w') (hu : Upd [] w' w'') : RGo b base wd far ao L w w'' := by
  obtain ⟨ao', cap', h1, h2, h3⟩ := h
  exact ⟨ao', cap', h1.up hu (by simp) (by simp), h2, h3.trans hu.nil⟩

/-- Fresh blocks set: nothing of it changes. -/
theorem RGo.upS {w w' w'' : World} {b base wd : Nat} {far : Bool} {ao : Option Addr} {L : List It} (h : RGo b base wd far ao L w w') {c : Nat} (hc : w.heap.size ≤ c) (hb : b < w.heap.size) (hd : c ∉ match w'.cell? ⟨b, 0, none⟩ with | some (.slice (some a) _ _) => [a.block] | _ => []) (hu : Upd [c] w' w'') : RGo b base wd far ao L w w'' := by
  obtain ⟨ao', cap', h1, h2, h3⟩ := h
  have hne : b ∉ [c] := by simp; omega
  refine ⟨ao', cap', h1.up hu hne (fun d hd' e => ?_), h2, h3.then hu (fun _ _ e => e) (fun i hi e => by simp at e; omega)⟩
  simp at e
  subst e
  have c0 := h1.blk.cell (j := 0) rfl
  rw [c0] at hd
  cases ao' with
  | none => simp [blkO] at hd'
  | some a => simp [blkO] at hd'; exact hd (by simp [hd'])




end Go.Proofs.YtolohheflbmfaaaGreatDoor

/-! RWc -/
namespace Go.Proofs.YtolohheflbmfaaaGreatDoor
open Go.RowKit

set_option maxHeartbeats 8000000 in
theorem rwpop_cons {b base wd : Nat} {far : Bool} {ao : Option Addr} {cap : Nat} {x : It} {L : List It} {w : World} (h : RAt w b base wd far ao cap (x :: L)) (n : Nat) (hx : x.1 = n) (hn : n < 18446744073709551616) :
    Calls Tryz.prog 59 #[.pointer (some ⟨b, 0, none⟩)] w (fun e w' => e = .returned (firstV (x :: L)) ∧ RGo b n wd far ao L w w') := by
  have lb := h.blk.lt
  have HH := Lib.hid h
  have HN := Lib.hid hn
  obtain ⟨k, id⟩ := x
  simp only at hx
  subst hx
  have HO := Lib.hid (HH.out.its.row.lt)
  have HA := Lib.hid (h.up ((Upd.refl [] w).alloc (.cells #[.int .u64 0, .int .i64 0] 54)) (by simp) (by simp))
  clear h hn
  go_enter Tryz.func59, Tryz.ntmps59
  go_wp2_with fail
  refine (ri_pop b 0 ao cap (((n : Int), id) :: L) _ HA.out.its).mono ?_
  rintro e w2 ⟨rfl, hgo⟩
  obtain ⟨ao', cap', h1, h2, h3⟩ := HA.out.its_go (Upd.refl [] _) hgo
  rw [List.tail_cons] at h1
  unfold firstV itV
  have hR := (Blk.new w 54 [.int .u64 0, .int .i64 0]).upd h3 (by simp; omega)
  have k0 := hR.cell (j := 0) rfl
  have k1 := hR.cell (j := 1) rfl
  have z0 := hR.free 0
  have z1 := hR.free 1
  have lr := hR.lt
  have b1 := h1.blk.cell (j := 1) rfl
  have y1 := h1.blk.free 1
  have lb2 := h1.blk.lt
  have H1 := Lib.hid h1
  have H2 := Lib.hid h2
  have H3 := Lib.hid h3
  have HR := Lib.hid hR
  clear hgo h1 h2 h3 hR
  go_wp2
  have hne : w.heap.size ≠ b := by omega
  have hB := HR.out.setFar (a := ⟨b, 1, none⟩) (by simp; omega) (.int .u64 n)
  obtain ⟨s0, s1⟩ := two_set (w := w2.setCell ⟨b, 1, none⟩ (.int .u64 n)) rfl rfl (hB.cell (j := 0) rfl) (hB.cell (j := 1) rfl) (.int .u64 n) (.int .i64 id)
  obtain ⟨w3, hw3⟩ : ∃ w3, w3 = (((w2.setCell ⟨b, 1, none⟩ (.int .u64 n)).setCell ⟨w.heap.size, 0, none⟩ (.int .u64 n)).setCell ⟨w.heap.size, 1, none⟩ (.int .i64 id)) := ⟨_, rfl⟩
  have l3 : w.heap.size < w3.heap.size := by rw [hw3]; simpa using lr
  rw [← hw3] at s0 s1 ⊢
  have q0 : (w3.alloc (.cells #[.int .u64 n, .int .i64 id] 54)).cell? ⟨w.heap.size, 0, none⟩ = some (.int .u64 n) := by rw [World.cell?_alloc_past _ _ _ (by simpa using l3)]; exact s0
  have q1 : (w3.alloc (.cells #[.int .u64 n, .int .i64 id] 54)).cell? ⟨w.heap.size, 1, none⟩ = some (.int .i64 id) := by rw [World.cell?_alloc_past _ _ _ (by simpa using l3)]; exact s1
  have hU : Upd [w.heap.size] (w2.setCell ⟨b, 1, none⟩ (.int .u64 n)) (w3.alloc (.cells #[.int .u64 n, .int .i64 id] 54)) := by
    rw [hw3]
    exact (((Upd.refl [w.heap.size] _).setCell (.inl (by simp)) _).setCell (.inl (by simp)) _).alloc _
  refine bodyPost_ret (v := .tuple #[.agg #[.int .u64 n, .int .i64 id], .bool true]) (by simp [results, Tryz.results59, go_sem, q0, q1]) rfl ⟨rfl, ao', cap', (H1.out.based n HN.out).up hU (by simp; omega) (fun c hc e => ?_), fun c hc => ?_, ?_⟩
  · simp at e
    subst e
    rcases H2.out _ hc with e | e
    · have := HO.out _ e; omega
    · simp at e; omega
  · rcases H2.out _ hc with e | e
    · exact .inl e
    · simp at e; right; omega
  · have hf : Upd [b] w (w2.setCell ⟨b, 1, none⟩ (.int .u64 n)) := (((Upd.refl [b] w).alloc _).trans H3.out).setCell (.inl (by simp)) _
    exact hf.then hU (fun _ _ e => e) (fun i hi e => by simp at e; omega)


set_option maxHeartbeats 8000000 in
theorem rwpop_nil {b base wd : Nat} {far : Bool} {ao : Option Addr} {cap : Nat} {w : World} (h : RAt w b base wd far ao cap []) :
    Calls Tryz.prog 59 #[.pointer (some ⟨b, 0, none⟩)] w (fun e w' => e = .returned (firstV []) ∧ RGo b base wd far ao [] w w') := by
  have lb := h.blk.lt
  have HO := Lib.hid (h.its.row.lt)
  have HA := Lib.hid (h.up ((Upd.refl [] w).alloc (.cells #[.int .u64 0, .int .i64 0] 54)) (by simp) (by simp))
  clear h
  go_enter Tryz.func59, Tryz.ntmps59
  go_wp2_with fail
  refine (ri_pop b 0 ao cap [] _ HA.out.its).mono ?_
  rintro e w2 ⟨rfl, hgo⟩
  obtain ⟨ao', cap', h1, h2, h3⟩ := HA.out.its_go (Upd.refl [] _) hgo
  rw [List.tail_nil] at h1
  unfold firstV itV
  have hR := (Blk.new w 54 [.int .u64 0, .int .i64 0]).upd h3 (by simp; omega)
  have k0 := hR.cell (j := 0) rfl
  have k1 := hR.cell (j := 1) rfl
  have z0 := hR.free 0
  have z1 := hR.free 1
  have lr := hR.lt
  have H1 := Lib.hid h1
  have H2 := Lib.hid h2
  have H3 := Lib.hid h3
  have HR := Lib.hid hR
  clear hgo h1 h2 h3 hR
  go_wp2
  have hne : w.heap.size ≠ b := by omega
  obtain ⟨s0, s1⟩ := two_set (w := w2) rfl rfl k0 k1 (.int .u64 zIt.1) (.int .i64 zIt.2)
  obtain ⟨w3, hw3⟩ : ∃ w3, w3 = ((w2.setCell ⟨w.heap.size, 0, none⟩ (.int .u64 zIt.1)).setCell ⟨w.heap.size, 1, none⟩ (.int .i64 zIt.2)) := ⟨_, rfl⟩
  have l3 : w.heap.size < w3.heap.size := by rw [hw3]; simpa using lr
  rw [← hw3] at s0 s1 ⊢
  have q0 : (w3.alloc (.cells #[.int .u64 zIt.1, .int .i64 zIt.2] 54)).cell? ⟨w.heap.size, 0, none⟩ = some (.int .u64 zIt.1) := by rw [World.cell?_alloc_past _ _ _ (by simpa using l3)]; exact s0
  have q1 : (w3.alloc (.cells #[.int .u64 zIt.1, .int .i64 zIt.2] 54)).cell? ⟨w.heap.size, 1, none⟩ = some (.int .i64 zIt.2) := by rw [World.cell?_alloc_past _ _ _ (by simpa using l3)]; exact s1
  have hU : Upd [w.heap.size] w2 (w3.alloc (.cells #[.int .u64 zIt.1, .int .i64 zIt.2] 54)) := by
    rw [hw3]
    exact (((Upd.refl [w.heap.size] _).setCell (.inl (by simp)) _).setCell (.inl (by simp)) _).alloc _
  refine bodyPost_ret (v := .tuple #[.agg #[.int .u64 zIt.1, .int .i64 zIt.2], .bool false]) (by simp [results, Tryz.results59, go_sem, q0, q1]) rfl ⟨rfl, ao', cap', H1.out.up hU (by simp; omega) (fun c hc e => ?_), fun c hc => ?_, ?_⟩
  · simp at e
    subst e
    rcases H2.out _ hc with e | e
    · have := HO.out _ e; omega
    · simp at e; omega
  · rcases H2.out _ hc with e | e
    · exact .inl e
    · simp at e; right; omega
  · have hf : Upd [b] w w2 := ((Upd.refl [b] w).alloc _).trans H3.out
    exact hf.then hU (fun _ _ e => e) (fun i hi e => by simp at e; omega)

theorem rwpop {b base wd : Nat} {far : Bool} {ao : Option Addr} {cap : Nat} {L : List It} {w : World} (h : RAt w b base wd far ao cap L) (hk : ∀ x ∈ L, x.1 = (kn x : Int) ∧ kn x < 18446744073709551616) :
    Calls Tryz.prog 59 #[.pointer (some ⟨b, 0, none⟩)] w (fun e w' => e = .returned (firstV L) ∧ RGo b (popB base L) wd far ao L.tail w w') := by
  cases L with
  | nil => exact rwpop_nil h
  | cons x L => exact rwpop_cons h (kn x) (hk x (by simp)).1 (hk x (by simp)).2
end Go.Proofs.YtolohheflbmfaaaGreatDoor

/-! RWd -/
namespace Go.Proofs.YtolohheflbmfaaaGreatDoor
open Go.RowKit

/-- The document's wheel in blocks that are new since W. -/
def RG (W : World) (b base wd : Nat) (far : Bool) (L : List It) (fq : List Nat) (w : World) : Prop := ∃ ao cap, RAt w b base wd far ao cap L ∧ fq = b :: blkO ao ∧ (∀ c ∈ fq, W.heap.size ≤ c) ∧ W.heap.size ≤ w.heap.size
def RGTo (W : World) (b base wd : Nat) (far : Bool) (L : List It) (fq : List Nat) (w w' : World) : Prop := ∃ fq', RG W b base wd far L fq' w' ∧ Fr fq fq' w w'
theorem RG.lt {W w : World} {b base wd : Nat} {far : Bool} {L : List It} {fq : List Nat} (h : RG W b base wd far L fq w) : ∀ c ∈ fq, c < w.heap.size := by
  obtain ⟨ao, cap, h1, rfl, _⟩ := h
  intro c hc
  rcases List.mem_cons.1 hc with rfl | hc
  · exact h1.blk.lt
  · exact h1.its.row.lt c hc
theorem RG.newB {W w : World} {b base wd : Nat} {far : Bool} {L : List It} {fq : List Nat} (h : RG W b base wd far L fq w) : ∀ c ∈ fq, W.heap.size ≤ c := by obtain ⟨_, _, _, _, h, _⟩ := h; exact h
theorem RG.upd {W w w' : World} {b base wd : Nat} {far : Bool} {L : List It} {fq S : List Nat} (h : RG W b base wd far L fq w) (hu : Upd S w w') (hs : ∀ c ∈ fq, c ∉ S) : RG W b base wd far L fq w' := by
  obtain ⟨ao, cap, h1, rfl, h2, h3⟩ := h
  exact ⟨ao, cap, h1.up hu (hs b (by simp)) (fun c hc => hs c (by simp [hc])), rfl, h2, Nat.le_trans h3 hu.size⟩
theorem RG.done {W w w' : World} {b base base' wd : Nat} {far : Bool} {L L' : List It} {fq : List Nat} {ao : Option Addr} {cap : Nat} (h : RAt w b base wd far ao cap L) (hfq : fq = b :: blkO ao) (h2 : ∀ c ∈ fq, W.heap.size ≤ c) (h3 : W.heap.size ≤ w.heap.size) (k : RGo b base' wd far ao L' w w') : RGTo W b base' wd far L' fq w w' := by
  obtain ⟨ao', cap', k1, k2, k3⟩ := k
  subst hfq
  refine ⟨b :: blkO ao', ⟨ao', cap', k1, rfl, fun c hc => ?_, Nat.le_trans h3 k3.size⟩, fun c hc => ?_, k3.mono (fun i _ hm => by simp at hm; simp [hm])⟩
  · rcases List.mem_cons.1 hc with rfl | hc
    · exact h2 _ (by simp)
    · rcases k2 c hc with e | e
      · exact h2 c (by simp [e])
      · omega
  · rcases List.mem_cons.1 hc with rfl | hc
    · simp
    · rcases k2 c hc with e | e
      · simp [e]
      · exact .inr e
theorem RG.push {W w : World} {b base wd : Nat} {L : List It} {fq : List Nat} (h : RG W b base wd false L fq w) (k : Nat) (hk : k < 18446744073709551616) (id : Int) (hsm : L.length < 1000) :
    Calls Tryz.prog 57 #[.pointer (some ⟨b, 0, none⟩), .agg #[.int .u64 k, .int .i64 id]] w (fun e w' => e = .returned (.bool (fitsB base wd k && !hasI L id)) ∧ RGTo W b base wd false (if (fitsB base wd k && !hasI L id) = true then insI ((k : Int), id) L else L) fq w w') := by
  obtain ⟨ao, cap, h1, h2, h3, h4⟩ := h
  exact (rwpush h1 k hk id hsm).mono fun _ _ q => ⟨q.1, RG.done h1 h2 h3 h4 q.2⟩
theorem RG.pop {W w : World} {b base wd : Nat} {far : Bool} {L : List It} {fq : List Nat} (h : RG W b base wd far L fq w) (hk : ∀ x ∈ L, x.1 = (kn x : Int) ∧ kn x < 18446744073709551616) :
    Calls Tryz.prog 59 #[.pointer (some ⟨b, 0, none⟩)] w (fun e w' => e = .returned (firstV L) ∧ RGTo W b (popB base L) wd far L.tail fq w w') := by
  obtain ⟨ao, cap, h1, h2, h3, h4⟩ := h
  exact (rwpop h1 hk).mono fun _ _ q => ⟨q.1, RG.done h1 h2 h3 h4 q.2⟩
theorem RG.at_ {W w : World} {b base wd : Nat} {far : Bool} {L : List It} {fq : List Nat} (h : RG W b base wd far L fq w) (id : Int) :
    Calls Tryz.prog 61 #[.pointer (some ⟨b, 0, none⟩), .int .i64 id] w (fun e w' => e = .returned (.int .i64 (posI L id)) ∧ w = w') := by
  obtain ⟨ao, cap, h1, h2, h3⟩ := h
  exact ri_at b 0 ao cap L id w h1.its

/-- Where it stands. -/
theorem RG.cells {W w : World} {b base wd : Nat} {far : Bool} {L : List It} {fq : List Nat} (h : RG W b base wd far L fq w) : ∃ ao cap, Blk w b 117 [.slice ao L.length cap, .int .u64 base, .int .i64 wd, .bool far] ∧ RowO w 54 2 ao L.length cap (L.flatMap itVs) ∧ base < 18446744073709551616 ∧ heldN (wd : Int) = wd ∧ b ∈ fq ∧ ∀ c ∈ blkO ao, c ∈ fq := by
  obtain ⟨ao, cap, h1, rfl, h3⟩ := h
  exact ⟨ao, cap, h1.blk, h1.its.row, h1.b64, h1.wid, by simp, fun c hc => by simp [hc]⟩

/-- One that has just been made. -/
theorem RG.new {W w : World} {b : Nat} (wd : Int) (far : Bool) (h : Blk w b 117 [.slice none 0 0, .int .u64 0, .int .i64 (heldN wd), .bool far]) (hb : W.heap.size ≤ b) : RG W b 0 (heldN wd) far [] [b] w :=
  ⟨none, 0, ⟨{ cell := h.cell (j := 0) rfl, free := h.free 0, row := RowO.nil _ _ _, lt := h.lt, apart := by simp [blkO], small := by simp, nd := by simp [NdI], srt := List.Pairwise.nil }, h, by omega, heldN_idem wd⟩, rfl, fun c hc => by simp at hc; omega, by have := h.lt; omega⟩

/-- A wheel and the document's that hold the same. -/
def WR (W : World) (wb b base wd : Nat) (L : List It) (fp fq : List Nat) (w : World) : Prop := WG W wb base wd L fp w ∧ RG W b base wd false L fq w ∧ (∀ c ∈ fp, c ∉ fq) ∧ ∀ x ∈ L, x.1 = (kn x : Int) ∧ kn x < 18446744073709551616 ∧ base ≤ kn x
theorem WR.upd {W w w' : World} {wb b base wd : Nat} {L : List It} {fp fq : List Nat} (h : WR W wb b base wd L fp fq w) (hu : Upd [] w w') : WR W wb b base wd L fp fq w' := ⟨h.1.upd hu, h.2.1.upd hu (by simp), h.2.2⟩
theorem WR.updS {W w w' : World} {wb b base wd : Nat} {L : List It} {fp fq S : List Nat} (h : WR W wb b base wd L fp fq w) (hu : Upd S w w') (h1 : ∀ c ∈ fp, c ∉ S) (h2 : ∀ c ∈ fq, c ∉ S) (hS : ∀ c ∈ S, W.heap.size ≤ c) : WR W wb b base wd L fp fq w' := ⟨h.1.updS hu h1 hS, h.2.1.upd hu h2, h.2.2⟩
theorem WG.keys {W w : World} {wb base wd : Nat} {L : List It} {fp : List Nat} (h : WG W wb base wd L fp w) : ∀ x ∈ L, x.1 = (kn x : Int) ∧ kn x < 18446744073709551616 ∧ base ≤ kn x := by
  obtain ⟨s, h1, h2, rfl, rfl, rfl, h3, h4, h5⟩ := h
  intro x hx
  have hk := h2.key x hx
  exact ⟨kn_cast hk.1, by unfold kn; have := hk.1.1; have := hk.1.2; omega, hk.2⟩
end Go.Proofs.YtolohheflbmfaaaGreatDoor

/-! RWe -/
namespace Go.Proofs.YtolohheflbmfaaaGreatDoor
open Go.RowKit

def MadeTo (W w : World) (e : Ending) (w' : World) : Prop :=
  ∃ wb b V fp fq, e = .returned (.tuple #[.pointer (some ⟨wb, 0, none⟩), .pointer (some ⟨b, 0, none⟩)]) ∧ WR W wb b 0 V [] fp fq w' ∧ Upd [] w w' ∧ (∀ c ∈ fp, w.heap.size ≤ c) ∧ ∀ c ∈ fq, w.heap.size ≤ c


end Go.Proofs.YtolohheflbmfaaaGreatDoor

/-! RWf -/
namespace Go.Proofs.YtolohheflbmfaaaGreatDoor
open Go.RowKit

def Deed5 (W : World) (wb b base wd : Nat) (L : List It) (fp fq : List Nat) (w : World) (e : Ending) (w' : World) : Prop :=
  e = .returned (.bool true) ∧ ∃ base' L' fp' fq', WR W wb b base' wd L' fp' fq' w' ∧ (∀ c ∈ fp', c ∈ fp ∨ w.heap.size ≤ c) ∧ (∀ c ∈ fq', c ∈ fq ∨ w.heap.size ≤ c) ∧ Upd (fp ++ fq) w w' ∧ L'.length ≤ L.length + 1
theorem WGTo.up {W w w' : World} {wb base wd : Nat} {L : List It} {fp : List Nat} (h : WGTo W wb base wd L fp w w') : Upd fp w w' := by obtain ⟨_, _, _, h⟩ := h; exact h
theorem RGTo.up {W w w' : World} {b base wd : Nat} {far : Bool} {L : List It} {fq : List Nat} (h : RGTo W b base wd far L fq w w') : Upd fq w w' := by obtain ⟨_, _, _, h⟩ := h; exact h
theorem WR.after {W w w' : World} {wb b base base' wd : Nat} {L L' : List It} {fp fq : List Nat} (h : WR W wb b base wd L fp fq w) (k : WGTo W wb base' wd L' fp w w') : RG W b base wd false L fq w' :=
  h.2.1.upd k.up (fun c hc e => h.2.2.1 c e hc)
theorem pair_done5 {W : World} {wb b base base' wd : Nat} {L L' : List It} {fp fq : List Nat} {w w4 w5 w6 w7 w8 : World} (hU : Upd [] w w4) (hp : WR W wb b base wd L fp fq w4) (hp0 : ∀ c ∈ fp, c < w.heap.size) (hq0 : ∀ c ∈ fq, c < w.heap.size) (h5 : WGTo W wb base' wd L' fp w4 w5) (g : Upd [] w5 w6) (h7 : RGTo W b base' wd false L' fq w6 w7) (g2 : Upd [] w7 w8) (hl : L'.length ≤ L.length + 1) :
    Deed5 W wb b base wd L fp fq w (.returned (.bool true)) w8 := by
  obtain ⟨fp', k1, k2, k3⟩ := h5
  obtain ⟨fq', j1, j2, j3⟩ := h7
  have hs4 := hU.size
  have hs5 := k3.size
  have hs6 := g.size
  refine ⟨rfl, base', L', fp', fq', ⟨((k1.upd g).updS j3 (fun c hc e => ?_) (fun c hc => ?_)).upd g2, j1.upd g2 (by simp), fun c hc e => ?_, k1.keys⟩, fun c hc => ?_, fun c hc => ?_, ?_, hl⟩
  · rcases k2 c hc with h | h
    · exact hp.2.2.1 c h e
    · have := hq0 c e; omega
  · exact hp.2.1.newB c hc
  · rcases j2 c e with h | h
    · rcases k2 c hc with h' | h'
      · exact hp.2.2.1 c h' h
      · have := hq0 c h; omega
    · have := k1.lt c hc; omega
  · rcases k2 c hc with h | h
    · exact .inl h
    · right; omega
  · rcases j2 c hc with h | h
    · exact .inl h
    · right; omega
  · refine Upd.trans ?_ g2.nil
    refine Upd.trans ?_ (j3.mono (fun i _ hm => by simp [hm]))
    refine Upd.trans ?_ g.nil
    exact hU.nil.trans (k3.mono (fun i _ hm => by simp [hm]))

/-- As above; behind it cells may be written that were made between the two. -/
theorem pair_done6 {W : World} {wb b base base' wd : Nat} {L L' : List It} {fp fq S : List Nat} {w w4 w5 w6 w7 w8 : World} (hU : Upd [] w w4) (hp : WR W wb b base wd L fp fq w4) (hp0 : ∀ c ∈ fp, c < w.heap.size) (hq0 : ∀ c ∈ fq, c < w.heap.size) (h5 : WGTo W wb base' wd L' fp w4 w5) (g : Upd [] w5 w6) (h7 : RGTo W b base' wd false L' fq w6 w7) (g2 : Upd S w7 w8) (hS : ∀ c ∈ S, w5.heap.size ≤ c ∧ c < w6.heap.size) (hl : L'.length ≤ L.length + 1) :
    Deed5 W wb b base wd L fp fq w (.returned (.bool true)) w8 := by
  have hs4 := hU.size
  have hs5 := h5.up.size
  obtain ⟨-, base2, L2, fp', fq', k1, k2, k3, k4, k5⟩ := pair_done5 (w := w) (w8 := w7) hU hp hp0 hq0 h5 g h7 (Upd.refl _ _) hl
  obtain ⟨fp5, p1, p2, p3⟩ := h5
  obtain ⟨fq7, r1, r2, r3⟩ := h7
  have hW : ∀ c ∈ S, W.heap.size ≤ c := fun c hc => by have := (hS c hc).1; have := p1.updW.size; omega
  refine ⟨rfl, base', L', fp5, fq7, ⟨((p1.upd g).updS r3 (fun c hc e => ?_) (fun c hc => ?_)).updS g2 (fun c hc e => ?_) hW, r1.upd g2 (fun c hc e => ?_), fun c hc e => ?_, p1.keys⟩, fun c hc => ?_, fun c hc => ?_, ?_, hl⟩
  · rcases p2 c hc with h | h
    · exact hp.2.2.1 c h e
    · have := hq0 c e; omega
  · exact hp.2.1.newB c hc
  · have := p1.lt c hc; have := (hS c e).1; omega
  · have h1 := hS c e
    rcases r2 c hc with h | h
    · have := hq0 c h; omega
    · omega
  · rcases r2 c e with h | h
    · rcases p2 c hc with h' | h'
      · exact hp.2.2.1 c h' h
      · have := hq0 c h; omega
    · have := p1.lt c hc; have := g.size; omega
  · rcases p2 c hc with h | h
    · exact .inl h
    · right; omega
  · rcases r2 c hc with h | h
    · exact .inl h
    · have := g.size; right; omega
  · exact k4.then g2 (fun _ _ h => h) (fun i hi hm => by have := (hS i hm).1; omega)
theorem deed5_none {W : World} {wb b base wd : Nat} {L : List It} {fp fq : List Nat} {w w' : World} (hp : WR W wb b base wd L fp fq w) (hU : Upd [] w w') : Deed5 W wb b base wd L fp fq w (.returned (.bool true)) w' :=
  ⟨rfl, base, L, fp, fq, hp.upd hU, fun _ h => .inl h, fun _ h => .inl h, hU.nil, by omega⟩
theorem dropI_len5 (L : List It) (id : Int) : (dropI L id).length ≤ L.length := List.length_filter_le _ _
theorem len_ins5 (c : Bool) (L : List It) (x : It) : (if c = true then insI x L else L).length ≤ L.length + 1 := by
  cases c with
  | false => simp
  | true => rw [if_pos rfl, (insI_perm x L).length_eq]; simp
theorem firstV_key {L : List It} {y : It} (h : ∀ x ∈ L, x.1 = (kn x : Int) ∧ kn x < 18446744073709551616) (e : firstV L = itV y true) : y ∈ L := by
  cases L with
  | nil => simp [firstV, itV] at e
  | cons x r =>
    simp only [firstV, itV, Value.tuple.injEq, Array.mk.injEq, List.cons.injEq, Value.agg.injEq, Value.int.injEq, true_and, and_true] at e
    have : x = y := Prod.ext e.1 e.2
    subst this; simp

/-- Half the way from a base to a key. -/
theorem mid_eqs {base ky : Nat} (h : base ≤ ky) (hk : ky < 18446744073709551616) : ∃ d m t0 : Nat, (ky : Int) - (base : Int) = d ∧ IntKind.u64.wrap (d : Int) = d ∧ (d : Int).tdiv 2 = m ∧ IntKind.u64.wrap (m : Int) = m ∧ (base : Int) + (m : Int) = t0 ∧ IntKind.u64.wrap (t0 : Int) = t0 ∧ t0 < 18446744073709551616 := by
  refine ⟨ky - base, (ky - base) / 2, base + (ky - base) / 2, by omega, ?_, ?_, ?_, by omega, ?_, by omega⟩
  · rw [IntKind.wrap_u64]; omega
  · rw [Int.tdiv_eq_ediv_of_nonneg (by omega)]; omega
  · rw [IntKind.wrap_u64]; omega
  · rw [IntKind.wrap_u64]; omega
theorem firstVit (L : List It) : ∃ y ok, firstV L = itV y ok := by cases L <;> exact ⟨_, _, rfl⟩
theorem dropVit (L : List It) (id : Int) : ∃ y ok, dropV L id = itV y ok := by unfold dropV; split <;> exact ⟨_, _, rfl⟩
end Go.Proofs.YtolohheflbmfaaaGreatDoor
