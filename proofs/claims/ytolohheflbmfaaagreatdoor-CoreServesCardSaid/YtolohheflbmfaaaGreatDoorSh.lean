/-
  A shard: New; the document's wheel that takes what lies beyond: Push, Over. No condition.
-/
import Derived.Test.YtolohheflbmfaaaGreatDoorPSA
import Derived.Test.YtolohheflbmfaaaGreatDoorPR
set_option linter.unusedVariables false
set_option linter.unusedSimpArgs false
namespace Go.Proofs.YtolohheflbmfaaaGreatDoor
open Go.RowKit

def NewS (W w : World) (wd : Int) (e : Ending) (w' : World) : Prop := ∃ sb F, e = .returned (.pointer (some ⟨sb, 0, none⟩)) ∧ SL W sb 0 (heldN wd) [] F w' ∧ Upd [] w w' ∧ ∀ c ∈ F, w.heap.size ≤ c

set_option maxHeartbeats 4000000 in
theorem SL.new {W w : World} (hU : Upd [] W w) (hT : TabAt 0 Lib.deBruijn64tab W) (wd : Int) : Calls Tryz.prog 64 #[.int .i64 wd] w (NewS W w wd) := by
  have HN := Lib.hid (WG.new hU hT wd)
  have HU := Lib.hid hU
  clear hU hT
  go_enter Tryz.func64, Tryz.ntmps64
  go_wp2_with fail
  refine HN.out.mono ?_
  rintro e w2 ⟨wb, fw, rfl, hG, hU2, hf⟩
  have HG := Lib.hid hG
  have HU2 := Lib.hid hU2
  have HF := Lib.hid hf
  clear hG hU2 hf
  go_wp2_with fail
  refine (heap_new w2).mono ?_
  rintro e w3 ⟨rfl, hI, hU3⟩
  have HI := Lib.hid hI
  have HU3 := Lib.hid hU3
  clear hI hU3
  go_wp2
  go_ret
  have hs1 := HU.out.size
  have hs2 := HU2.out.size
  have hs3 := HU3.out.size
  have hlw := HG.out.lt
  have hlh := HI.out.lt
  have hB : Blk (w3.alloc (.cells #[.pointer (some ⟨wb, 0, none⟩), .pointer (some ⟨w2.heap.size + 1, 0, none⟩), .int .i64 wd] 142)) w3.heap.size 142 [.pointer (some ⟨wb, 0, none⟩), .pointer (some ⟨w2.heap.size + 1, 0, none⟩), .int .i64 wd] := Blk.new w3 142 [.pointer (some ⟨wb, 0, none⟩), .pointer (some ⟨w2.heap.size + 1, 0, none⟩), .int .i64 wd]
  refine ⟨w3.heap.size, _, rfl, ⟨[], [], rfl, wb, w2.heap.size + 1, fw, [w2.heap.size + 1, w2.heap.size], ⟨⟨wd, hB, rfl⟩, (HG.out.upd HU3.out).upd ((Upd.refl [] _).alloc _), ⟨HI.out.upd ((Upd.refl [] _).alloc _) (by simp), fun c hc => ?_, ((HU.out.trans HU2.out).trans HU3.out).alloc _⟩, fun e => ?_, fun e => ?_, fun c hc e => ?_, by omega⟩, SOk.nil _, by simp, rfl⟩, (HU2.out.trans HU3.out).alloc _, fun c hc => ?_⟩
  · simp at hc; omega
  · have := hlw _ e; omega
  · have := hlh _ e; omega
  · have := hlw _ hc; simp at e; omega
  · rcases List.mem_cons.1 hc with rfl | hc
    · omega
    · rcases List.mem_append.1 hc with hc | hc
      · exact HF.out c hc
      · simp at hc; omega

/-! ### The document's -/
set_option maxHeartbeats 4000000 in
theorem rwpush_top {b base wd : Nat} {ao : Option Addr} {cap : Nat} {L : List It} {w : World} (h : RAt w b base wd true ao cap L) (k : Nat) (hk : k < 18446744073709551616) (id : Int) (hlow : base ≤ k) (hl : lev3 wd base k = 3) (hsm : L.length < 1000) :
    Calls Tryz.prog 57 #[.pointer (some ⟨b, 0, none⟩), .agg #[.int .u64 k, .int .i64 id]] w (fun e w' => e = .returned (.bool (!hasI L id)) ∧ RGo b base wd true ao (if hasI L id = true then L else insI ((k : Int), id) L) w w') := by
  have c1 := h.blk.cell (j := 1) rfl
  have c2 := h.blk.cell (j := 2) rfl
  have c3 := h.blk.cell (j := 3) rfl
  have lb := h.blk.lt
  have b64 := h.b64
  have wid := h.wid
  have HL := Lib.hid (fun w => rlev_at (wd := wd) b64 hk hlow wid hl w)
  have HH := Lib.hid h
  have HP : Hid (∀ r L', (!hasI L id) = r → (if hasI L id = true then L else insI ((k : Int), id) L) = L' → ∀ w, ItsAt w b 0 ao cap L → Calls Tryz.prog 49 #[.pointer (some ⟨b, 0, none⟩), .agg #[.int .u64 k, .int .i64 id]] w (fun e w' => e = .returned (.bool r) ∧ ItsGo w b 0 ao L' w')) := by
    intro r L' e1 e2 w h
    subst e1
    subst e2
    exact ri_push b 0 ao cap L ((k : Int), id) w h hsm
  obtain ⟨r, hr⟩ : ∃ r, (!hasI L id) = r := ⟨_, rfl⟩
  obtain ⟨L', hL'⟩ : ∃ L', (if hasI L id = true then L else insI ((k : Int), id) L) = L' := ⟨_, rfl⟩
  rw [hL', hr]
  have HP := Lib.hid (HP.out r L' hr hL')
  clear h b64 wid hsm hr hL'
  go_enter Tryz.func57, Tryz.ntmps57
  go_wp2_with fail
  go_region_held3 (fun w' => Upd [] (w.alloc (.cells #[.int .u64 k, .int .i64 id] 54)) w' ∧ ∀ (b o : Nat), b < (w.alloc (.cells #[.int .u64 k, .int .i64 id] 54)).heap.size → b ∉ ([] : List Nat) → w'.cell? ⟨b, o, none⟩ = (w.alloc (.cells #[.int .u64 k, .int .i64 id] 54)).cell? ⟨b, o, none⟩)
    (first | exact Held.init _ _ | assumption) (first | (go_at_call 75; refine (HL.out _).mono ?_; rintro e w' ⟨rfl, rfl⟩))
  go_wp2_with fail
  go_region_with (go_at_call 49; refine (HP.out _ (HH.out.up (S := []) (by first | exact ((Upd.refl [] w).alloc _) | exact ((Upd.refl [] w).alloc _).drew | exact ((Upd.refl [] w).alloc _).drew.drew) (by simp) (by simp)).its).mono ?_; rintro e w2 ⟨rfl, hgo⟩; have hR := (HH.out.up (S := []) (by first | exact ((Upd.refl [] w).alloc _) | exact ((Upd.refl [] w).alloc _).drew | exact ((Upd.refl [] w).alloc _).drew.drew) (by simp) (by simp)).its_go (w := w) (by first | exact ((Upd.refl [] w).alloc _) | exact ((Upd.refl [] w).alloc _).drew | exact ((Upd.refl [] w).alloc _).drew.drew) hgo; clear hgo; have HR := Lib.hid hR; clear hR)
  go_wp2
  go_ret
  exact ⟨rfl, HR.out⟩
theorem RG.push_all {W w : World} {b base wd : Nat} {L : List It} {fq : List Nat} (h : RG W b base wd true L fq w) (k : Nat) (hk : k < 18446744073709551616) (id : Int) (hsm : L.length < 1000) :
    Calls Tryz.prog 57 #[.pointer (some ⟨b, 0, none⟩), .agg #[.int .u64 k, .int .i64 id]] w (fun e w' => e = .returned (.bool (takeS base L k id)) ∧ RGTo W b base wd true (if takeS base L k id = true then insI ((k : Int), id) L else L) fq w w') := by
  obtain ⟨ao, cap, h1, h2, h3, h4⟩ := h
  unfold takeS
  by_cases hb : base ≤ k
  · have fin : ∀ (e : Ending) (w' : World), (e = .returned (.bool (!hasI L id)) ∧ RGo b base wd true ao (if hasI L id = true then L else insI ((k : Int), id) L) w w') → (e = .returned (.bool (decide (base ≤ k) && !hasI L id)) ∧ RGTo W b base wd true (if (decide (base ≤ k) && !hasI L id) = true then insI ((k : Int), id) L else L) fq w w') := by
      rintro e w' ⟨rfl, hR⟩
      refine ⟨by simp [hb], RG.done h1 h2 h3 h4 ?_⟩
      cases hx : hasI L id with
      | true => rw [hx] at hR; simpa [hb] using hR
      | false => rw [hx] at hR; simpa [hb] using hR
    by_cases hl : lev3 wd base k < 3
    · exact (rwpush_near h1 k hk id hb rfl hl hsm).mono fin
    · have := lev3_le wd base k
      exact (rwpush_top h1 k hk id hb (by omega) hsm).mono fin
  · refine (rwpush_low h1 k hk id (by omega)).mono ?_
    rintro e w' ⟨rfl, hR⟩
    exact ⟨by simp [hb], RG.done h1 h2 h3 h4 (by simpa [hb] using h1.go hR)⟩


/-- How far the count of what lies beyond has come. -/
def OverN (w : World) (base wd : Nat) (L : List It) (nv iv : Value) (wr : World) : Prop := ∃ i : Nat, iv = .int .i64 i ∧ i ≤ L.length ∧ nv = .int .i64 (farN base wd (L.take i)) ∧ Upd [] w wr
theorem farN_snoc {base wd i : Nat} {L : List It} (hi : i < L.length) : farN base wd (L.take (i + 1)) = farN base wd (L.take i) + if lev3 wd base (kn (atI L i)) = 3 then 1 else 0 := by
  unfold farN
  rw [List.take_add_one, List.getElem?_eq_getElem hi, List.filter_append, List.length_append, atI_get L i hi]
  congr 1
  by_cases h : lev3 wd base (kn L[i]) = 3 <;> simp [h]
theorem farN_le (base wd : Nat) (L : List It) : farN base wd L ≤ L.length := List.length_filter_le _ _

/-! ### The pair -/
/-- A shard and the document's wheel that hold the same. -/
def SR (W : World) (sb b base wd : Nat) (L : List It) (fp fq : List Nat) (w : World) : Prop := SL W sb base wd L fp w ∧ RG W b base wd true L fq w ∧ (∀ c ∈ fp, c ∉ fq) ∧ ∀ x ∈ L, x.1 = (kn x : Int) ∧ kn x < 18446744073709551616 ∧ base ≤ kn x
theorem SR.upd {W w w' : World} {sb b base wd : Nat} {L : List It} {fp fq : List Nat} (h : SR W sb b base wd L fp fq w) (hu : Upd [] w w') : SR W sb b base wd L fp fq w' := ⟨h.1.upd hu, h.2.1.upd hu (by simp), h.2.2⟩
theorem SR.updS {W w w' : World} {sb b base wd : Nat} {L : List It} {fp fq S : List Nat} (h : SR W sb b base wd L fp fq w) (hu : Upd S w w') (h1 : ∀ c ∈ fp, c ∉ S) (h2 : ∀ c ∈ fq, c ∉ S) (hS : ∀ c ∈ S, W.heap.size ≤ c) : SR W sb b base wd L fp fq w' := ⟨h.1.updS hu h1 hS, h.2.1.upd hu h2, h.2.2⟩
theorem far_one : farN 0 0 [((262144 : Int), (1 : Int))] = 1 := by decide +kernel
theorem far_two : farN 262144 0 [((262144 : Int), (2 : Int))] = 0 := by decide +kernel

end Go.Proofs.YtolohheflbmfaaaGreatDoor
