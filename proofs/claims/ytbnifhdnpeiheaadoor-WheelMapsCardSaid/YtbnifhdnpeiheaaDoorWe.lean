/-
  The walk of the wheel's Push. No condition.
-/
import Derived.Test.YtbnifhdnpeiheaaDoorWd
set_option linter.unusedVariables false
set_option linter.unusedSimpArgs false
namespace Go.Proofs.YtbnifhdnpeiheaaDoor
open Go.RowKit

theorem putM_len {M : AL} {k : Int} {v : Value} (h : lookM M k = none) : (putM M k v).length = M.length + 1 := by
  induction M with
  | nil => rfl
  | cons p r ih =>
    obtain ⟨a, x⟩ := p
    simp only [lookM] at h
    simp only [putM]
    by_cases e : k = a
    · rw [if_pos e] at h; cases h
    · rw [if_neg e] at h ⊢
      rw [List.length_cons, ih h, List.length_cons]
theorem WhAt.withM {w w' : World} {wb : Nat} {s : WS} {M' : AL} (h : WhAt w wb s) (hto : MapTo w s.mb M' w') (hnd : NdM M') (hl : M'.length ≤ 1000) : WhAt w' wb { s with M := M' } :=
  { top := (h.top.upd hto.upd (by simp; exact h.d1)).congr (fun o _ => rfl)
    rows := fun q hq => (h.rows q hq).upd hto.upd (fun c hc => by simp; exact (h.d2 q hq c hc).2)
    map := hto.map
    ndm := hnd
    d1 := h.d1, d2 := h.d2, d3 := h.d3, small := h.small, b64 := h.b64, wd40 := h.wd40, mw64 := h.mw64, msmall := hl }

/-- Does a key find a place? -/
def fits (s : WS) (k : Nat) : Bool := decide (s.base ≤ k) && decide (lev3 s.wd s.base k < 3)

set_option maxRecDepth 100000 in
set_option maxHeartbeats 4000000 in
theorem wpush_no (wb : Nat) (k : Nat) (x : Int) (hk : k < 18446744073709551616) (s : WS) (w : World) (h : WhAt w wb s) (hf : fits s k = false ∨ (lookM s.M x).isSome = true) :
    Calls Tryd.prog 65 #[.pointer (some ⟨wb, 0, none⟩), .agg #[.int .u64 k, .int .i64 x]] w (RetUpd [] w (.bool false)) := by
  have HH := Lib.hid h
  cases hfit : fits s k with
  | false =>
    have hl : k < s.base ∨ lev3 s.wd s.base k = 3 := by
      unfold fits at hfit
      have := lev3_le s.wd s.base k
      simp at hfit
      omega
    have HPL := Lib.hid (fun w h => place_no wb k hk s w h hl)
    clear h hf hfit hl
    go_enter Tryd.func65, Tryd.ntmps65
    go_wp2_with fail
    refine (HPL.out _ (HH.out.up ((Upd.refl [] w).alloc _))).mono ?_
    rintro e w2 ⟨rfl, hU⟩
    go_wp2
    go_ret
    exact ⟨rfl, ((Upd.refl [] w).alloc _).trans hU⟩
  | true =>
    have hhas : Hid ((lookM s.M x).isSome = true) := by
      rcases hf with hf | hf
      · rw [hfit] at hf; cases hf
      · exact hf
    unfold fits at hfit
    simp at hfit
    obtain ⟨l, hl⟩ : ∃ l, lev3 s.wd s.base k = l := ⟨_, rfl⟩
    have HPL := Lib.hid (fun w h => place_yes wb k l hk s w h hfit.1 hl (by omega))
    have HB1 := Lib.hid (Blk.new w 35 [.int .u64 k, .int .i64 x])
    clear h hf hfit hl
    go_enter Tryd.func65, Tryd.ntmps65
    go_wp2_with fail
    refine (HPL.out _ (HH.out.up ((Upd.refl [] w).alloc _))).mono ?_
    rintro e w2 ⟨rfl, hU⟩
    have HU2 : Hid (Upd [] w w2) := ((Upd.refl [] w).alloc _).trans hU
    have hB2 := HB1.out.upd hU (by simp)
    have y0 := hB2.cell (j := 0) rfl
    have y1 := hB2.cell (j := 1) rfl
    have ly := hB2.lt
    clear hU hB2
    go_wp2_with fail
    refine (whas_any wb s x _ (HH.out.up HU2.out)).mono ?_
    rintro e w3 ⟨rfl, rfl⟩
    rw [hhas.out]
    go_wp2
    go_ret
    exact ⟨rfl, HU2.out⟩

/-- What a push that took leaves. -/
def PushTo (wb : Nat) (s : WS) (l b : Nat) (k : Nat) (x : Int) (w w' : World) : Prop :=
  ∃ ao cap, WhAt w' wb (putS { s with M := putM s.M x (.int .u64 k) } l b (k, x) ao cap) ∧ (∀ c ∈ blkO ao, c ∈ blkO (s.bk (l * 64 + b)).ao ∨ w.heap.size ≤ c) ∧ Upd (wb :: s.mb :: blkO (s.bk (l * 64 + b)).ao) w w'

set_option maxRecDepth 100000 in
set_option maxHeartbeats 4000000 in
theorem wpush_yes (wb l : Nat) (k : Nat) (x : Int) (hk : k < 18446744073709551616) (s : WS) (w : World) (h : WhAt w wb s) (hb : s.base ≤ k) (hl : lev3 s.wd s.base k = l) (hl3 : l < 3) (hno : lookM s.M x = none) (hsm : (s.bk (l * 64 + bucN s.wd k l)).L.length < 1000) (hms : s.M.length < 1000) :
    Calls Tryd.prog 65 #[.pointer (some ⟨wb, 0, none⟩), .agg #[.int .u64 k, .int .i64 x]] w (fun e w' => e = .returned (.bool true) ∧ PushTo wb s l (bucN s.wd k l) k x w w') := by
  have HH := Lib.hid h
  have hhas : Hid ((lookM s.M x).isSome = false) := by unfold Hid; rw [hno]; rfl
  have HPL := Lib.hid (fun w h => place_yes wb k l hk s w h hb hl hl3)
  have HPU := Lib.hid (fun (M : AL) w (h : WhAt w wb { s with M := M }) => wput_any wb l x k hk { s with M := M } w h hb hl hl3 hsm)
  have HB1 := Lib.hid (Blk.new w 35 [.int .u64 k, .int .i64 x])
  have HNO := Lib.hid hno
  have lw := h.top.lt
  clear h hb hl hsm hno
  go_enter Tryd.func65, Tryd.ntmps65
  go_wp2_with fail
  refine (HPL.out _ (HH.out.up ((Upd.refl [] w).alloc _))).mono ?_
  rintro e w2 ⟨rfl, hU⟩
  have HU2 : Hid (Upd [] w w2) := ((Upd.refl [] w).alloc _).trans hU
  have hB2 := HB1.out.upd hU (by simp)
  have y0 := hB2.cell (j := 0) rfl
  have y1 := hB2.cell (j := 1) rfl
  have ly := hB2.lt
  have HB2 := Lib.hid hB2
  clear hU hB2
  go_wp2_with fail
  refine (whas_any wb s x _ (HH.out.up HU2.out)).mono ?_
  rintro e w3 ⟨rfl, rfl⟩
  rw [hhas.out]
  have hT2 := (HH.out.up HU2.out).top
  have c0 := hT2.cell (o := 197) (by omega)
  rw [wheelF_mb] at c0
  have lw2 := hT2.lt
  obtain ⟨w3, hput, hto⟩ := ((HH.out.up HU2.out.drew).map).put (P := Tryd.prog) underlyingU64Map underlyingInt5 x (.int .u64 k)
  have HW3 : Hid (WhAt w3 wb { s with M := putM s.M x (.int .u64 k) }) := (HH.out.up HU2.out.drew).withM hto (HH.out.ndm.put x _) (by rw [putM_len HNO.out]; omega)
  have x0 := (hto.cells ⟨w.heap.size, 0, none⟩).trans y0
  have x1 := (hto.cells ⟨w.heap.size, 1, none⟩).trans y1
  have lx : w.heap.size < w3.heap.size := by have := hto.size; simp at this; omega
  have HTO := Lib.hid hto
  clear hT2 hto
  go_wp2
  go_region
  go_wp2_with fail
  refine (HPU.out _ _ HW3.out).mono ?_
  rintro e w4 ⟨rfl, hp⟩
  obtain ⟨ao, cap, h1, h2, h3⟩ := hp
  go_wp2
  go_ret
  have hs2 := HU2.out.size
  have hs3 : w2.heap.size = w3.heap.size := by have := HTO.out.size; simpa using this.symm
  refine ⟨rfl, ao, cap, h1, fun c hc => ?_, ?_⟩
  · rcases h2 c hc with e | e
    · exact .inl e
    · right; omega
  · refine ((HU2.out.drew.nil (S := wb :: s.mb :: blkO (s.bk (l * 64 + bucN s.wd k l)).ao)).trans (HTO.out.upd.mono (fun i _ hm => by simp at hm; simp [hm]))).trans (h3.mono (fun i _ hm => ?_))
    simp at hm ⊢
    rcases hm with e | e
    · exact .inl e
    · exact .inr (.inr e)
end Go.Proofs.YtbnifhdnpeiheaaDoor
