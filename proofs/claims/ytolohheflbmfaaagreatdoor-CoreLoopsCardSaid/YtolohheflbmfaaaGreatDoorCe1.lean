/-
  The walks of core.New, Wake. No condition.
-/
import Derived.Test.YtolohheflbmfaaaGreatDoorCc
import Derived.Test.YtolohheflbmfaaaGreatDoorCb
import Derived.Test.YtolohheflbmfaaaGreatDoorMapF
set_option linter.unusedVariables false
set_option linter.unusedSimpArgs false
namespace Go.Proofs.YtolohheflbmfaaaGreatDoor
open Go.RowKit
theorem underlyingThMap : Tryz.prog.underlying 78 = some (.map 3 75) := by kernel_rfl
theorem underlyingOwMap : Tryz.prog.underlying 79 = some (.map 3 3) := by kernel_rfl
theorem underlyingIntC : Tryz.prog.underlying 3 = some (.int .i64) := by kernel_rfl
theorem zeroThing (w : World) : (zeroValue 75).run Tryz.prog w = .ok (thV zTh) w := by kernel_rfl
theorem zeroIntC (w : World) : (zeroValue 3).run Tryz.prog w = .ok (.int .i64 0) w := by kernel_rfl

def NewK (W w : World) (sh wd : Int) (e : Ending) (w' : World) : Prop := ∃ kb F, e = .returned (.pointer (some ⟨kb, 0, none⟩)) ∧ KG W kb (heldN wd) (newC (leavesOf sh)) F w' ∧ Upd [] w w' ∧ ∀ c ∈ F, w.heap.size ≤ c
theorem newk_done {W w w2 w5 : World} {qb m V : Nat} {fp : List Nat} (hU : Upd [] w w2) (hW : W.heap.size ≤ w.heap.size) (hQ : QG W qb V (zeroM m) [] fp w2) (hf : ∀ c ∈ fp, w.heap.size ≤ c) {wa wb : World} (ha : wa = w2.alloc (.map #[] 0)) (hb : wb = wa.alloc (.map #[] 0))
    (h5 : w5 = wb.alloc (.cells #[mval qb 51, mval qb 52, mval qb 53, .int .u64 0, .int .u64 0, .int .i64 0, .map (some w2.heap.size), .map (some (w2.heap.size + 1)), .bool false, .int .i64 0, .int .u64 0] 83)) :
    ∃ F, KG W (w2.heap.size + 1 + 1) V (newC m) F w5 ∧ Upd [] w w5 ∧ ∀ c ∈ F, w.heap.size ≤ c := by
  rw [← show wb.heap.size = w2.heap.size + 1 + 1 by rw [hb, ha]; simp]
  rw [← show wa.heap.size = w2.heap.size + 1 by rw [ha]; simp] at h5
  have sa : wa.heap.size = w2.heap.size + 1 := by rw [ha]; simp
  have sb : wb.heap.size = w2.heap.size + 2 := by rw [hb]; simp [sa]
  have hs := hU.size
  have ma : IMap wa w2.heap.size [] := by rw [ha]; exact IMap.new w2
  have mb : IMap wb wa.heap.size [] := by rw [hb]; exact IMap.new wa
  have ua : Upd [] w2 wa := by rw [ha]; exact (Upd.refl [] w2).alloc _
  have ub : Upd [] wa wb := by rw [hb]; exact (Upd.refl [] wa).alloc _
  have hlt := hQ.lt
  have key : ∀ (tb ob : Nat), ((tb = wa.heap.size ∧ ob = w2.heap.size) ∨ (tb = w2.heap.size ∧ ob = wa.heap.size)) → w5 = wb.alloc (.cells #[mval qb 51, mval qb 52, mval qb 53, .int .u64 0, .int .u64 0, .int .i64 0, .map (some tb), .map (some ob), .bool false, .int .i64 0, .int .u64 0] 83) →
      ∃ F, KG W wb.heap.size V (newC m) F w5 ∧ Upd [] w w5 ∧ ∀ c ∈ F, w.heap.size ≤ c := by
    intro tb ob hto hw
    have u5 : Upd [] wb w5 := by rw [hw]; exact (Upd.refl [] wb).alloc _
    have hB : Blk w5 wb.heap.size 83 [mval qb 51, mval qb 52, mval qb 53, .int .u64 0, .int .u64 0, .int .i64 0, .map (some tb), .map (some ob), .bool false, .int .i64 0, .int .u64 0] := by rw [hw]; exact Blk.new wb 83 [mval qb 51, mval qb 52, mval qb 53, .int .u64 0, .int .u64 0, .int .i64 0, .map (some tb), .map (some ob), .bool false, .int .i64 0, .int .u64 0]
    have e1 : IMap w5 wa.heap.size [] := mb.upd u5 (by simp)
    have e2 : IMap w5 w2.heap.size [] := (ma.upd ub (by simp)).upd u5 (by simp)
    have htb : IMap w5 tb [] := by rcases hto with ⟨rfl, rfl⟩ | ⟨rfl, rfl⟩ <;> assumption
    have hob : IMap w5 ob [] := by rcases hto with ⟨rfl, rfl⟩ | ⟨rfl, rfl⟩ <;> assumption
    refine ⟨_, ⟨qb, tb, ob, [], [], fp, { blk := hB, tm := htb, om := hob, th := fun _ => rfl, ow := fun _ => rfl, q := ((hQ.upd ua).upd ub).upd u5, d1 := by omega, d2 := by omega, d3 := by omega, far := fun c hc e => ?_, new := fun c hc => ?_ }, rfl⟩, ((hU.trans ua).trans ub).trans u5, fun c hc => ?_⟩
    · have := hlt c e
      simp only [List.mem_cons, List.not_mem_nil, or_false] at hc
      omega
    · simp only [List.mem_cons, List.not_mem_nil, or_false] at hc
      omega
    · simp only [List.mem_cons] at hc
      rcases hc with h | h | h | h
      · omega
      · omega
      · omega
      · exact hf c h
  exact key _ _ (.inr ⟨rfl, rfl⟩) h5

set_option maxRecDepth 100000 in
set_option maxHeartbeats 8000000 in
theorem KG.new {W w : World} (hU : Upd [] W w) (hT : TabAt 0 Lib.deBruijn64tab W) (sh slots workers wd : Int) (unit : Int) : Calls Tryz.prog 33 #[.agg #[.int .i64 sh, .int .i64 slots, .int .i64 workers, .int .i64 wd, .int .u64 unit]] w (NewK W w sh wd) := by
  have HN : Hid (∀ w', Upd [] w w' → Calls Tryz.prog 50 #[.int .i64 sh, .int .i64 wd] w' (NewQ W w' sh wd)) := fun w' hu => QG.new (hU.trans hu) hT sh wd
  have HS := Lib.hid hU.size
  clear hU hT
  go_enter Tryz.func33, Tryz.ntmps33
  go_wp2_with fail
  refine (HN.out _ ((Upd.refl [] w).alloc _)).mono ?_
  rintro e w2 ⟨qb, fp, rfl, hQ, hU2, hf⟩
  have HQ := Lib.hid hQ
  have HU2 := Lib.hid (((Upd.refl [] w).alloc (.cells #[.int .i64 sh, .int .i64 slots, .int .i64 workers, .int .i64 wd, .int .u64 unit] 24)).trans hU2)
  have HF : Hid (∀ c ∈ fp, w.heap.size ≤ c) := fun c hc => by have := hf c hc; simp at this; omega
  clear hQ hU2 hf
  have hm1 : (Instr.makeMap 78 none).run Tryz.prog w2 = .ok (.map (some w2.heap.size)) (w2.alloc (.map #[] 0)) := rfl
  have hm2 : (Instr.makeMap 79 none).run Tryz.prog (w2.alloc (.map #[] 0)) = .ok (.map (some (w2.alloc (.map #[] 0)).heap.size)) ((w2.alloc (.map #[] 0)).alloc (.map #[] 0)) := rfl
  go_wp2
  go_ret
  obtain ⟨F, k1, k2, k3⟩ := newk_done HU2.out HS.out HQ.out HF.out rfl rfl rfl
  exact ⟨_, F, by first | rfl | simp, k1, k2, k3⟩

end Go.Proofs.YtolohheflbmfaaaGreatDoor
