/-
  The heap's Min, Drop and Pop as laws over the items in order. No condition.
-/
import Derived.Test.YtilibinmbmgedaaHeapI
namespace Go.Proofs.Ytilibinmbmgedaa
open Go.RowKit

def itV (x : It) (b : Bool) : Value := .tuple #[.agg #[.int .u64 x.1, .int .i64 x.2], .bool b]
def firstV : List It → Value | [] => itV zIt false | x :: _ => itV x true
def dropV (L : List It) (id : Int) : Value := match findI L id with | none => itV zIt false | some x => itV x true

theorem HeapIs.first {w : World} {hb cap mb : Nat} {ao : Option Addr} {A : List It} {x : It} {L : List It} (h : HpAt w hb ao cap mb A) (ho : HeapOrd A) (hp : A.Perm (x :: L)) (hs : Srt (x :: L)) : A.length ≠ 0 ∧ atI A 0 = x := by
  have hl : A.length = L.length + 1 := by rw [hp.length_eq]; rfl
  refine ⟨by omega, ?_⟩
  have hx : x ∈ A := hp.mem_iff.2 (by simp)
  obtain ⟨j, hj, e⟩ := List.getElem_of_mem hx
  have h1 := ord_first ho j hj
  rw [atI_get A j hj, e] at h1
  have h0 : atI A 0 ∈ x :: L := hp.mem_iff.1 (by rw [atI_get A 0 (by omega)]; exact List.getElem_mem _)
  rcases List.mem_cons.1 h0 with h0 | h0
  · exact h0
  · have := (List.pairwise_cons.1 hs).1 _ h0
    rw [this] at h1; cases h1

theorem heap_min (hb : Nat) (L : List It) (fp : List Nat) (w : World) (h : HeapIs w hb L fp) :
    Calls Try.prog 26 #[.pointer (some ⟨hb, 0, none⟩)] w (RetUpd [] w (firstV L)) := by
  obtain ⟨ao, cap, mb, A, h1, h2, h3, h4, rfl⟩ := h
  refine (min_at hb ao cap mb A w h1).mono ?_
  rintro e w' ⟨hU, ⟨h0, rfl⟩ | ⟨h0, rfl⟩⟩
  · have : L.length = 0 := by rw [← h3.length_eq]; exact h0
    obtain rfl := List.eq_nil_of_length_eq_zero this
    exact ⟨rfl, hU⟩
  · cases L with
    | nil => have := h3.length_eq; simp at this; rw [this] at h0; exact absurd rfl h0
    | cons x L =>
      rw [(HeapIs.first h1 h2 h3 h4).2]
      exact ⟨rfl, hU⟩

theorem heap_drop (hb : Nat) (L : List It) (fp : List Nat) (id : Int) (w : World) (h : HeapIs w hb L fp) :
    Calls Try.prog 17 #[.pointer (some ⟨hb, 0, none⟩), .int .i64 id] w (HeapTo w hb fp (dropV L id) (dropI L id)) := by
  obtain ⟨ao, cap, mb, A, h1, h2, h3, h4, rfl⟩ := h
  cases hx : hasI L id with
  | false =>
    refine (drop_no hb ao cap mb A id w h1 (by rw [hasI_perm h3]; exact hx)).mono ?_
    rintro e w' ⟨rfl, hU⟩
    refine ⟨by unfold dropV; rw [findI_none.2 hx]; rfl, _, ⟨ao, cap, mb, A, h1.upd hU (by simp) (by simp) (by simp), h2, by rw [dropI_none hx]; exact h3, dropI_srt h4 _, rfl⟩, fun b hb => .inl hb, hU.nil⟩
  | true =>
    refine (drop_yes hb ao cap mb A id w h1 (by rw [hasI_perm h3]; exact hx)).mono ?_
    rintro e w' ⟨i, last, hi, hl, hid, rfl, hH, hU⟩
    have hf : findI L id = some (atI A i) := by
      rw [← findI_perm h1.nd h3, ← hid]
      exact findI_of h1.nd (by rw [atI_get A i hi]; exact List.getElem_mem hi)
    refine ⟨by unfold dropV; rw [hf]; rfl, _, ⟨ao, cap, mb, _, hH, fin_ord h2 hl hi, ?_, dropI_srt h4 _, rfl⟩, fun b hb => .inl hb, hU⟩
    have := fin_perm h1.nd hl hi rfl
    rw [hid] at this
    exact this.trans (dropI_perm h3 id)

theorem find_head (x : It) (L : List It) : findI (x :: L) x.2 = some x := by unfold findI; simp
theorem drop_head {x : It} {L : List It} (h : NdI (x :: L)) : dropI (x :: L) x.2 = L := by
  unfold dropI
  rw [List.filter_cons]
  simp only [beq_self_eq_true, Bool.not_true, Bool.false_eq_true, if_false]
  have hn : hasI L x.2 = false := by
    rw [hasI_no]
    intro y hy e
    unfold NdI at h
    rw [List.map_cons, List.nodup_cons] at h
    exact h.1 (by rw [← e]; exact List.mem_map_of_mem hy)
  have := dropI_none hn
  unfold dropI at this
  exact this

set_option maxHeartbeats 8000000 in
theorem heap_pop_nil (hb : Nat) (fp : List Nat) (w : World) (h : HeapIs w hb [] fp) :
    Calls Try.prog 15 #[.pointer (some ⟨hb, 0, none⟩)] w (HeapTo w hb fp (firstV []) []) := by
  have HH := Lib.hid h
  clear h
  go_enter Try.func15, Try.ntmps15
  go_wp2_with fail
  refine (heap_min hb [] fp _ (HH.out.upd ((Upd.refl [] w).alloc _) (by simp))).mono ?_
  rintro e w2 ⟨rfl, hU2⟩
  unfold firstV itV
  have hU := ((Upd.refl [] w).alloc (.cells #[.int .u64 0, .int .i64 0] 37)).trans hU2
  have HU := Lib.hid hU
  have hR := (Blk.new w 37 [.int .u64 0, .int .i64 0]).upd hU2 (by simp)
  have k0 := hR.cell (j := 0) rfl
  have k1 := hR.cell (j := 1) rfl
  have z0 := hR.free 0
  have z1 := hR.free 1
  have lr := hR.lt
  clear hU hU2 hR
  go_wp2
  obtain ⟨s0, s1⟩ := two_set (w := w2.alloc (.cells #[.int .u64 zIt.1, .int .i64 zIt.2] 37)) rfl rfl (by rw [World.cell?_alloc_past _ _ _ (by simpa using lr)]; exact k0) (by rw [World.cell?_alloc_past _ _ _ (by simpa using lr)]; exact k1) (.int .u64 0) (.int .i64 0)
  have hUf := ((HU.out.mono (T := [w.heap.size]) (fun _ _ hm => by cases hm)).setCell (p := ⟨w.heap.size, 0, none⟩) (.inl (by simp)) (.int .u64 0)).setCell (p := ⟨w.heap.size, 1, none⟩) (.inl (by simp)) (.int .i64 0) |>.alloc (.cells #[.int .u64 zIt.1, .int .i64 zIt.2] 37)
  refine bodyPost_ret (v := .tuple #[.agg #[.int .u64 0, .int .i64 0], .bool false]) (by simp [results, Try.results15, go_sem, lr, k0, k1]) rfl ⟨rfl, fp, HH.out.upd hUf (fun b hb => by have := HH.out.lt b hb; simp; omega), fun b hb => .inl hb, hUf.mono (fun b hb hm => by simp at hm; omega)⟩

set_option maxHeartbeats 8000000 in
theorem heap_pop_cons (hb : Nat) (x : It) (L : List It) (fp : List Nat) (w : World) (h : HeapIs w hb (x :: L) fp) :
    Calls Try.prog 15 #[.pointer (some ⟨hb, 0, none⟩)] w (HeapTo w hb fp (firstV (x :: L)) L) := by
  have HH := Lib.hid h
  clear h
  go_enter Try.func15, Try.ntmps15
  go_wp2_with fail
  refine (heap_min hb (x :: L) fp _ (HH.out.upd ((Upd.refl [] w).alloc _) (by simp))).mono ?_
  rintro e w2 ⟨rfl, hU2⟩
  unfold firstV itV
  have hU := ((Upd.refl [] w).alloc (.cells #[.int .u64 0, .int .i64 0] 37)).trans hU2
  have HU := Lib.hid hU
  have hR := (Blk.new w 37 [.int .u64 0, .int .i64 0]).upd hU2 (by simp)
  have HR := Lib.hid hR
  have lr := hR.lt
  clear hU hU2 hR
  go_wp2_with fail
  refine (heap_drop hb (x :: L) fp x.2 _ ((HH.out.upd HU.out (by simp)).upd ((Upd.refl [] w2).alloc _) (by simp))).mono ?_
  rintro e w4 ⟨rfl, fp', hH4, hfp, hU4⟩
  have hnd := HH.out.nd
  rw [drop_head hnd] at hH4
  have hdv : dropV (x :: L) x.2 = itV x true := by unfold dropV; rw [find_head]
  rw [hdv]
  unfold itV
  have hr4 := (HR.out.alloc (.cells #[.int .u64 x.1, .int .i64 x.2] 37)).upd hU4 (fun e => by have := HH.out.lt _ e; omega)
  have k0 := hr4.cell (j := 0) rfl
  have k1 := hr4.cell (j := 1) rfl
  have z0 := hr4.free 0
  have z1 := hr4.free 1
  have HH4 := Lib.hid hH4
  have HU4 := Lib.hid hU4
  have HFP := Lib.hid hfp
  have hs2 : w.heap.size ≤ w2.heap.size := by omega
  clear hH4 hU4 hfp hr4 hnd hdv
  go_wp2
  obtain ⟨s0, s1⟩ := two_set (w := w4) rfl rfl k0 k1 (.int .u64 x.1) (.int .i64 x.2)
  have hnf : w.heap.size ∉ fp' := fun e => by
    rcases HFP.out _ e with e | e
    · have := HH.out.lt _ e; omega
    · simp at e; omega
  refine bodyPost_ret (v := .tuple #[.agg #[.int .u64 x.1, .int .i64 x.2], .bool true]) (by simp [results, Try.results15, go_sem, s0, s1]) rfl ⟨rfl, fp', HH4.out.upd (((Upd.refl [w.heap.size] _).setCell (by simp) _).setCell (by simp) _) (fun b hb => by simp; exact fun e => hnf (e ▸ hb)), fun b hb => ?_, ?_⟩
  · rcases HFP.out b hb with e | e
    · exact .inl e
    · simp at e; right; omega
  · exact (((HU.out.nil.alloc _).trans HU4.out).setCell (.inr (by simp)) _).setCell (.inr (by simp)) _

theorem heap_pop (hb : Nat) (L : List It) (fp : List Nat) (w : World) (h : HeapIs w hb L fp) :
    Calls Try.prog 15 #[.pointer (some ⟨hb, 0, none⟩)] w (HeapTo w hb fp (firstV L) L.tail) := by
  cases L with
  | nil => exact heap_pop_nil hb fp w h
  | cons x L => exact heap_pop_cons hb x L fp w h
end Go.Proofs.Ytilibinmbmgedaa
