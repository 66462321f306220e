/-
  A wheel in memory: where all lies; New, Base, Has, Len, Map. No condition.
-/
import Derived.Test.YtbnifhdnpeiheaaDoorWb
import Derived.Test.YtbnifhdnpeiheaaDoorMap
import Derived.Test.YtbnifhdnpeiheaaDoorRowO
set_option linter.unusedVariables false
set_option linter.unusedSimpArgs false
namespace Go.Proofs.YtbnifhdnpeiheaaDoor
open Go.RowKit

/-- A block whose cells are told by their places. -/
def Cel (w : World) (b : Nat) (ty : TypeId) (n : Nat) (f : Nat → Value) : Prop := ∃ cur : Array Value, w.heap[b]? = some (.cells cur ty (0, 0)) ∧ cur.size = n ∧ ∀ o, o < n → cur[o]? = some (f o)
section
variable {w : World} {b : Nat} {ty : TypeId} {n : Nat} {f : Nat → Value}
theorem Cel.cell (h : Cel w b ty n f) {o : Nat} (ho : o < n) : w.cell? ⟨b, o, none⟩ = some (f o) := by
  obtain ⟨cur, h1, h2, h3⟩ := h
  simp [World.cell?, h1, h3 o ho]
theorem Cel.free (h : Cel w b ty n f) (o : Nat) : w.frozen? ⟨b, o, none⟩ = false := by
  obtain ⟨cur, h1, h2, h3⟩ := h
  simp [World.frozen?, h1]
theorem Cel.lt (h : Cel w b ty n f) : b < w.heap.size := by
  obtain ⟨cur, h1, h2, h3⟩ := h
  rcases Nat.lt_or_ge b w.heap.size with hlt | hge
  · exact hlt
  · rw [Array.getElem?_eq_none hge] at h1; cases h1
theorem Cel.upd {S : List Nat} {w' : World} (h : Cel w b ty n f) (hu : Upd S w w') (hn : b ∉ S) : Cel w' b ty n f := by
  have hl := h.lt
  obtain ⟨cur, h1, h2, h3⟩ := h
  exact ⟨cur, (hu.block b hl hn).trans h1, h2, h3⟩
theorem Cel.set (h : Cel w b ty n f) (o : Nat) (u : Value) : Cel (w.setCell ⟨b, o, none⟩ u) b ty n (fun i => if i = o then u else f i) := by
  obtain ⟨cur, h1, h2, h3⟩ := h
  refine ⟨cur.setIfInBounds o u, heap_setCell_same w b o _ ty u h1, by simp [h2], fun i hi => ?_⟩
  by_cases e : i = o
  · subst e
    simp [h2, hi]
  · simp [e, Array.getElem?_setIfInBounds_ne (Ne.symm e), h3 i hi]
theorem Cel.setFar (h : Cel w b ty n f) {a : Addr} (ha : a.block ≠ b) (u : Value) : Cel (w.setCell a u) b ty n f := by
  obtain ⟨cur, h1, h2, h3⟩ := h
  exact ⟨cur, (Below.heap_setCell _ _ _ _ (fun e => ha e.symm)).trans h1, h2, h3⟩
theorem Cel.drew (h : Cel w b ty n f) : Cel w.drew b ty n f := h
theorem Cel.congr (h : Cel w b ty n f) {g : Nat → Value} (hg : ∀ o, o < n → f o = g o) : Cel w b ty n g := by
  obtain ⟨cur, h1, h2, h3⟩ := h
  exact ⟨cur, h1, h2, fun o ho => by rw [h3 o ho, hg o ho]⟩
end

structure Buc where
  ao : Option Addr
  cap : Nat
  L : List It
def Buc.z : Buc := ⟨none, 0, []⟩
structure WS where
  base : Nat
  wd : Nat
  bk : Nat → Buc
  mw : Nat → Nat
  mb : Nat
  M : AL

def wheelF (s : WS) (o : Nat) : Value :=
  if o = 0 then .int .u64 s.base else if o = 1 then .int .i64 s.wd
  else if o < 194 then .slice (s.bk (o - 2)).ao (s.bk (o - 2)).L.length (s.bk (o - 2)).cap
  else if o < 197 then .int .u64 (s.mw (o - 194)) else .map (some s.mb)
theorem wheelF_base (s : WS) : wheelF s 0 = .int .u64 s.base := rfl
theorem wheelF_wd (s : WS) : wheelF s 1 = .int .i64 s.wd := rfl
theorem wheelF_bk (s : WS) {q : Nat} (hq : q < 192) : wheelF s (2 + q) = .slice (s.bk q).ao (s.bk q).L.length (s.bk q).cap := by
  unfold wheelF
  rw [if_neg (by omega), if_neg (by omega), if_pos (by omega), Nat.add_sub_cancel_left]
theorem wheelF_mw (s : WS) {l : Nat} (hl : l < 3) : wheelF s (194 + l) = .int .u64 (s.mw l) := by
  unfold wheelF
  rw [if_neg (by omega), if_neg (by omega), if_neg (by omega), if_pos (by omega), Nat.add_sub_cancel_left]
theorem wheelF_mb (s : WS) : wheelF s 197 = .map (some s.mb) := rfl

/-- A wheel, at the block wb. -/
structure WhAt (w : World) (wb : Nat) (s : WS) : Prop where
  top : Cel w wb 88 198 (wheelF s)
  rows : ∀ q, q < 192 → RowO w 35 2 (s.bk q).ao (s.bk q).L.length (s.bk q).cap ((s.bk q).L.flatMap itVs)
  map : IMap w s.mb s.M
  ndm : NdM s.M
  d1 : wb ≠ s.mb
  d2 : ∀ q, q < 192 → ∀ c ∈ blkO (s.bk q).ao, c ≠ wb ∧ c ≠ s.mb
  d3 : ∀ q, q < 192 → ∀ r, r < 192 → q ≠ r → ∀ c ∈ blkO (s.bk q).ao, c ∉ blkO (s.bk r).ao
  small : ∀ q, q < 192 → (s.bk q).L.length ≤ 1000
  b64 : s.base < 18446744073709551616
  wd40 : s.wd ≤ 40
  mw64 : ∀ l, l < 3 → s.mw l < 18446744073709551616
  msmall : s.M.length ≤ 1000

/-- In which blocks it lies. -/
def WS.fp (wb : Nat) (s : WS) : List Nat := wb :: s.mb :: (List.range 192).flatMap (fun q => blkO (s.bk q).ao)
theorem WS.mem_fp {wb : Nat} {s : WS} {c : Nat} : c ∈ s.fp wb ↔ c = wb ∨ c = s.mb ∨ ∃ q, q < 192 ∧ c ∈ blkO (s.bk q).ao := by
  unfold WS.fp
  rw [List.mem_cons, List.mem_cons, List.mem_flatMap]
  simp only [List.mem_range]
theorem WhAt.lt {w : World} {wb : Nat} {s : WS} (h : WhAt w wb s) : ∀ c ∈ s.fp wb, c < w.heap.size := by
  intro c hc
  rcases WS.mem_fp.1 hc with rfl | rfl | ⟨q, hq, hc⟩
  · exact h.top.lt
  · exact h.map.lt
  · exact (h.rows q hq).lt c hc
theorem WhAt.upd {S : List Nat} {w w' : World} {wb : Nat} {s : WS} (h : WhAt w wb s) (hu : Upd S w w') (hs : ∀ c ∈ s.fp wb, c ∉ S) : WhAt w' wb s :=
  { h with
    top := h.top.upd hu (hs _ (WS.mem_fp.2 (.inl rfl)))
    rows := fun q hq => (h.rows q hq).upd hu (fun c hc => hs c (WS.mem_fp.2 (.inr (.inr ⟨q, hq, hc⟩))))
    map := h.map.upd hu (hs _ (WS.mem_fp.2 (.inr (.inl rfl)))) }
theorem WhAt.up {w w' : World} {wb : Nat} {s : WS} (h : WhAt w wb s) (hu : Upd [] w w') : WhAt w' wb s := h.upd hu (by simp)

def newWS (wd : Int) (mb : Nat) : WS := { base := 0, wd := heldN wd, bk := fun _ => Buc.z, mw := fun _ => 0, mb := mb, M := [] }
def zeroW (o : Nat) : Value := if o = 0 then .int .u64 0 else if o = 1 then .int .i64 0 else if o < 194 then .slice none 0 0 else if o < 197 then .int .u64 0 else .map none
theorem zeroWheel : Tryd.zeroCells88.toList = (List.range 198).map zeroW := by kernel_rfl
theorem zeroWheel_at (o : Nat) (ho : o < 198) : Tryd.zeroCells88[o]? = some (zeroW o) := by
  rw [← Array.getElem?_toList, zeroWheel]
  simp [ho]
theorem zeroWheel_size : Tryd.zeroCells88.size = 198 := by
  rw [← Array.length_toList, zeroWheel]; simp

theorem wnew_cel (wd : Int) (w : World) : Cel ((w.alloc (.map #[] 0)).alloc (.cells ((Tryd.zeroCells88.setIfInBounds 1 (.int .i64 (heldN wd))).setIfInBounds 197 (.map (some w.heap.size))) 88)) (w.heap.size + 1) 88 198 (wheelF (newWS wd w.heap.size)) := by
  refine ⟨_, (heap_two w _ _).2, by simp [zeroWheel_size], fun o ho => ?_⟩
  by_cases e1 : o = 197
  · subst e1
    simp [zeroWheel_size, wheelF_mb, newWS]
  · rw [Array.getElem?_setIfInBounds_ne (Ne.symm e1)]
    by_cases e2 : o = 1
    · subst e2
      simp [zeroWheel_size, wheelF_wd, newWS]
    · rw [Array.getElem?_setIfInBounds_ne (Ne.symm e2), zeroWheel_at o ho]
      congr 1
      unfold zeroW wheelF newWS Buc.z
      by_cases e0 : o = 0
      · simp [e0]
      · simp only [e0, e2, if_false]
        split
        · rfl
        · split
          · rfl
          · omega

def NewW (wd : Int) (w : World) (e : Ending) (w' : World) : Prop := e = .returned (.pointer (some ⟨w.heap.size + 1, 0, none⟩)) ∧ WhAt w' (w.heap.size + 1) (newWS wd w.heap.size) ∧ Upd [] w w'
set_option maxRecDepth 100000 in
set_option maxHeartbeats 4000000 in
theorem wnew_any (wd : Int) (w : World) : Calls Tryd.prog 63 #[.int .i64 wd] w (NewW wd w) := by
  have hmk : (Instr.makeMap 86 none).run Tryd.prog w = .ok (.map (some w.heap.size)) (w.alloc (.map #[] 0)) := rfl
  go_enter Tryd.func63, Tryd.ntmps63
  go_wp2_with fail
  refine (held_any wd w).mono ?_
  rintro e w2 ⟨rfl, rfl⟩
  go_wp2
  go_ret
  refine ⟨rfl, { top := wnew_cel wd w, rows := fun q hq => RowO.nil _ _ _, map := (IMap.new w).upd ((Upd.refl [] _).alloc _) (by simp), ndm := by simp [newWS, NdM], d1 := by simp [newWS], d2 := by simp [newWS, Buc.z, blkO], d3 := by simp [newWS, Buc.z, blkO], small := by simp [newWS, Buc.z], b64 := by simp [newWS], wd40 := heldN_le wd, mw64 := by simp [newWS], msmall := by simp [newWS] }, ((Upd.refl [] w).alloc _).alloc _⟩

theorem wbase_any (wb : Nat) (s : WS) (w : World) (h : WhAt w wb s) : Calls Tryd.prog 35 #[.pointer (some ⟨wb, 0, none⟩)] w (fun e w' => e = .returned (.int .u64 s.base) ∧ w = w') := by
  have c0 := h.top.cell (o := 0) (by omega)
  rw [wheelF_base] at c0
  clear h
  go_enter Tryd.func35, Tryd.ntmps35
  go_wp2
  go_ret
  exact ⟨rfl, rfl⟩
theorem underlyingU64Map : Tryd.prog.underlying 86 = some (.map 3 29) := by kernel_rfl
theorem underlyingInt5 : Tryd.prog.underlying 3 = some (.int .i64) := by kernel_rfl
theorem zeroU64 (w : World) : (zeroValue 29).run Tryd.prog w = .ok (.int .u64 0) w := by kernel_rfl

theorem whas_any (wb : Nat) (s : WS) (id : Int) (w : World) (h : WhAt w wb s) : Calls Tryd.prog 71 #[.pointer (some ⟨wb, 0, none⟩), .int .i64 id] w (fun e w' => e = .returned (.bool (lookM s.M id).isSome) ∧ w = w') := by
  have c0 := h.top.cell (o := 197) (by omega)
  rw [wheelF_mb] at c0
  have hl := h.map.look (P := Tryd.prog) underlyingU64Map underlyingInt5 zeroU64 id true
  simp only [if_true] at hl
  obtain ⟨v, hv⟩ : ∃ v, (lookM s.M id).getD (.int .u64 0) = v := ⟨_, rfl⟩
  rw [hv] at hl
  obtain ⟨b, hbb⟩ : ∃ b, (lookM s.M id).isSome = b := ⟨_, rfl⟩
  rw [hbb] at hl ⊢
  clear h hv hbb
  go_enter Tryd.func71, Tryd.ntmps71
  go_wp2
  go_ret
  exact ⟨rfl, rfl⟩
theorem wlen_any (wb : Nat) (s : WS) (w : World) (h : WhAt w wb s) : Calls Tryd.prog 39 #[.pointer (some ⟨wb, 0, none⟩)] w (fun e w' => e = .returned (.int .i64 s.M.length) ∧ w = w') := by
  have c0 := h.top.cell (o := 197) (by omega)
  rw [wheelF_mb] at c0
  have hl := h.map.len_ (P := Tryd.prog) underlyingU64Map 3
  clear h
  go_enter Tryd.func39, Tryd.ntmps39
  go_wp2
  go_ret
  exact ⟨rfl, rfl⟩
theorem wmap_any (wb l : Nat) (hl : l < 3) (s : WS) (w : World) (h : WhAt w wb s) : Calls Tryd.prog 19 #[.pointer (some ⟨wb, 0, none⟩), .int .i64 l] w (fun e w' => e = .returned (.int .u64 (s.mw l)) ∧ w = w') := by
  have c0 := h.top.cell (o := 194 + l) (by omega)
  rw [wheelF_mw s hl] at c0
  have t1 : decide ((l : Int) < 0) = false := by simp
  have t2 : decide ((3 : Int) ≤ (l : Int)) = false := by simp; omega
  have t3 : decide (3 ≤ l) = false := by simp; omega
  have b1 : (l : Int) < 3 := by omega
  clear h
  go_enter Tryd.func19, Tryd.ntmps19
  go_wp2
  go_ret
  exact ⟨rfl, rfl⟩
theorem wmap_out (wb : Nat) (l : Int) (hl : l < 0 ∨ 3 ≤ l) (w : World) : Calls Tryd.prog 19 #[.pointer (some ⟨wb, 0, none⟩), .int .i64 l] w (fun e w' => e = .returned (.int .u64 0) ∧ w = w') := by
  rcases hl with hl | hl
  · have t1 : decide (l < 0) = true := by simp; omega
    go_enter Tryd.func19, Tryd.ntmps19
    go_wp2
    go_ret
    exact ⟨rfl, rfl⟩
  · have t1 : decide (l < 0) = false := by simp; omega
    have t2 : decide (3 ≤ l) = true := by simp; omega
    go_enter Tryd.func19, Tryd.ntmps19
    go_wp2
    go_ret
    exact ⟨rfl, rfl⟩
end Go.Proofs.YtbnifhdnpeiheaaDoor
