/-
  The program's model in memory. No condition.
-/
import Derived.Test.YtmfndemnogpmcaaMd
set_option linter.unusedVariables false
set_option linter.unusedSimpArgs false
namespace Go.Proofs.Ytmfndemnogpmcaa
open Go.RowKit

def lenM (F : List Fl) : AL := F.map (fun f => (f.id, .int .i64 (f.L.length : Int)))
structure MAt (W w : World) (mb sb lb : Nat) (c : Cf) (m : Ms) (M : AL) (GS : List Nat) : Prop where
  blk : Blk w mb 105 [.int .i64 c.sh, .int .i64 c.sl, .int .i64 c.wo, .int .i64 c.wd, .int .u64 c.unit, .pointer (some ⟨sb, 0, none⟩), .map (some lb), .int .i64 m.n]
  s : PG W sb m.S GS w
  lens : IMap w lb M
  lm : M.Perm (lenM m.S.F)
  d : mb ≠ lb
  far : ∀ x ∈ [mb, lb], x ∉ GS
  new : W.heap.size ≤ mb ∧ W.heap.size ≤ lb
  ok : MOk c m
def MG (W : World) (mb : Nat) (c : Cf) (m : Ms) (G : List Nat) (w : World) : Prop := ∃ sb lb M GS, MAt W w mb sb lb c m M GS ∧ G = mb :: lb :: GS
section
variable {W w w' : World} {mb sb lb : Nat} {c : Cf} {m : Ms} {M : AL} {GS G : List Nat}
theorem MAt.lt (h : MAt W w mb sb lb c m M GS) : ∀ x ∈ mb :: lb :: GS, x < w.heap.size := by
  intro x hx
  simp only [List.mem_cons] at hx
  rcases hx with rfl | rfl | hx
  · exact h.blk.lt
  · exact h.lens.lt
  · exact h.s.lt x hx
theorem MAt.newB (h : MAt W w mb sb lb c m M GS) : ∀ x ∈ mb :: lb :: GS, W.heap.size ≤ x := by
  intro x hx
  simp only [List.mem_cons] at hx
  rcases hx with rfl | rfl | hx
  · exact h.new.1
  · exact h.new.2
  · exact h.s.newB x hx
theorem MAt.updS {S : List Nat} (h : MAt W w mb sb lb c m M GS) (hu : Upd S w w') (hs : ∀ x ∈ mb :: lb :: GS, x ∉ S) : MAt W w' mb sb lb c m M GS :=
  { h with
    blk := h.blk.upd hu (hs mb (by simp))
    s := h.s.updS hu (fun x hx => hs x (by simp [hx]))
    lens := h.lens.upd hu (hs lb (by simp)) }
theorem MAt.upd (h : MAt W w mb sb lb c m M GS) (hu : Upd [] w w') : MAt W w' mb sb lb c m M GS := h.updS hu (by simp)
theorem MAt.cells (h : MAt W w mb sb lb c m M GS) : w.cell? ⟨mb, 0, none⟩ = some (.int .i64 c.sh) ∧ w.cell? ⟨mb, 1, none⟩ = some (.int .i64 c.sl) ∧ w.cell? ⟨mb, 4, none⟩ = some (.int .u64 c.unit) ∧ w.cell? ⟨mb, 5, none⟩ = some (.pointer (some ⟨sb, 0, none⟩)) ∧ w.cell? ⟨mb, 6, none⟩ = some (.map (some lb)) ∧ w.cell? ⟨mb, 7, none⟩ = some (.int .i64 m.n) ∧ mb < w.heap.size :=
  ⟨h.blk.cell (j := 0) rfl, h.blk.cell (j := 1) rfl, h.blk.cell (j := 4) rfl, h.blk.cell (j := 5) rfl, h.blk.cell (j := 6) rfl, h.blk.cell (j := 7) rfl, h.blk.lt⟩
theorem MG.lt (h : MG W mb c m G w) : ∀ x ∈ G, x < w.heap.size := by obtain ⟨_, _, _, _, h, rfl⟩ := h; exact h.lt
theorem MG.newB (h : MG W mb c m G w) : ∀ x ∈ G, W.heap.size ≤ x := by obtain ⟨_, _, _, _, h, rfl⟩ := h; exact h.newB
theorem MG.updS {S : List Nat} (h : MG W mb c m G w) (hu : Upd S w w') (hs : ∀ x ∈ G, x ∉ S) : MG W mb c m G w' := by obtain ⟨sb, lb, M, GS, h, rfl⟩ := h; exact ⟨sb, lb, M, GS, h.updS hu hs, rfl⟩
theorem MG.upd (h : MG W mb c m G w) (hu : Upd [] w w') : MG W mb c m G w' := h.updS hu (by simp)
theorem MG.ok (h : MG W mb c m G w) : MOk c m := by obtain ⟨_, _, _, _, h, _⟩ := h; exact h.ok

/-- A Ret that has just been made: its packets lie apart from all. -/
def RtN (w w' : World) (G' : List Nat) (v : Value) (r : Rt) : Prop := ∃ ao cap, v = .agg #[.int .i64 r.e, .slice ao r.L.length cap, .int .i64 r.n, .int .u64 r.v] ∧ RowO w' 94 3 ao r.L.length cap (r.L.flatMap pkVs) ∧ ∀ x ∈ blkO ao, w.heap.size ≤ x ∧ x ∉ G'
theorem RtN.at_ {G' : List Nat} {v : Value} {r : Rt} (h : RtN w w' G' v r) : RtAt w' v r := by
  obtain ⟨ao, cap, rfl, h, -⟩ := h
  exact ⟨_, rfl, h.sl⟩
theorem RtN.none_ (w w' : World) (G' : List Nat) (e n : Int) (v : Nat) : RtN w w' G' (.agg #[.int .i64 e, .slice none 0 0, .int .i64 n, .int .u64 v]) ⟨e, [], n, v⟩ := ⟨none, 0, rfl, RowO.nil _ _ _, fun x hx => by cases hx⟩

/-- What a call leaves, and tells. -/
def MTo (W : World) (mb : Nat) (c : Cf) (r : Rt × Ms) (G : List Nat) (w : World) (e : Ending) (w' : World) : Prop := ∃ v G', e = .returned v ∧ MG W mb c r.2 G' w' ∧ Fr G G' w w' ∧ RtN w w' G' v r.1
end
theorem underlyingFlowMap : Try.prog.underlying 122 = some (.map 3 130) := by kernel_rfl
theorem underlyingIntMap : Try.prog.underlying 103 = some (.map 3 3) := by kernel_rfl
theorem underlyingIntM : Try.prog.underlying 3 = some (.int .i64) := by kernel_rfl
theorem zeroFlowP (w : World) : (zeroValue 130).run Try.prog w = .ok (.pointer none) w := by kernel_rfl
theorem zeroIntM (w : World) : (zeroValue 3).run Try.prog w = .ok (.int .i64 0) w := by kernel_rfl
/-! ### within, Right -/
set_option maxHeartbeats 400000 in
theorem mwithin_any (n a b : Int) (w : World) : Calls Try.prog 59 #[.int .i64 n, .int .i64 a, .int .i64 b] w (fun e w' => e = .returned (.bool (decide (a ≤ n ∧ n ≤ b))) ∧ w = w') := by
  by_cases h1 : a ≤ n
  · have t1 : decide (a ≤ n) = true := by simp [h1]
    by_cases h2 : n ≤ b
    · have t2 : decide (n ≤ b) = true := by simp [h2]
      have hr : decide (a ≤ n ∧ n ≤ b) = true := by simp [h1, h2]
      rw [hr]
      clear hr h1 h2
      go_enter Try.func59, Try.ntmps59
      go_wp2
      go_ret
      exact ⟨rfl, rfl⟩
    · have t2 : decide (n ≤ b) = false := by simp; omega
      have hr : decide (a ≤ n ∧ n ≤ b) = false := by simp; omega
      rw [hr]
      clear hr h1 h2
      go_enter Try.func59, Try.ntmps59
      go_wp2
      go_ret
      exact ⟨rfl, rfl⟩
  · have t1 : decide (a ≤ n) = false := by simp; omega
    have hr : decide (a ≤ n ∧ n ≤ b) = false := by simp; omega
    rw [hr]
    clear hr h1
    go_enter Try.func59, Try.ntmps59
    go_wp2
    go_ret
    exact ⟨rfl, rfl⟩

set_option maxHeartbeats 4000000 in
theorem mright_any (c : Cf) (w : World) : Calls Try.prog 50 #[cfV c] w (RetUpd [] w (.bool (rightC c))) := by
  have HA := Lib.hid (fun w' => mwithin_any c.sh 1 4 w')
  have HB := Lib.hid (fun w' => mwithin_any c.sl 1 4 w')
  have HC := Lib.hid (fun w' => mwithin_any c.wo 1 6 w')
  have HD := Lib.hid (fun w' => mwithin_any c.wd 0 40 w')
  unfold cfV rightC
  obtain ⟨A, hA⟩ : ∃ y, decide (1 ≤ c.sh ∧ c.sh ≤ 4) = y := ⟨_, rfl⟩
  obtain ⟨B, hB⟩ : ∃ y, decide (1 ≤ c.sl ∧ c.sl ≤ 4) = y := ⟨_, rfl⟩
  obtain ⟨C, hC⟩ : ∃ y, decide (1 ≤ c.wo ∧ c.wo ≤ 6) = y := ⟨_, rfl⟩
  obtain ⟨D, hD⟩ : ∃ y, decide (0 ≤ c.wd ∧ c.wd ≤ 40) = y := ⟨_, rfl⟩
  have hE : decide (1 ≤ c.unit ∧ c.unit ≤ 4611686018427387904) = (decide (1 ≤ c.unit) && decide (c.unit ≤ 4611686018427387904)) := by rw [Bool.eq_iff_iff]; simp
  obtain ⟨U, hU⟩ : ∃ y, decide (1 ≤ c.unit) = y := ⟨_, rfl⟩
  obtain ⟨V, hV⟩ : ∃ y, decide (c.unit ≤ 4611686018427387904) = y := ⟨_, rfl⟩
  rw [hA] at HA
  rw [hB] at HB
  rw [hC] at HC
  rw [hD] at HD
  rw [hE, hA, hB, hC, hD, hU, hV]
  have hU' : decide ((1 : Int) ≤ (c.unit : Int)) = U := by rw [← hU, Bool.eq_iff_iff]; simp; omega
  have hV' : decide ((c.unit : Int) ≤ (4611686018427387904 : Int)) = V := by rw [← hV, Bool.eq_iff_iff]; simp; omega
  clear hA hB hC hD hE
  go_enter Try.func50, Try.ntmps50
  go_wp2_with fail
  refine (HA.out _).mono ?_
  rintro e w2 ⟨rfl, rfl⟩
  cases A with
  | false => go_wp2; go_ret; exact ⟨rfl, (Upd.refl [] w).alloc _⟩
  | true =>
    go_wp2_with fail
    refine (HB.out _).mono ?_
    rintro e w2 ⟨rfl, rfl⟩
    cases B with
    | false => go_wp2; go_ret; exact ⟨rfl, (Upd.refl [] w).alloc _⟩
    | true =>
      go_wp2_with fail
      refine (HC.out _).mono ?_
      rintro e w2 ⟨rfl, rfl⟩
      cases C with
      | false => go_wp2; go_ret; exact ⟨rfl, (Upd.refl [] w).alloc _⟩
      | true =>
        go_wp2_with fail
        refine (HD.out _).mono ?_
        rintro e w2 ⟨rfl, rfl⟩
        cases D with
        | false => go_wp2; go_ret; exact ⟨rfl, (Upd.refl [] w).alloc _⟩
        | true =>
          cases U with
          | false => go_wp2; go_ret; exact ⟨rfl, (Upd.refl [] w).alloc _⟩
          | true =>
            cases V with
            | false => go_wp2; go_ret; exact ⟨rfl, (Upd.refl [] w).alloc _⟩
            | true => go_wp2; go_ret; exact ⟨rfl, (Upd.refl [] w).alloc _⟩

set_option maxHeartbeats 400000 in
theorem mrefused_any (e : Int) (w : World) : Calls Try.prog 60 #[.int .i64 e] w (RetUpd [] w (.agg #[.int .i64 e, .slice none 0 0, .int .i64 0, .int .u64 0])) := by
  go_enter Try.func60, Try.ntmps60
  go_wp2_with fail
  refine bodyPost_ret (v := .agg #[.int .i64 e, .slice none 0 0, .int .i64 0, .int .u64 0]) (by simp [results, Try.results60, go_sem]) rfl ?_
  exact ⟨rfl, by
    first
    | exact (Upd.refl [] w).alloc _
    | exact ((((((Upd.refl [] w).alloc _).setCell (.inr (by simp)) _).setCell (.inr (by simp)) _).setCell (.inr (by simp)) _).setCell (.inr (by simp)) _)⟩
def SNewTo (w : World) (e : Ending) (w' : World) : Prop := ∃ sb G, e = .returned (.pointer (some ⟨sb, 0, none⟩)) ∧ (∀ W : World, W.heap.size ≤ w.heap.size → PG W sb ⟨[], 0, 0⟩ G w') ∧ Upd [] w w' ∧ ∀ x ∈ G, w.heap.size ≤ x
theorem snew_done {w w1 w2 : World} (h1 : w1 = w.alloc (.map #[] 0)) (h2 : w2 = w1.alloc (.cells #[.map (some w.heap.size), .int .u64 0, .int .u64 0] 124)) : SNewTo w (.returned (.pointer (some ⟨w.heap.size + 1, 0, none⟩))) w2 := by
  have s1 : w1.heap.size = w.heap.size + 1 := by rw [h1]; simp
  have u1 : Upd [] w w1 := by rw [h1]; exact (Upd.refl [] w).alloc _
  have u2 : Upd [] w1 w2 := by rw [h2]; exact (Upd.refl [] w1).alloc _
  have m1 : IMap w1 w.heap.size [] := by rw [h1]; exact IMap.new w
  have b2 : Blk w2 w1.heap.size 124 [.map (some w.heap.size), .int .u64 0, .int .u64 0] := by rw [h2]; exact Blk.new w1 124 [.map (some w.heap.size), .int .u64 0, .int .u64 0]
  rw [s1] at b2
  refine ⟨_, _, rfl, fun W hW => ⟨w.heap.size, [], { blk := b2, map := m1.upd u2 (by simp), ents := fun e he => (by cases he), dis := List.Pairwise.nil, own := fun e he => (by cases he), d := by omega, new := ⟨by omega, hW⟩, newE := fun e he => (by cases he), nd := List.nodup_nil, v64 := by simp, m64 := by simp }, List.Perm.refl _, List.Pairwise.nil, rfl⟩, u1.trans u2, fun x hx => ?_⟩
  rcases mem_psB.1 hx with rfl | rfl | ⟨e, he, _⟩
  · omega
  · exact Nat.le_refl _
  · cases he

set_option maxHeartbeats 400000 in
theorem snew_any (w : World) : Calls Try.prog 51 #[] w (SNewTo w) := by
  have hm : (Instr.makeMap 122 none).run Try.prog w = .ok (.map (some w.heap.size)) (w.alloc (.map #[] 0)) := rfl
  go_enter Try.func51, Try.ntmps51
  go_wp2
  go_ret
  exact snew_done rfl rfl
end Go.Proofs.Ytmfndemnogpmcaa
