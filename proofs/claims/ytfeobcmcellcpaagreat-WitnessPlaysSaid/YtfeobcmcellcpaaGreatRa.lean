/-
  The walk of the statements' Wide: some plan. No condition.
-/
import Derived.Test.YtfeobcmcellcpaaGreatRa0
import Derived.Test.YtfeobcmcellcpaaGreatConf
import Derived.Test.YtfeobcmcellcpaaGreatPMQ
import Derived.Test.YtfeobcmcellcpaaGreatHeld
set_option linter.unusedVariables false
set_option linter.unusedSimpArgs false
namespace Go.Proofs.YtfeobcmcellcpaaGreat
open Go.RowKit

section
variable {P : Program} {ops : Array Oper}
/-- 'make' at a drawn step. -/
theorem step_make {w : World} {o : Oper} {a : Act} {K : Act → World → Prop} {Q : Exit → Act → World → Prop} {E : Prop} (hgd : o.guard = none) (l c : Operand) (t : TypeId) (hop : o.op = Op.makeSlice t l c)
    (e : TypeId) (i : TypeInfo) (z : Value) (size : Nat) (h1 : P.underlying t = some (.slice e)) (h2 : P.info? e = some i) (h3 : i.zero = some z) (h4 : i.size = size)
    (kl kc : IntKind) (L C : Int) (n : Nat) (hl : a.eval l = .int kl L) (hc : a.eval c = .int kc C) (hL : L = (n : Int)) (hC : C = (n : Int)) (b2 : i.bytes * n ≤ 281474976710656) (b3 : n ≤ maxLen)
    (h : ∀ w', Row w' e size w.heap.size n n (madeCells z.cells (n * size)).toList → Upd [] w w' → w'.heap.size = w.heap.size + 1 → K (a.put o.dst (.slice (some ⟨w.heap.size, 0, none⟩) n n)) w') :
    if Region.wanted o (yielded ops a.tmps) = true then Oper.wp P o a w K Q else E := by
  have hw : Region.wanted o (yielded ops a.tmps) = true := by simp [Region.wanted, hgd]
  rw [if_pos hw]
  subst h4
  have h63' : (n : Int) ≤ 9223372036854775807 := by
    have h := b3
    simp [maxLen] at h
    omega
  have hb' : (i.bytes : Int) * (n : Int) ≤ 281474976710656 := by
    have h : ((i.bytes * n : Nat) : Int) ≤ 281474976710656 := by omega
    rwa [Int.natCast_mul] at h
  have hrun := run_make (P := P) w t e i z h1 h2 h3 kl kc n n (by omega) (Int.le_refl _) hb' h63'
  simp only [Int.toNat_natCast] at hrun
  subst hL
  subst hC
  unfold Oper.wp
  simp [execOp, hop, hl, hc, hrun, Result.andThen]
  exact h _ (World.ownsRow_lit w _ n (Nat.zero_le _) b3 (size_madeCells _ _)) ((Upd.refl [] w).alloc _) (by simp)
end
def WideTo (w : World) (e : Ending) (w' : World) : Prop := ∃ (A B C D : Int) (U : Nat) (bl : Nat) (E : List Li), e = .returned (.agg #[.int .i64 A, .int .i64 B, .int .i64 C, .int .i64 D, .int .u64 U, .slice (some ⟨bl, 0, none⟩) E.length E.length]) ∧ ListsAt w' (.slice (some ⟨bl, 0, none⟩) E.length E.length) E ∧ rightC ⟨A, B, C, D, U⟩ = true ∧ (E.length : Int) = C ∧ Upd [] w w'

/-- Behind the making of the plan. -/
def WdNew (w5 : World) (a b c d : Int) (u m : Nat) (s8 : Value) (wx : World) : Prop := ∃ bo bl, s8 = .pointer (some ⟨bo, 0, none⟩) ∧ Blk wx bo 29 [.int .i64 a, .int .i64 b, .int .i64 c, .int .i64 d, .int .u64 u, .slice (some ⟨bl, 0, none⟩) m m] ∧ Row wx 26 1 bl m m ((List.replicate m (⟨.slice none 0 0, []⟩ : Li)).flatMap liVs) ∧ bl ≠ bo ∧ w5.heap.size ≤ bl ∧ w5.heap.size ≤ bo ∧ bl < wx.heap.size ∧ Upd [] w5 wx
def WdOut (w6 : World) (bl m most L : Nat) (nv iv : Value) (wr : World) : Prop := ∃ (i n : Nat) (E : List Li), iv = .int .i64 i ∧ nv = .int .i64 n ∧ i ≤ L ∧ n ≤ most ∧ WdAt w6 wr bl m E n
def WdIn (w6 : World) (bl m most L : Nat) (nv kv : Value) (wr : World) : Prop := ∃ (k n : Nat) (E : List Li), kv = .int .i64 k ∧ nv = .int .i64 n ∧ k ≤ L ∧ n ≤ most ∧ WdAt w6 wr bl m E n
theorem wd_new {w5 w6 w7 : World} {bo bl m : Nat} {a b c d : Int} {u : Nat} (hu : Upd [] w5 w6) (hr : Row w6 26 1 bl m m ((List.replicate m (⟨.slice none 0 0, []⟩ : Li)).flatMap liVs)) (hb : Blk w6 bo 29 [.int .i64 0, .int .i64 0, .int .i64 0, .int .i64 0, .int .u64 0, .slice none 0 0]) (hne : bl ≠ bo) (h1 : w5.heap.size ≤ bl) (h2 : w5.heap.size ≤ bo)
    (h7 : w7 = (((((w6.setCell ⟨bo, 0, none⟩ (.int .i64 a)).setCell ⟨bo, 1, none⟩ (.int .i64 b)).setCell ⟨bo, 2, none⟩ (.int .i64 c)).setCell ⟨bo, 3, none⟩ (.int .i64 d)).setCell ⟨bo, 4, none⟩ (.int .u64 u)).setCell ⟨bo, 5, none⟩ (.slice (some ⟨bl, 0, none⟩) m m)) : WdNew w5 a b c d u m (.pointer (some ⟨bo, 0, none⟩)) w7 := by
  have us : Upd [bo] w6 w7 := by rw [h7]; exact ((((((Upd.refl [bo] w6).setCell (.inl (by simp)) _).setCell (.inl (by simp)) _).setCell (.inl (by simp)) _).setCell (.inl (by simp)) _).setCell (.inl (by simp)) _).setCell (.inl (by simp)) _
  have hr7 := hr.upd us (by simpa using hne)
  refine ⟨bo, bl, rfl, ?_, hr7, hne, h1, h2, hr7.lt, hu.then us (fun _ _ h => h) (fun i hi hm => by simp only [List.mem_cons, List.not_mem_nil, or_false] at hm; omega)⟩
  rw [h7]
  exact (((((hb.set 0 (.int .i64 a)).set 1 (.int .i64 b)).set 2 (.int .i64 c)).set 3 (.int .i64 d)).set 4 (.int .u64 u)).set 5 (.slice (some ⟨bl, 0, none⟩) m m)
theorem made_lists (m : Nat) : (madeCells (Value.slice none 0 0).cells (m * 1)).toList = (List.replicate m (⟨.slice none 0 0, []⟩ : Li)).flatMap liVs := made_flatG liVs 1 liVs_len ⟨.slice none 0 0, []⟩ m

set_option maxRecDepth 100000 in
set_option maxHeartbeats 16000000 in
theorem pwide_some {w : World} (A0 B0 C0 D0 : Int) (U0 : Nat) {v : Value} {L : List Li} (hl : ListsAt w v L) (most : Nat) (hm : most ≤ 57) : Calls Tryz.prog 18 #[.agg #[.int .i64 A0, .int .i64 B0, .int .i64 C0, .int .i64 D0, .int .u64 U0], v, .int .i64 most] w (WideTo w) := by
  have HLS := Lib.hid hl
  obtain ⟨hlm, aop, capp, rfl, -⟩ := lists_at hl
  obtain ⟨n, hn⟩ : ∃ n, L.length = n := ⟨_, rfl⟩
  have HN := Lib.hid hn
  rw [hn] at hlm ⊢
  have bn : n ≤ 9223372036854775807 := hlm
  have HMO := Lib.hid hm
  obtain ⟨w1, hw1⟩ : ∃ y, w.alloc (.cells #[.int .i64 A0, .int .i64 B0, .int .i64 C0, .int .i64 D0, .int .u64 U0] 24) = y := ⟨_, rfl⟩
  obtain ⟨w2, hw2⟩ : ∃ y, w1.alloc (.cells #[.int .i64 0, .int .i64 0, .int .i64 0, .int .i64 0, .int .u64 0, .slice none 0 0] 29) = y := ⟨_, rfl⟩
  have u1 : Upd [] w w1 := by rw [← hw1]; exact (Upd.refl [] w).alloc _
  have u2 : Upd [] w1 w2 := by rw [← hw2]; exact (Upd.refl [] w1).alloc _
  have b1 : Blk w1 w.heap.size 24 [.int .i64 A0, .int .i64 B0, .int .i64 C0, .int .i64 D0, .int .u64 U0] := by rw [← hw1]; exact Blk.new w 24 [.int .i64 A0, .int .i64 B0, .int .i64 C0, .int .i64 D0, .int .u64 U0]
  have b2 : Blk w2 w1.heap.size 29 [.int .i64 0, .int .i64 0, .int .i64 0, .int .i64 0, .int .u64 0, .slice none 0 0] := by rw [← hw2]; exact Blk.new w1 29 [.int .i64 0, .int .i64 0, .int .i64 0, .int .i64 0, .int .u64 0, .slice none 0 0]
  have hs1 : w1.heap.size = w.heap.size + 1 := by rw [← hw1]; simp
  obtain ⟨bc, hbc⟩ : ∃ y, w.heap.size = y := ⟨_, rfl⟩
  obtain ⟨bq, hbq⟩ : ∃ y, w1.heap.size = y := ⟨_, rfl⟩
  have b1 := b1.upd u2 (by simp)
  rw [hbc] at b1
  rw [hbq] at b2
  have HS : Hid (w.heap.size = bc ∧ bq = bc + 1) := ⟨hbc, by omega⟩
  have HU2 := Lib.hid (u1.trans u2)
  have HB1 := Lib.hid b1
  have HB2 := Lib.hid b2
  have HCF : Hid (Calls Tryz.prog 40 #[.agg #[.int .i64 A0, .int .i64 B0, .int .i64 C0, .int .i64 D0, .int .u64 U0]] w2 (ConfTo w2)) := conf_any _ _ _ _ _ _
  obtain ⟨m4, h4⟩ : ∃ y, modI D0 4 = y := ⟨_, rfl⟩
  have H4 : Hid (∀ w, Calls Tryz.prog 13 #[.int .i64 D0, .int .i64 4] w (fun e w' => e = .returned (.int .i64 m4) ∧ w = w')) := fun w => by rw [← h4]; exact mod_any _ 4 (by omega) (by omega) w
  have x0 := b1.cell (j := 0) rfl
  have x1 := b1.cell (j := 1) rfl
  have x2 := b1.cell (j := 2) rfl
  have x3 := b1.cell (j := 3) rfl
  have x4 := b1.cell (j := 4) rfl
  have f0 := b1.free 0
  have f1 := b1.free 1
  have f2 := b1.free 2
  have f3 := b1.free 3
  have f4 := b1.free 4
  have lx := b1.lt
  obtain ⟨s4, hs4⟩ : ∃ y, decide (0 < m4) = y := ⟨_, rfl⟩
  clear u1 u2 b1 b2 hs1 hl hn hlm h4 hm
  go_enter Tryz.func18, Tryz.ntmps18
  go_wp2_with fail
  clear hw1 hw2 hbc hbq
  refine (H4.out _).mono ?_
  rintro e w9 ⟨rfl, rfl⟩
  go_wp2_with fail
  refine HCF.out.mono ?_
  rintro e w3 ⟨a, b, c, d, u, rfl, ha, hb, hc, hd, hu, hu3⟩
  have HU3 := Lib.hid hu3
  have HR : Hid (rightC ⟨a, b, c, d, u⟩ = true) := by
    unfold Hid rightC
    simp only [Bool.and_eq_true, decide_eq_true_eq]
    exact ⟨⟨⟨⟨ha, hb⟩, hc⟩, ⟨hd.1, by omega⟩⟩, hu⟩
  obtain ⟨m, rfl⟩ : ∃ m : Nat, c = m := ⟨c.toNat, by omega⟩
  have m1 : 1 ≤ m := by omega
  have m6 : m ≤ 6 := by omega
  have hb1 := HB1.out.upd hu3 (by simp)
  have hb2 := HB2.out.upd hu3 (by simp)
  clear ha hb hc hd hu hu3 HCF x0 x1 x2 x3 x4 f0 f1 f2 f3 f4 lx
  have x0 := hb1.cell (j := 0) rfl
  have x1 := hb1.cell (j := 1) rfl
  have x2 := hb1.cell (j := 2) rfl
  have x3 := hb1.cell (j := 3) rfl
  have x4 := hb1.cell (j := 4) rfl
  have f0 := hb1.free 0
  have f1 := hb1.free 1
  have f2 := hb1.free 2
  have f3 := hb1.free 3
  have f4 := hb1.free 4
  have lx := hb1.lt
  have HB1 := Lib.hid hb1
  have HB2 := Lib.hid hb2
  clear hb1 hb2
  go_upto_region 3 with (fail)
  obtain ⟨w5, hw5⟩ : ∃ y, ((((w3.setCell ⟨bc, 0, none⟩ (.int .i64 a)).setCell ⟨bc, 1, none⟩ (.int .i64 b)).setCell ⟨bc, 2, none⟩ (.int .i64 m)).setCell ⟨bc, 3, none⟩ (.int .i64 d)).setCell ⟨bc, 4, none⟩ (.int .u64 u) = y := ⟨_, rfl⟩
  have hu5 : Upd [bc] w3 w5 := by rw [← hw5]; exact (((((Upd.refl [bc] w3).setCell (.inl (by simp)) _).setCell (.inl (by simp)) _).setCell (.inl (by simp)) _).setCell (.inl (by simp)) _).setCell (.inl (by simp)) _
  have hb5 : Blk w5 bc 24 [.int .i64 a, .int .i64 b, .int .i64 m, .int .i64 d, .int .u64 u] := by rw [← hw5]; exact ((((HB1.out.set 0 (.int .i64 a)).set 1 (.int .i64 b)).set 2 (.int .i64 m)).set 3 (.int .i64 d)).set 4 (.int .u64 u)
  have hb2 := HB2.out.upd hu5 (by have := HS.out; simp; omega)
  have HU5 : Hid (Upd [] w w5) := (HU2.out.trans HU3.out).then hu5 (fun _ _ h => h) (fun i hi hm => by have := HS.out; simp only [List.mem_cons, List.not_mem_nil, or_false] at hm; omega)
  rw [hw5]
  have HBC := Lib.hid hb5
  have HBQ := Lib.hid hb2
  clear x0 x1 x2 x3 x4 f0 f1 f2 f3 f4 lx hw5 hu5 hb2 HB1 HB2
  have x0 := hb5.cell (j := 0) rfl
  have x1 := hb5.cell (j := 1) rfl
  have x2 := hb5.cell (j := 2) rfl
  have x3 := hb5.cell (j := 3) rfl
  have x4 := hb5.cell (j := 4) rfl
  have lx := hb5.lt
  clear hb5
  obtain ⟨i0, hi0, hz0, hz1, hz2⟩ := info_parts infoCallS_
  go_cut [8] (fun s8 wx => WdNew w5 a b m d u m s8 wx)
  case first =>
    refine wp_region_held_drew (S := fun w' => Upd [] w5 w' ∧ ∀ (b o : Nat), b < w5.heap.size → b ∉ [] → w'.cell? ⟨b, o, none⟩ = w5.cell? ⟨b, o, none⟩) (by kernel_rfl) (Held.init _ _) (fun hHeld => ?_)
    refine wpAnyH_take (i := 0) (v := ?_) rfl (by kernel_rfl) (by kernel_rfl) (by kernel_rfl) (fun _ _ _ h => h) (Or.inl ⟨by rfl, ?_⟩) (by assumption) ?_
    rotate_left
    · intro w hSw
      try dsimp only at hSw
      go_simp
      try with_reducible rfl
    try simp only [List.getElem_toArray, List.getElem_cons_zero, List.getElem_cons_succ, Act.put, List.setIfInBounds_toArray, List.set_cons_zero, List.set_cons_succ]
    refine wpAnyH_take (i := 1) (v := ?_) rfl (by kernel_rfl) (by kernel_rfl) (by kernel_rfl) (fun _ _ _ h => h) (Or.inl ⟨by rfl, ?_⟩) (by assumption) ?_
    rotate_left
    · intro w hSw
      try dsimp only at hSw
      go_simp
      try with_reducible rfl
    try simp only [List.getElem_toArray, List.getElem_cons_zero, List.getElem_cons_succ, Act.put, List.setIfInBounds_toArray, List.set_cons_zero, List.set_cons_succ]
    refine wpAnyH_take (i := 2) (v := ?_) rfl (by kernel_rfl) (by kernel_rfl) (by kernel_rfl) (fun _ _ _ h => h) (Or.inl ⟨by rfl, ?_⟩) (by assumption) ?_
    rotate_left
    · intro w hSw
      try dsimp only at hSw
      go_simp
      try with_reducible rfl
    try simp only [List.getElem_toArray, List.getElem_cons_zero, List.getElem_cons_succ, Act.put, List.setIfInBounds_toArray, List.set_cons_zero, List.set_cons_succ]
    refine wpAnyH_ready (rs := [3, 5]) (by kernel_rfl) (by simp) ?_
    refine AllReadyH.cons rfl (fun K hK => ?_) (AllReadyH.cons rfl (fun K hK => ?_) AllReadyH.nil)
    · skip
      refine step_make rfl (.tmp 21) (.tmp 21) 27 rfl 26 i0 _ 1 underlyingLists_ hi0 hz0 hz1 .i64 .i64 m m m rfl rfl rfl rfl (by rw [hz2]; omega) (by unfold maxLen; omega) ?_
      intro w6 hrow6 hu6 hsz6
      have HU6 : Hid (Upd [] w5 w6) := (Upd.refl [] w5).drew.trans hu6
      have HROW6 := Lib.hid hrow6
      have HSZ6 := Lib.hid hsz6
      clear hrow6 hsz6
      refine hK.out _ _ (Held.step hHeld hu6) (fun hHeldN => ?_)
      clear hK K hHeld
      have hHeld := hHeldN
      clear hHeldN
      try simp only [List.getElem_toArray, List.getElem_cons_zero, List.getElem_cons_succ, Act.put, List.setIfInBounds_toArray, List.set_cons_zero, List.set_cons_succ]
      refine wpAnyH_take (i := 4) (v := ?_) rfl (by kernel_rfl) (by kernel_rfl) (by kernel_rfl) (fun _ _ _ h => h) (Or.inl ⟨by rfl, ?_⟩) (by assumption) ?_
      rotate_left
      · intro w hSw
        try dsimp only at hSw
        go_simp
        try with_reducible rfl
      try simp only [List.getElem_toArray, List.getElem_cons_zero, List.getElem_cons_succ, Act.put, List.setIfInBounds_toArray, List.set_cons_zero, List.set_cons_succ]
      refine wpAnyH_ready (rs := [5]) (by kernel_rfl) (by simp) ?_
      refine AllReadyH.cons rfl (fun K hK => ?_) AllReadyH.nil
      go_simp
      refine hK.out _ _ (Held.new hHeld _) (fun hHeldN => ?_)
      clear hK K hHeld
      have hHeld := hHeldN
      clear hHeldN
      try simp only [List.getElem_toArray, List.getElem_cons_zero, List.getElem_cons_succ, Act.put, List.setIfInBounds_toArray, List.set_cons_zero, List.set_cons_succ]
      have HBX : Hid (Blk (w6.alloc (.cells #[.int .i64 0, .int .i64 0, .int .i64 0, .int .i64 0, .int .u64 0, .slice none 0 0] 29)) w6.heap.size 29 [.int .i64 0, .int .i64 0, .int .i64 0, .int .i64 0, .int .u64 0, .slice none 0 0]) := Blk.new w6 29 [.int .i64 0, .int .i64 0, .int .i64 0, .int .i64 0, .int .u64 0, .slice none 0 0]
      have HGE : Hid (w5.heap.size ≤ w6.heap.size) := HU6.out.size
      obtain ⟨wq, hwq⟩ : ∃ y, w6.alloc (.cells #[.int .i64 0, .int .i64 0, .int .i64 0, .int .i64 0, .int .u64 0, .slice none 0 0] 29) = y := ⟨_, rfl⟩
      have HUQ : Hid (Upd [] w5 wq) := by unfold Hid; rw [← hwq]; exact HU6.out.alloc _
      have HRQ : Hid (Row wq 26 1 w5.heap.size m m ((List.replicate m (⟨.slice none 0 0, []⟩ : Li)).flatMap liVs)) := by
        have := HROW6.out.alloc (.cells #[.int .i64 0, .int .i64 0, .int .i64 0, .int .i64 0, .int .u64 0, .slice none 0 0] 29)
        rw [made_lists, hwq] at this
        exact this
      rw [hwq] at HBX hHeld ⊢
      obtain ⟨b6, hb6⟩ : ∃ y, w6.heap.size = y := ⟨_, rfl⟩
      rw [hb6] at HBX HGE ⊢
      have HN6 : Hid (w5.heap.size ≠ b6) := by have := HSZ6.out; unfold Hid; simp at this; omega
      clear hwq hb6
      refine wpAnyH_ready (rs := [6]) (by kernel_rfl) (by simp) ?_
      refine AllReadyH.cons rfl (fun K hK => ?_) AllReadyH.nil
      have hbx := HBX.out
      have g0 := hbx.free 0
      have g1 := hbx.free 1
      have g2 := hbx.free 2
      have g3 := hbx.free 3
      have g4 := hbx.free 4
      have g5 := hbx.free 5
      have q0 := hbx.cell (j := 0) rfl
      have q1 := hbx.cell (j := 1) rfl
      have q2 := hbx.cell (j := 2) rfl
      have q3 := hbx.cell (j := 3) rfl
      have q4 := hbx.cell (j := 4) rfl
      have q5 := hbx.cell (j := 5) rfl
      clear hbx
      go_simp
      obtain ⟨w7, hw7⟩ : ∃ y, (((((wq.setCell ⟨b6, 0, none⟩ (.int .i64 a)).setCell ⟨b6, 1, none⟩ (.int .i64 b)).setCell ⟨b6, 2, none⟩ (.int .i64 m)).setCell ⟨b6, 3, none⟩ (.int .i64 d)).setCell ⟨b6, 4, none⟩ (.int .u64 u)).setCell ⟨b6, 5, none⟩ (.slice (some ⟨w5.heap.size, 0, none⟩) m m) = y := ⟨_, rfl⟩
      have hst : Upd [] w5 w7 := by rw [← hw7]; exact ((((((HUQ.out.setCell (p := ⟨b6, 0, none⟩) (.inr HGE.out) _).setCell (p := ⟨b6, 1, none⟩) (.inr HGE.out) _).setCell (p := ⟨b6, 2, none⟩) (.inr HGE.out) _).setCell (p := ⟨b6, 3, none⟩) (.inr HGE.out) _).setCell (p := ⟨b6, 4, none⟩) (.inr HGE.out) _).setCell (p := ⟨b6, 5, none⟩) (.inr HGE.out) _)
      rw [hw7]
      have HW7 := Lib.hid hw7
      clear hw7 q0 q1 q2 q3 q4 q5 g0 g1 g2 g3 g4 g5
      refine hK.out _ _ (And.intro hst hst.cells) (fun hHeldN => ?_)
      clear hst
      clear hK K hHeld
      have hHeld := hHeldN
      clear hHeldN
      try simp only [List.getElem_toArray, List.getElem_cons_zero, List.getElem_cons_succ, Act.put, List.setIfInBounds_toArray, List.set_cons_zero, List.set_cons_succ]
      refine wpAnyH_done (by kernel_rfl) ?_ _
      go_wp2_with fail
      go_meet
      exact wd_new HUQ.out HRQ.out HBX.out HN6.out (Nat.le_refl _) HGE.out HW7.out.symm
    · skip
      go_simp
      refine hK.out _ _ (Held.new hHeld _) (fun hHeldN => ?_)
      clear hK K hHeld
      have hHeld := hHeldN
      clear hHeldN
      try simp only [List.getElem_toArray, List.getElem_cons_zero, List.getElem_cons_succ, Act.put, List.setIfInBounds_toArray, List.set_cons_zero, List.set_cons_succ]
      refine wpAnyH_ready (rs := [3]) (by kernel_rfl) (by simp) ?_
      refine AllReadyH.cons rfl (fun K hK => ?_) AllReadyH.nil
      refine step_make rfl (.tmp 21) (.tmp 21) 27 rfl 26 i0 _ 1 underlyingLists_ hi0 hz0 hz1 .i64 .i64 m m m rfl rfl rfl rfl (by rw [hz2]; omega) (by unfold maxLen; omega) ?_
      intro w6 hrow6 hu6 hsz6
      have HU6 : Hid (Upd [] w5 w6) := ((Upd.refl [] w5).drew.alloc _).trans hu6
      have HROW6 := Lib.hid hrow6
      have HBX : Hid (Blk w6 w5.heap.size 29 [.int .i64 0, .int .i64 0, .int .i64 0, .int .i64 0, .int .u64 0, .slice none 0 0]) := Blk.upd (w := w5.drew.alloc (.cells #[.int .i64 0, .int .i64 0, .int .i64 0, .int .i64 0, .int .u64 0, .slice none 0 0] 29)) (Blk.new w5.drew 29 [.int .i64 0, .int .i64 0, .int .i64 0, .int .i64 0, .int .u64 0, .slice none 0 0]) hu6 (by simp)
      have HSZ6 := Lib.hid hsz6
      clear hrow6 hsz6
      refine hK.out _ _ (Held.step hHeld hu6) (fun hHeldN => ?_)
      clear hK K hHeld
      have hHeld := hHeldN
      clear hHeldN
      try simp only [List.getElem_toArray, List.getElem_cons_zero, List.getElem_cons_succ, Act.put, List.setIfInBounds_toArray, List.set_cons_zero, List.set_cons_succ]
      refine wpAnyH_take (i := 4) (v := ?_) rfl (by kernel_rfl) (by kernel_rfl) (by kernel_rfl) (fun _ _ _ h => h) (Or.inl ⟨by rfl, ?_⟩) (by assumption) ?_
      rotate_left
      · intro w hSw
        try dsimp only at hSw
        go_simp
        try with_reducible rfl
      try simp only [List.getElem_toArray, List.getElem_cons_zero, List.getElem_cons_succ, Act.put, List.setIfInBounds_toArray, List.set_cons_zero, List.set_cons_succ]
      have HGE : Hid (w5.heap.size ≤ w5.heap.size) := Nat.le_refl _
      have HUQ := HU6
      have HRQ : Hid (Row w6 26 1 (w5.heap.size + 1) m m ((List.replicate m (⟨.slice none 0 0, []⟩ : Li)).flatMap liVs)) := by
        have := HROW6.out
        rw [made_lists] at this
        show Row w6 _ _ _ _ _ _
        simpa using this
      refine wpAnyH_ready (rs := [6]) (by kernel_rfl) (by simp) ?_
      refine AllReadyH.cons rfl (fun K hK => ?_) AllReadyH.nil
      have hbx := HBX.out
      have g0 := hbx.free 0
      have g1 := hbx.free 1
      have g2 := hbx.free 2
      have g3 := hbx.free 3
      have g4 := hbx.free 4
      have g5 := hbx.free 5
      have q0 := hbx.cell (j := 0) rfl
      have q1 := hbx.cell (j := 1) rfl
      have q2 := hbx.cell (j := 2) rfl
      have q3 := hbx.cell (j := 3) rfl
      have q4 := hbx.cell (j := 4) rfl
      have q5 := hbx.cell (j := 5) rfl
      clear hbx
      go_simp
      obtain ⟨w7, hw7⟩ : ∃ y, (((((w6.setCell ⟨w5.heap.size, 0, none⟩ (.int .i64 a)).setCell ⟨w5.heap.size, 1, none⟩ (.int .i64 b)).setCell ⟨w5.heap.size, 2, none⟩ (.int .i64 m)).setCell ⟨w5.heap.size, 3, none⟩ (.int .i64 d)).setCell ⟨w5.heap.size, 4, none⟩ (.int .u64 u)).setCell ⟨w5.heap.size, 5, none⟩ (.slice (some ⟨(w5.heap.size + 1), 0, none⟩) m m) = y := ⟨_, rfl⟩
      have hst : Upd [] w5 w7 := by rw [← hw7]; exact ((((((HUQ.out.setCell (p := ⟨w5.heap.size, 0, none⟩) (.inr HGE.out) _).setCell (p := ⟨w5.heap.size, 1, none⟩) (.inr HGE.out) _).setCell (p := ⟨w5.heap.size, 2, none⟩) (.inr HGE.out) _).setCell (p := ⟨w5.heap.size, 3, none⟩) (.inr HGE.out) _).setCell (p := ⟨w5.heap.size, 4, none⟩) (.inr HGE.out) _).setCell (p := ⟨w5.heap.size, 5, none⟩) (.inr HGE.out) _)
      rw [hw7]
      have HW7 := Lib.hid hw7
      clear hw7 q0 q1 q2 q3 q4 q5 g0 g1 g2 g3 g4 g5
      refine hK.out _ _ (And.intro hst hst.cells) (fun hHeldN => ?_)
      clear hst
      clear hK K hHeld
      have hHeld := hHeldN
      clear hHeldN
      try simp only [List.getElem_toArray, List.getElem_cons_zero, List.getElem_cons_succ, Act.put, List.setIfInBounds_toArray, List.set_cons_zero, List.set_cons_succ]
      refine wpAnyH_done (by kernel_rfl) ?_ _
      go_wp2_with fail
      go_meet
      exact wd_new HUQ.out HRQ.out HBX.out (by omega) (by omega) HGE.out HW7.out.symm
  case rest =>
    obtain ⟨bo, bl, rfl, hbo, hrow, hne, hgl, hgo, hll, hu6⟩ := hcut
    have HBO := Lib.hid hbo
    have HROW := Lib.hid hrow
    have HSZ : Hid (bl ≠ bo ∧ w5.heap.size ≤ bl ∧ w5.heap.size ≤ bo ∧ bl < wc.heap.size ∧ bc < w5.heap.size ∧ bq < w5.heap.size) := ⟨hne, hgl, hgo, hll, HBC.out.lt, HBQ.out.lt⟩
    have HU6 : Hid (Upd [] w wc) := HU5.out.trans hu6
    have HBC := Lib.hid (HBC.out.upd hu6 (by simp))
    have HBQ := Lib.hid (HBQ.out.upd hu6 (by simp))
    have hst : WdAt wc wc bl m (List.replicate m ⟨.slice none 0 0, []⟩) 0 := WdAt.start hrow (Upd.refl _ _) hll
    have HST := Lib.hid hst
    have z5 := hbo.cell (j := 5) rfl
    have lz := hbo.lt
    have fz := hrow.free 0
    have nob : bo ≠ bl := hne.symm
    have mp : 0 < m := m1
    have cz := hrow.cell (j := 0) (v := .slice none 0 0) (by obtain ⟨m', rfl⟩ : ∃ m', m = m' + 1 := ⟨m - 1, by omega⟩; rfl)
    clear x0 x1 x2 x3 x4 lx hbo hrow hne hgl hgo hu6 hst
    obtain ⟨wv, ewv⟩ : ∃ y : World, y = wc := ⟨_, rfl⟩
    subst ewv
    go_upto_if 24 with (fail)
    go_cut [] (fun wx => ∃ E, WdAt wv wx bl m E 0)
    case first =>
      cases s4 with
      | true =>
        go_upto_region 5 with (fail)
        refine wp_region_held_drew (S := fun w' => Upd [bl] wv w' ∧ ∀ (b o : Nat), b < wv.heap.size → b ∉ [bl] → w'.cell? ⟨b, o, none⟩ = wv.cell? ⟨b, o, none⟩) (by kernel_rfl) (Held.init _ _) (fun hHeld => ?_)
        refine wpAnyH_take (i := 0) (v := ?_) rfl (by kernel_rfl) (by kernel_rfl) (by kernel_rfl) (fun _ _ _ h => h) (Or.inl ⟨by rfl, ?_⟩) (by assumption) ?_
        rotate_left
        · intro w hSw
          try dsimp only at hSw
          go_simp
          try with_reducible rfl
        try simp only [List.getElem_toArray, List.getElem_cons_zero, List.getElem_cons_succ, Act.put, List.setIfInBounds_toArray, List.set_cons_zero, List.set_cons_succ]
        refine wpAnyH_take (i := 1) (v := ?_) rfl (by kernel_rfl) (by kernel_rfl) (by kernel_rfl) (fun _ _ _ h => h) (Or.inl ⟨by rfl, ?_⟩) (by assumption) ?_
        rotate_left
        · intro w hSw
          try dsimp only at hSw
          go_simp
          try with_reducible rfl
        try simp only [List.getElem_toArray, List.getElem_cons_zero, List.getElem_cons_succ, Act.put, List.setIfInBounds_toArray, List.set_cons_zero, List.set_cons_succ]
        refine wpAnyH_ready (rs := [2]) (by kernel_rfl) (by simp) ?_
        refine AllReadyH.cons rfl (fun K hK => ?_) AllReadyH.nil
        go_simp
        go_at_call 50
        refine (pready_some _).mono ?_
        rintro e w7 ⟨ao7, cap7, L7, rfl, hcl⟩
        have HCL := Lib.hid hcl
        have hu7 : Upd [] wv w7 := (Upd.refl [] wv).drew.trans hcl.up
        have HU7 := Lib.hid hu7
        have hH7 := Held.step hHeld (hcl.up.nil (S := [bl]))
        clear hcl
        refine hK.out _ _ hH7 (fun hHeldN => ?_)
        clear hK K hHeld
        have hHeld := hHeldN
        clear hHeldN
        try simp only [List.getElem_toArray, List.getElem_cons_zero, List.getElem_cons_succ, Act.put, List.setIfInBounds_toArray, List.set_cons_zero, List.set_cons_succ]
        refine wpAnyH_take (i := 3) (v := ?_) rfl (by kernel_rfl) (by kernel_rfl) (by kernel_rfl) (fun _ _ _ h => h) (Or.inl ⟨by rfl, ?_⟩) (by assumption) ?_
        rotate_left
        · intro w hSw
          try dsimp only at hSw
          go_simp
          try with_reducible rfl
        try simp only [List.getElem_toArray, List.getElem_cons_zero, List.getElem_cons_succ, Act.put, List.setIfInBounds_toArray, List.set_cons_zero, List.set_cons_succ]
        refine wpAnyH_ready (rs := [4]) (by kernel_rfl) (by simp) ?_
        refine AllReadyH.cons rfl (fun K hK => ?_) AllReadyH.nil
        have hr7 := HROW.out.upd hu7 (by simp)
        have fz := hr7.free 0
        have cz := hr7.cell (j := 0) (v := .slice none 0 0) (by obtain ⟨m', rfl⟩ : ∃ m', m = m' + 1 := ⟨m - 1, by omega⟩; rfl)
        clear hr7 hu7 hH7
        go_simp
        obtain ⟨w8, hw8⟩ : ∃ y, w7.setCell ⟨bl, 0, none⟩ (.slice ao7 3 cap7) = y := ⟨_, rfl⟩
        have hst8 : Upd [bl] wv w8 := by rw [← hw8]; exact HU7.out.nil.setCell (.inl (by simp)) _
        have HPUT : Hid (WdAt wv w8 bl m ((List.replicate m ⟨.slice none 0 0, []⟩).set 0 ⟨.slice ao7 3 cap7, L7⟩) 0) := by
          unfold Hid
          rw [← hw8]
          exact HST.out.put (x := ⟨.slice none 0 0, []⟩) (ao := none) (k := 0) (cap := 0) (by rw [List.getElem?_replicate, if_pos mp]) rfl HU7.out rfl HCL.out.row HCL.out.len (Nat.le_refl _) (Nat.le_refl _) (fun b hb => .inr (HCL.out.new b hb))
        rw [hw8]
        clear hw8 fz cz
        refine hK.out _ _ (And.intro hst8 hst8.cells) (fun hHeldN => ?_)
        clear hst8
        clear hK K hHeld
        have hHeld := hHeldN
        clear hHeldN
        try simp only [List.getElem_toArray, List.getElem_cons_zero, List.getElem_cons_succ, Act.put, List.setIfInBounds_toArray, List.set_cons_zero, List.set_cons_succ]
        refine wpAnyH_done (by kernel_rfl) ?_ _
        go_wp2_with fail
        go_meet
        exact ⟨_, HPUT.out⟩
      | false =>
        go_wp2_with fail
        go_meet
        exact ⟨_, HST.out⟩
    case rest =>
      obtain ⟨E0, hE0⟩ := hcut
      have HE0 := Lib.hid hE0
      clear hE0 z5 lz fz cz
      go_wp2_with fail
      go_loopw [9, 10] (fun nv iv wr => WdOut wv bl m most n nv iv wr) (fun _ iv _ => n - (intOf iv).toNat)
      case atStart => exact ⟨0, 0, E0, rfl, rfl, Nat.zero_le _, Nat.zero_le _, HE0.out⟩
      case round =>
        obtain ⟨i, q, E, rfl, rfl, hi, hq, hW⟩ := hrel
        have HWD := Lib.hid hW
        have hup := hW.upd
        have HUW : Hid (Upd [] w wr) := HU6.out.then hup (fun _ _ h => h) (fun k hk hm => by have := HSZ.out; have := HU5.out.size; simp only [List.mem_cons, List.not_mem_nil, or_false] at hm; omega)
        clear hW hup
        by_cases hlt : i < n
        · have t1 : decide (i < n) = true := by simp [hlt]
          have b1 : (i : Int) < (n : Int) := by omega
          have fin1 : i + 1 ≤ 9223372036854775807 := by omega
          obtain ⟨x, hx⟩ : ∃ x, L[i]? = some x := ⟨_, List.getElem?_eq_getElem (by rw [HN.out]; exact hlt)⟩
          obtain ⟨mm, hmm⟩ : ∃ mm, x.L.length = mm := ⟨_, rfl⟩
          have HMM := Lib.hid hmm
          have HX := Lib.hid hx
          clear hx hmm
          go_wp2_with fail
          obtain ⟨wb, ewb⟩ : ∃ y : World, y = wr := ⟨_, rfl⟩
          subst ewb
          go_loopw [9, 11] (fun nv kv wr => WdIn wv bl m most mm nv kv wr) (fun _ kv _ => mm - (intOf kv).toNat)
          case atStart => exact ⟨0, q, E, rfl, rfl, Nat.zero_le _, hq, HWD.out⟩
          case round =>
            clear HWD HUW hq
            obtain ⟨k, q, E, rfl, rfl, hk, hq, hW⟩ := hrel
            have HWD := Lib.hid hW
            have hup := hW.upd
            have HUW : Hid (Upd [] w wr) := HU6.out.then hup (fun _ _ h => h) (fun k hk hm => by have := HSZ.out; have := HU5.out.size; simp only [List.mem_cons, List.not_mem_nil, or_false] at hm; omega)
            obtain ⟨-, _, _, e1, hat⟩ := lists_at HLS.out
            rw [HN.out] at e1
            cases e1
            obtain ⟨gb, go, rfl, lgw, v0, hm2, lo, lc, hlv, hcs⟩ := hat i x HX.out
            rw [hlv, ← HUW.out.cell lgw (by simp)] at v0
            rw [HMM.out] at v0 hm2
            have lg := Nat.lt_of_lt_of_le lgw HUW.out.size
            have HLG := Lib.hid lgw
            have HCS := Lib.hid hcs
            have hbc := HBC.out.upd hup (by have := HSZ.out; simp; omega)
            have c2 := hbc.cell (j := 2) rfl
            have lc2 := hbc.lt
            have hbo := HBO.out.upd hup (by have := HSZ.out; simp; omega)
            have o5 := hbo.cell (j := 5) rfl
            have lo5 := hbo.lt
            have bmm : mm ≤ 9223372036854775807 := hm2
            clear lgw hbo
            clear hW hup hat hlv hcs hm2 hbc
            have tq1 : ∀ x : Bool, decide (q < most) = x → decide ((q : Int) < (most : Int)) = x := fun x h => by rw [← h]; simp
            by_cases hc : k < mm ∧ q < most
            · obtain ⟨hc1, hc2⟩ := hc
              have t2 : decide (k < mm) = true := by simp [hc1]
              have t3 : decide (q < most) = true := by simp [hc2]
              have hq57 : q < 57 := by have := HMO.out; omega
              have t4 : decide (q < 57) = true := by simp [hq57]
              have t4' : decide ((q : Int) < 57) = true := by simp; omega
              have bq57 : q + 1 ≤ 9223372036854775807 := by omega
              have bk1 : k + 1 ≤ 9223372036854775807 := by omega
              have b2 : (k : Int) < (mm : Int) := by omega
              clear tq1
              obtain ⟨cl, hcl⟩ : ∃ cl, x.L[k]? = some cl := ⟨_, List.getElem?_eq_getElem (by rw [HMM.out]; exact hc1)⟩
              obtain ⟨gc, gof, rfl, lgcw, k0, k1, k2, k3⟩ := HCS.out k cl hcl
              rw [← HUW.out.cell lgcw (by simp)] at k0 k1 k2 k3
              have lgc := Nat.lt_of_lt_of_le lgcw HUW.out.size
              go_upto_region 14 with (fail)
              obtain ⟨j, hj⟩ : ∃ j, i % m = j := ⟨_, rfl⟩
              have hjm : j < m := by rw [← hj]; exact Nat.mod_lt _ mp
              rw [show (i : Int) % (m : Int) = (j : Int) by rw [← hj]; exact (Int.natCast_emod i m).symm]
              have bj : (j : Int) < (m : Int) := by omega
              obtain ⟨x0, hx0⟩ : ∃ x0, E[j]? = some x0 := ⟨_, List.getElem?_eq_getElem (by rw [HWD.out.len]; exact hjm)⟩
              obtain ⟨ao, k9, cap, hx0v, hrx, hx0l, hk9, hge⟩ := HWD.out.each j x0 hx0
              have hjc : (E.flatMap liVs)[j]? = some (.slice ao k9 cap) := by
                have := flat_get liVs 1 liVs_len E j 0 (by omega) x0 hx0
                rw [Nat.mul_one, Nat.add_zero] at this
                rw [this, ← hx0v]; rfl
              have HJC := Lib.hid hjc
              have HX0 := Lib.hid hx0
              have HX0V := Lib.hid hx0v
              have HX0L := Lib.hid hx0l
              have HK9 : Hid (k9 ≤ 3 + q) := hk9
              have HRX := Lib.hid hrx
              have HROWJ : Hid (∀ w', Upd [] wr w' → w'.cell? ⟨bl, j, none⟩ = some (.slice ao k9 cap)) := fun w' hu => (HWD.out.row.upd hu (by simp)).cell hjc
              have HBLT : Hid (∀ w', Upd [] wr w' → bl < w'.heap.size) := fun w' hu => (HWD.out.row.upd hu (by simp)).lt
              have hnbl : bl ∉ blkO ao := fun hm => by have := hge bl hm; have := HWD.out.hbl; omega
              have HNBL := Lib.hid hnbl
              obtain ⟨T, hT⟩ : ∃ T, bl :: blkO ao = T := ⟨_, rfl⟩
              have HT := Lib.hid hT
              have nT : ∀ b, b < wv.heap.size → b ≠ bl → b ∉ T := fun b hb hne hm => by
                rw [← hT] at hm
                rcases List.mem_cons.1 hm with e | hm
                · exact hne e
                · have := hge b hm; omega
              have hws := HU6.out.size
              have hw5 := HU5.out.size
              have n1 : bo ∉ T := nT bo HBO.out.lt nob
              have n2 : gb ∉ T := nT gb (by have := HLG.out; omega) (by have := HLG.out; have := HSZ.out; omega)
              have n3 : gc ∉ T := nT gc (by omega) (by have := HSZ.out; omega)
              have HBD : Hid (k9 + 1 ≤ maxLen ∧ (k9 + 1) * 32 ≤ 140737488355328) := ⟨by unfold maxLen; omega, by omega⟩
              obtain ⟨ic, hic, hc0, hc1', hc2'⟩ := info_parts infoCall_
              have hc1 := hc1'
              have hc2 := hc2'
              clear nT hws hw5 hT hge hjc hx0 hx0v hx0l hk9 hrx hnbl hcl lgcw hj hc1' hc2'
              refine wp_region_held_drew (S := fun w' => Upd T wr w' ∧ ∀ (b o : Nat), b < wr.heap.size → b ∉ T → w'.cell? ⟨b, o, none⟩ = wr.cell? ⟨b, o, none⟩) (by kernel_rfl) (Held.init _ _) (fun hHeld => ?_)
              refine wpAnyH_take (i := 0) (v := ?_) rfl (by kernel_rfl) (by kernel_rfl) (by kernel_rfl) (fun _ _ _ h => h) (Or.inl ⟨by rfl, ?_⟩) (by assumption) ?_
              rotate_left
              · intro w hSw
                try dsimp only at hSw
                go_simp
                try with_reducible rfl
              try simp only [List.getElem_toArray, List.getElem_cons_zero, List.getElem_cons_succ, Act.put, List.setIfInBounds_toArray, List.set_cons_zero, List.set_cons_succ]
              refine wpAnyH_take (i := 1) (v := ?_) rfl (by kernel_rfl) (by kernel_rfl) (by kernel_rfl) (fun _ _ _ h => h) (Or.inl ⟨by rfl, ?_⟩) (by assumption) ?_
              rotate_left
              · intro w hSw
                try dsimp only at hSw
                go_simp
                try with_reducible rfl
              try simp only [List.getElem_toArray, List.getElem_cons_zero, List.getElem_cons_succ, Act.put, List.setIfInBounds_toArray, List.set_cons_zero, List.set_cons_succ]
              refine wpAnyH_take (i := 2) (v := ?_) rfl (by kernel_rfl) (by kernel_rfl) (by kernel_rfl) (fun _ _ _ h => h) (Or.inl ⟨by rfl, ?_⟩) (by assumption) ?_
              rotate_left
              · intro w hSw
                try dsimp only at hSw
                go_simp
                try with_reducible rfl
              try simp only [List.getElem_toArray, List.getElem_cons_zero, List.getElem_cons_succ, Act.put, List.setIfInBounds_toArray, List.set_cons_zero, List.set_cons_succ]
              refine wpAnyH_take (i := 3) (v := ?_) rfl (by kernel_rfl) (by kernel_rfl) (by kernel_rfl) (fun _ _ _ h => h) (Or.inl ⟨by rfl, ?_⟩) (by assumption) ?_
              rotate_left
              · intro w hSw
                try dsimp only at hSw
                go_simp
                try with_reducible rfl
              try simp only [List.getElem_toArray, List.getElem_cons_zero, List.getElem_cons_succ, Act.put, List.setIfInBounds_toArray, List.set_cons_zero, List.set_cons_succ]
              refine wpAnyH_take (i := 4) (v := ?_) rfl (by kernel_rfl) (by kernel_rfl) (by kernel_rfl) (fun _ _ _ h => h) (Or.inl ⟨by rfl, ?_⟩) (by assumption) ?_
              rotate_left
              · intro w hSw
                try dsimp only at hSw
                go_simp
                try with_reducible rfl
              try simp only [List.getElem_toArray, List.getElem_cons_zero, List.getElem_cons_succ, Act.put, List.setIfInBounds_toArray, List.set_cons_zero, List.set_cons_succ]
              refine wpAnyH_take (i := 5) (v := ?_) rfl (by kernel_rfl) (by kernel_rfl) (by kernel_rfl) (fun _ _ _ h => h) (Or.inl ⟨by rfl, ?_⟩) (by assumption) ?_
              rotate_left
              · intro w hSw
                try dsimp only at hSw
                go_simp
                try with_reducible rfl
              try simp only [List.getElem_toArray, List.getElem_cons_zero, List.getElem_cons_succ, Act.put, List.setIfInBounds_toArray, List.set_cons_zero, List.set_cons_succ]
              refine wpAnyH_take (i := 6) (v := ?_) rfl (by kernel_rfl) (by kernel_rfl) (by kernel_rfl) (fun _ _ _ h => h) (Or.inl ⟨by rfl, ?_⟩) (by assumption) ?_
              rotate_left
              · intro w hSw
                try dsimp only at hSw
                go_simp
                try with_reducible rfl
              try simp only [List.getElem_toArray, List.getElem_cons_zero, List.getElem_cons_succ, Act.put, List.setIfInBounds_toArray, List.set_cons_zero, List.set_cons_succ]
              refine wpAnyH_take (i := 8) (v := ?_) rfl (by kernel_rfl) (by kernel_rfl) (by kernel_rfl) (fun _ _ _ h => h) (Or.inl ⟨by rfl, ?_⟩) (by assumption) ?_
              rotate_left
              · intro w hSw
                try dsimp only at hSw
                go_simp
                try with_reducible rfl
              try simp only [List.getElem_toArray, List.getElem_cons_zero, List.getElem_cons_succ, Act.put, List.setIfInBounds_toArray, List.set_cons_zero, List.set_cons_succ]
              refine wpAnyH_take (i := 9) (v := ?_) rfl (by kernel_rfl) (by kernel_rfl) (by kernel_rfl) (fun _ _ _ h => h) (Or.inl ⟨by rfl, ?_⟩) (by assumption) ?_
              rotate_left
              · intro w hSw
                try dsimp only at hSw
                go_simp
                try with_reducible rfl
              try simp only [List.getElem_toArray, List.getElem_cons_zero, List.getElem_cons_succ, Act.put, List.setIfInBounds_toArray, List.set_cons_zero, List.set_cons_succ]
              refine wpAnyH_take (i := 10) (v := ?_) rfl (by kernel_rfl) (by kernel_rfl) (by kernel_rfl) (fun _ _ _ h => h) (Or.inl ⟨by rfl, ?_⟩) (by assumption) ?_
              rotate_left
              · intro w hSw
                try dsimp only at hSw
                go_simp
                try with_reducible rfl
              try simp only [List.getElem_toArray, List.getElem_cons_zero, List.getElem_cons_succ, Act.put, List.setIfInBounds_toArray, List.set_cons_zero, List.set_cons_succ]
              refine wpAnyH_take (i := 11) (v := ?_) rfl (by kernel_rfl) (by kernel_rfl) (by kernel_rfl) (fun _ _ _ h => h) (Or.inl ⟨by rfl, ?_⟩) (by assumption) ?_
              rotate_left
              · intro w hSw
                try dsimp only at hSw
                go_simp
                try with_reducible rfl
              try simp only [List.getElem_toArray, List.getElem_cons_zero, List.getElem_cons_succ, Act.put, List.setIfInBounds_toArray, List.set_cons_zero, List.set_cons_succ]
              refine wpAnyH_take (i := 12) (v := ?_) rfl (by kernel_rfl) (by kernel_rfl) (by kernel_rfl) (fun _ _ _ h => h) (Or.inl ⟨by rfl, ?_⟩) (by assumption) ?_
              rotate_left
              · intro w hSw
                try dsimp only at hSw
                go_simp
                try with_reducible rfl
              try simp only [List.getElem_toArray, List.getElem_cons_zero, List.getElem_cons_succ, Act.put, List.setIfInBounds_toArray, List.set_cons_zero, List.set_cons_succ]
              refine wpAnyH_take (i := 13) (v := ?_) rfl (by kernel_rfl) (by kernel_rfl) (by kernel_rfl) (fun _ _ _ h => h) (Or.inl ⟨by rfl, ?_⟩) (by assumption) ?_
              rotate_left
              · intro w hSw
                try dsimp only at hSw
                go_simp
                try with_reducible rfl
              try simp only [List.getElem_toArray, List.getElem_cons_zero, List.getElem_cons_succ, Act.put, List.setIfInBounds_toArray, List.set_cons_zero, List.set_cons_succ]
              refine wpAnyH_take (i := 14) (v := ?_) rfl (by kernel_rfl) (by kernel_rfl) (by kernel_rfl) (fun _ _ _ h => h) (Or.inl ⟨by rfl, ?_⟩) (by assumption) ?_
              rotate_left
              · intro w hSw
                try dsimp only at hSw
                go_simp
                try with_reducible rfl
              try simp only [List.getElem_toArray, List.getElem_cons_zero, List.getElem_cons_succ, Act.put, List.setIfInBounds_toArray, List.set_cons_zero, List.set_cons_succ]
              refine wpAnyH_ready (rs := [7, 15]) (by kernel_rfl) (by simp) ?_
              refine AllReadyH.cons rfl (fun K hK => ?_) (AllReadyH.cons rfl (fun K hK => ?_) AllReadyH.nil)
              · skip
                have e7 := HROWJ.out _ (Upd.refl [] wr).drew
                have l7 := HBLT.out _ (Upd.refl [] wr).drew
                go_simp
                refine hK.out _ _ hHeld (fun hHeldN => ?_)
                clear hK K hHeld
                have hHeld := hHeldN
                clear hHeldN
                try simp only [List.getElem_toArray, List.getElem_cons_zero, List.getElem_cons_succ, Act.put, List.setIfInBounds_toArray, List.set_cons_zero, List.set_cons_succ]
                clear e7 l7
                refine wpAnyH_ready (rs := [15]) (by kernel_rfl) (by simp) ?_
                refine AllReadyH.cons rfl (fun K hK => ?_) AllReadyH.nil
                go_simp
                go_at_call 51
                refine (pcall_some cl _).mono ?_
                rintro e w6 ⟨c', rfl, hu6⟩
                unfold clV
                have HU6W : Hid (Upd [] wr w6) := (Upd.refl [] wr).drew.trans hu6
                have hH6 := Held.step hHeld (hu6.nil (S := T))
                clear hu6
                refine hK.out _ _ hH6 (fun hHeldN => ?_)
                clear hK K hHeld
                have hHeld := hHeldN
                clear hHeldN
                try simp only [List.getElem_toArray, List.getElem_cons_zero, List.getElem_cons_succ, Act.put, List.setIfInBounds_toArray, List.set_cons_zero, List.set_cons_succ]
                clear hH6
                refine wpAnyH_ready (rs := [16]) (by kernel_rfl) (by simp) ?_
                refine AllReadyH.cons rfl (fun K hK => ?_) AllReadyH.nil
                go_simp
                refine hK.out _ _ (Held.new hHeld _) (fun hHeldN => ?_)
                clear hK K hHeld
                have hHeld := hHeldN
                clear hHeldN
                try simp only [List.getElem_toArray, List.getElem_cons_zero, List.getElem_cons_succ, Act.put, List.setIfInBounds_toArray, List.set_cons_zero, List.set_cons_succ]
                obtain ⟨v3, hv3⟩ : ∃ y, w6.alloc (.cells #[.int .i64 c'.op, .int .i64 c'.flow, .int .i64 c'.a, .int .i64 c'.b] 46) = y := ⟨_, rfl⟩
                have HSRC : Hid (Src v3 4 (some ⟨w6.heap.size, 0, none⟩) 1 (clVs c')) := by unfold Hid; rw [← hv3]; exact one_src w6 46 (clVs c') (clVs_one _) 4 rfl
                have HUV : Hid (Upd [] wr v3) := by unfold Hid; rw [← hv3]; exact HU6W.out.alloc _
                rw [hv3] at hHeld ⊢
                clear hv3
                have HRV := Lib.hid (HRX.out.upd HUV.out (by simp))
                refine wpAnyH_ready (rs := [17]) (by kernel_rfl) (by simp) ?_
                refine AllReadyH.cons rfl (fun K hK => ?_) AllReadyH.nil
                refine step_app2 _ (by rfl) _ _ _ (by rfl) 46 ic _ 4 32 underlyingCalls_ hic hc0 hc1 hc2 rfl (by omega) ao k9 cap (x0.L.flatMap clVs) (by rfl) HRV.out (some ⟨w6.heap.size, 0, none⟩) 1 1 (clVs c') (by rfl) HSRC.out HBD.out.1 HBD.out.2 ?_
                intro ao3 cap3 w7 hA3
                have HA3 := Lib.hid hA3
                have hu7 : Upd T wr w7 := HUV.out.nil.trans (hA3.upd.mono (fun b _ hb => by rw [← HT.out]; exact List.mem_cons_of_mem _ hb))
                have hrow7 := (HWD.out.row.upd HUV.out (by simp)).upd hA3.upd HNBL.out
                clear hA3
                refine hK.out _ _ (And.intro hu7 hu7.cells) (fun hHeldN => ?_)
                clear hu7
                clear hK K hHeld
                have hHeld := hHeldN
                clear hHeldN
                try simp only [List.getElem_toArray, List.getElem_cons_zero, List.getElem_cons_succ, Act.put, List.setIfInBounds_toArray, List.set_cons_zero, List.set_cons_succ]
                refine wpAnyH_take (i := 18) (v := ?_) rfl (by kernel_rfl) (by kernel_rfl) (by kernel_rfl) (fun _ _ _ h => h) (Or.inl ⟨by rfl, ?_⟩) (by assumption) ?_
                rotate_left
                · intro w hSw
                  try dsimp only at hSw
                  go_simp
                  try with_reducible rfl
                try simp only [List.getElem_toArray, List.getElem_cons_zero, List.getElem_cons_succ, Act.put, List.setIfInBounds_toArray, List.set_cons_zero, List.set_cons_succ]
                refine wpAnyH_ready (rs := [19]) (by kernel_rfl) (by simp) ?_
                refine AllReadyH.cons rfl (fun K hK => ?_) AllReadyH.nil
                have g7 := hrow7.free j
                have e7 := hrow7.cell HJC.out
                have l7 := hrow7.lt
                go_simp
                obtain ⟨w8, hw8⟩ : ∃ y, w7.setCell ⟨bl, j, none⟩ (.slice ao3 (k9 + 1) cap3) = y := ⟨_, rfl⟩
                have hst8 : Upd T wr w8 := by rw [← hw8]; exact hHeld.1.setCell (.inl (by rw [← HT.out]; exact List.mem_cons_self)) _
                have HPUT : Hid (WdAt wv w8 bl m (E.set j ⟨.slice ao3 (k9 + 1) cap3, x0.L ++ [c']⟩) (q + 1)) := by
                  unfold Hid
                  rw [← hw8]
                  exact HWD.out.put HX0.out HX0V.out (HUV.out.nil.trans HA3.out.upd) rfl (by rw [List.flatMap_append]; simpa using HA3.out.row) (by rw [List.length_append, HX0L.out]; rfl) (Nat.le_succ q) (by have := HK9.out; omega) (fun b hb => by rcases HA3.out.at_ b hb with h | h; exact .inl h; right; have := HUV.out.size; omega)
                rw [hw8]
                clear hw8 g7 e7 l7 hrow7
                refine hK.out _ _ (And.intro hst8 hst8.cells) (fun hHeldN => ?_)
                clear hst8
                clear hK K hHeld
                have hHeld := hHeldN
                clear hHeldN
                try simp only [List.getElem_toArray, List.getElem_cons_zero, List.getElem_cons_succ, Act.put, List.setIfInBounds_toArray, List.set_cons_zero, List.set_cons_succ]
                refine wpAnyH_done (by kernel_rfl) ?_ _
                clear hHeld
                go_wp2_with fail
                exact ⟨⟨k + 1, q + 1, _, by congr 1, by congr 1, by omega, by omega, HPUT.out⟩, by first | (simp [intOf]; done) | (simp [intOf]; omega)⟩
              · skip
                go_simp
                go_at_call 51
                refine (pcall_some cl _).mono ?_
                rintro e w6 ⟨c', rfl, hu6⟩
                unfold clV
                have HU6W : Hid (Upd [] wr w6) := (Upd.refl [] wr).drew.trans hu6
                have hH6 := Held.step hHeld (hu6.nil (S := T))
                clear hu6
                refine hK.out _ _ hH6 (fun hHeldN => ?_)
                clear hK K hHeld
                have hHeld := hHeldN
                clear hHeldN
                try simp only [List.getElem_toArray, List.getElem_cons_zero, List.getElem_cons_succ, Act.put, List.setIfInBounds_toArray, List.set_cons_zero, List.set_cons_succ]
                clear hH6
                refine wpAnyH_ready (rs := [7, 16]) (by kernel_rfl) (by simp) ?_
                refine AllReadyH.cons rfl (fun K hK => ?_) (AllReadyH.cons rfl (fun K hK => ?_) AllReadyH.nil)
                · skip
                  have e7 := HROWJ.out _ HU6W.out
                  have l7 := HBLT.out _ HU6W.out
                  go_simp
                  refine hK.out _ _ hHeld (fun hHeldN => ?_)
                  clear hK K hHeld
                  have hHeld := hHeldN
                  clear hHeldN
                  try simp only [List.getElem_toArray, List.getElem_cons_zero, List.getElem_cons_succ, Act.put, List.setIfInBounds_toArray, List.set_cons_zero, List.set_cons_succ]
                  clear e7 l7
                  refine wpAnyH_ready (rs := [16]) (by kernel_rfl) (by simp) ?_
                  refine AllReadyH.cons rfl (fun K hK => ?_) AllReadyH.nil
                  go_simp
                  refine hK.out _ _ (Held.new hHeld _) (fun hHeldN => ?_)
                  clear hK K hHeld
                  have hHeld := hHeldN
                  clear hHeldN
                  try simp only [List.getElem_toArray, List.getElem_cons_zero, List.getElem_cons_succ, Act.put, List.setIfInBounds_toArray, List.set_cons_zero, List.set_cons_succ]
                  obtain ⟨v3, hv3⟩ : ∃ y, w6.alloc (.cells #[.int .i64 c'.op, .int .i64 c'.flow, .int .i64 c'.a, .int .i64 c'.b] 46) = y := ⟨_, rfl⟩
                  have HSRC : Hid (Src v3 4 (some ⟨w6.heap.size, 0, none⟩) 1 (clVs c')) := by unfold Hid; rw [← hv3]; exact one_src w6 46 (clVs c') (clVs_one _) 4 rfl
                  have HUV : Hid (Upd [] wr v3) := by unfold Hid; rw [← hv3]; exact HU6W.out.alloc _
                  rw [hv3] at hHeld ⊢
                  clear hv3
                  have HRV := Lib.hid (HRX.out.upd HUV.out (by simp))
                  refine wpAnyH_ready (rs := [17]) (by kernel_rfl) (by simp) ?_
                  refine AllReadyH.cons rfl (fun K hK => ?_) AllReadyH.nil
                  refine step_app2 _ (by rfl) _ _ _ (by rfl) 46 ic _ 4 32 underlyingCalls_ hic hc0 hc1 hc2 rfl (by omega) ao k9 cap (x0.L.flatMap clVs) (by rfl) HRV.out (some ⟨w6.heap.size, 0, none⟩) 1 1 (clVs c') (by rfl) HSRC.out HBD.out.1 HBD.out.2 ?_
                  intro ao3 cap3 w7 hA3
                  have HA3 := Lib.hid hA3
                  have hu7 : Upd T wr w7 := HUV.out.nil.trans (hA3.upd.mono (fun b _ hb => by rw [← HT.out]; exact List.mem_cons_of_mem _ hb))
                  have hrow7 := (HWD.out.row.upd HUV.out (by simp)).upd hA3.upd HNBL.out
                  clear hA3
                  refine hK.out _ _ (And.intro hu7 hu7.cells) (fun hHeldN => ?_)
                  clear hu7
                  clear hK K hHeld
                  have hHeld := hHeldN
                  clear hHeldN
                  try simp only [List.getElem_toArray, List.getElem_cons_zero, List.getElem_cons_succ, Act.put, List.setIfInBounds_toArray, List.set_cons_zero, List.set_cons_succ]
                  refine wpAnyH_take (i := 18) (v := ?_) rfl (by kernel_rfl) (by kernel_rfl) (by kernel_rfl) (fun _ _ _ h => h) (Or.inl ⟨by rfl, ?_⟩) (by assumption) ?_
                  rotate_left
                  · intro w hSw
                    try dsimp only at hSw
                    go_simp
                    try with_reducible rfl
                  try simp only [List.getElem_toArray, List.getElem_cons_zero, List.getElem_cons_succ, Act.put, List.setIfInBounds_toArray, List.set_cons_zero, List.set_cons_succ]
                  refine wpAnyH_ready (rs := [19]) (by kernel_rfl) (by simp) ?_
                  refine AllReadyH.cons rfl (fun K hK => ?_) AllReadyH.nil
                  have g7 := hrow7.free j
                  have e7 := hrow7.cell HJC.out
                  have l7 := hrow7.lt
                  go_simp
                  obtain ⟨w8, hw8⟩ : ∃ y, w7.setCell ⟨bl, j, none⟩ (.slice ao3 (k9 + 1) cap3) = y := ⟨_, rfl⟩
                  have hst8 : Upd T wr w8 := by rw [← hw8]; exact hHeld.1.setCell (.inl (by rw [← HT.out]; exact List.mem_cons_self)) _
                  have HPUT : Hid (WdAt wv w8 bl m (E.set j ⟨.slice ao3 (k9 + 1) cap3, x0.L ++ [c']⟩) (q + 1)) := by
                    unfold Hid
                    rw [← hw8]
                    exact HWD.out.put HX0.out HX0V.out (HUV.out.nil.trans HA3.out.upd) rfl (by rw [List.flatMap_append]; simpa using HA3.out.row) (by rw [List.length_append, HX0L.out]; rfl) (Nat.le_succ q) (by have := HK9.out; omega) (fun b hb => by rcases HA3.out.at_ b hb with h | h; exact .inl h; right; have := HUV.out.size; omega)
                  rw [hw8]
                  clear hw8 g7 e7 l7 hrow7
                  refine hK.out _ _ (And.intro hst8 hst8.cells) (fun hHeldN => ?_)
                  clear hst8
                  clear hK K hHeld
                  have hHeld := hHeldN
                  clear hHeldN
                  try simp only [List.getElem_toArray, List.getElem_cons_zero, List.getElem_cons_succ, Act.put, List.setIfInBounds_toArray, List.set_cons_zero, List.set_cons_succ]
                  refine wpAnyH_done (by kernel_rfl) ?_ _
                  clear hHeld
                  go_wp2_with fail
                  exact ⟨⟨k + 1, q + 1, _, by congr 1, by congr 1, by omega, by omega, HPUT.out⟩, by first | (simp [intOf]; done) | (simp [intOf]; omega)⟩
                · skip
                  go_simp
                  refine hK.out _ _ (Held.new hHeld _) (fun hHeldN => ?_)
                  clear hK K hHeld
                  have hHeld := hHeldN
                  clear hHeldN
                  try simp only [List.getElem_toArray, List.getElem_cons_zero, List.getElem_cons_succ, Act.put, List.setIfInBounds_toArray, List.set_cons_zero, List.set_cons_succ]
                  refine wpAnyH_ready (rs := [7]) (by kernel_rfl) (by simp) ?_
                  refine AllReadyH.cons rfl (fun K hK => ?_) AllReadyH.nil
                  have e7 := HROWJ.out _ (HU6W.out.alloc (.cells #[.int .i64 c'.op, .int .i64 c'.flow, .int .i64 c'.a, .int .i64 c'.b] 46))
                  have l7 := HBLT.out _ (HU6W.out.alloc (.cells #[.int .i64 c'.op, .int .i64 c'.flow, .int .i64 c'.a, .int .i64 c'.b] 46))
                  go_simp
                  refine hK.out _ _ hHeld (fun hHeldN => ?_)
                  clear hK K hHeld
                  have hHeld := hHeldN
                  clear hHeldN
                  try simp only [List.getElem_toArray, List.getElem_cons_zero, List.getElem_cons_succ, Act.put, List.setIfInBounds_toArray, List.set_cons_zero, List.set_cons_succ]
                  clear e7 l7
                  obtain ⟨v3, hv3⟩ : ∃ y, w6.alloc (.cells #[.int .i64 c'.op, .int .i64 c'.flow, .int .i64 c'.a, .int .i64 c'.b] 46) = y := ⟨_, rfl⟩
                  have HSRC : Hid (Src v3 4 (some ⟨w6.heap.size, 0, none⟩) 1 (clVs c')) := by unfold Hid; rw [← hv3]; exact one_src w6 46 (clVs c') (clVs_one _) 4 rfl
                  have HUV : Hid (Upd [] wr v3) := by unfold Hid; rw [← hv3]; exact HU6W.out.alloc _
                  rw [hv3] at hHeld ⊢
                  clear hv3
                  have HRV := Lib.hid (HRX.out.upd HUV.out (by simp))
                  refine wpAnyH_ready (rs := [17]) (by kernel_rfl) (by simp) ?_
                  refine AllReadyH.cons rfl (fun K hK => ?_) AllReadyH.nil
                  refine step_app2 _ (by rfl) _ _ _ (by rfl) 46 ic _ 4 32 underlyingCalls_ hic hc0 hc1 hc2 rfl (by omega) ao k9 cap (x0.L.flatMap clVs) (by rfl) HRV.out (some ⟨w6.heap.size, 0, none⟩) 1 1 (clVs c') (by rfl) HSRC.out HBD.out.1 HBD.out.2 ?_
                  intro ao3 cap3 w7 hA3
                  have HA3 := Lib.hid hA3
                  have hu7 : Upd T wr w7 := HUV.out.nil.trans (hA3.upd.mono (fun b _ hb => by rw [← HT.out]; exact List.mem_cons_of_mem _ hb))
                  have hrow7 := (HWD.out.row.upd HUV.out (by simp)).upd hA3.upd HNBL.out
                  clear hA3
                  refine hK.out _ _ (And.intro hu7 hu7.cells) (fun hHeldN => ?_)
                  clear hu7
                  clear hK K hHeld
                  have hHeld := hHeldN
                  clear hHeldN
                  try simp only [List.getElem_toArray, List.getElem_cons_zero, List.getElem_cons_succ, Act.put, List.setIfInBounds_toArray, List.set_cons_zero, List.set_cons_succ]
                  refine wpAnyH_take (i := 18) (v := ?_) rfl (by kernel_rfl) (by kernel_rfl) (by kernel_rfl) (fun _ _ _ h => h) (Or.inl ⟨by rfl, ?_⟩) (by assumption) ?_
                  rotate_left
                  · intro w hSw
                    try dsimp only at hSw
                    go_simp
                    try with_reducible rfl
                  try simp only [List.getElem_toArray, List.getElem_cons_zero, List.getElem_cons_succ, Act.put, List.setIfInBounds_toArray, List.set_cons_zero, List.set_cons_succ]
                  refine wpAnyH_ready (rs := [19]) (by kernel_rfl) (by simp) ?_
                  refine AllReadyH.cons rfl (fun K hK => ?_) AllReadyH.nil
                  have g7 := hrow7.free j
                  have e7 := hrow7.cell HJC.out
                  have l7 := hrow7.lt
                  go_simp
                  obtain ⟨w8, hw8⟩ : ∃ y, w7.setCell ⟨bl, j, none⟩ (.slice ao3 (k9 + 1) cap3) = y := ⟨_, rfl⟩
                  have hst8 : Upd T wr w8 := by rw [← hw8]; exact hHeld.1.setCell (.inl (by rw [← HT.out]; exact List.mem_cons_self)) _
                  have HPUT : Hid (WdAt wv w8 bl m (E.set j ⟨.slice ao3 (k9 + 1) cap3, x0.L ++ [c']⟩) (q + 1)) := by
                    unfold Hid
                    rw [← hw8]
                    exact HWD.out.put HX0.out HX0V.out (HUV.out.nil.trans HA3.out.upd) rfl (by rw [List.flatMap_append]; simpa using HA3.out.row) (by rw [List.length_append, HX0L.out]; rfl) (Nat.le_succ q) (by have := HK9.out; omega) (fun b hb => by rcases HA3.out.at_ b hb with h | h; exact .inl h; right; have := HUV.out.size; omega)
                  rw [hw8]
                  clear hw8 g7 e7 l7 hrow7
                  refine hK.out _ _ (And.intro hst8 hst8.cells) (fun hHeldN => ?_)
                  clear hst8
                  clear hK K hHeld
                  have hHeld := hHeldN
                  clear hHeldN
                  try simp only [List.getElem_toArray, List.getElem_cons_zero, List.getElem_cons_succ, Act.put, List.setIfInBounds_toArray, List.set_cons_zero, List.set_cons_succ]
                  refine wpAnyH_done (by kernel_rfl) ?_ _
                  clear hHeld
                  go_wp2_with fail
                  exact ⟨⟨k + 1, q + 1, _, by congr 1, by congr 1, by omega, by omega, HPUT.out⟩, by first | (simp [intOf]; done) | (simp [intOf]; omega)⟩
            · have t2 : Hid ((decide (k < mm) = true ∧ decide (q < most) = false) ∨ decide (k < mm) = false) := by
                unfold Hid
                by_cases h : k < mm
                · left; exact ⟨by simp [h], by simp; omega⟩
                · right; simp; omega
              rcases t2.out with ⟨t3, t4⟩ | t3
              · have b2 : (k : Int) < (mm : Int) := by have := of_decide_eq_true t3; omega
                go_wp2_with fail
                exact ⟨⟨i + 1, q, E, by congr 1, by congr 1, by omega, hq, HWD.out⟩, by first | (simp [intOf]; done) | (simp [intOf]; omega)⟩
              · go_wp2_with fail
                exact ⟨⟨i + 1, q, E, by congr 1, by congr 1, by omega, hq, HWD.out⟩, by first | (simp [intOf]; done) | (simp [intOf]; omega)⟩
        · have t1 : decide (i < n) = false := by simp; omega
          have hbo := HBO.out.upd HWD.out.upd (by have := HSZ.out; simp; omega)
          have hbq := HBQ.out.upd HWD.out.upd (by have := HSZ.out; simp; omega)
          have o0 := hbo.cell (j := 0) rfl
          have o1 := hbo.cell (j := 1) rfl
          have o2 := hbo.cell (j := 2) rfl
          have o3 := hbo.cell (j := 3) rfl
          have o4 := hbo.cell (j := 4) rfl
          have o5 := hbo.cell (j := 5) rfl
          have lo := hbo.lt
          have q0 := hbq.cell (j := 0) rfl
          have q1 := hbq.cell (j := 1) rfl
          have q2 := hbq.cell (j := 2) rfl
          have q3 := hbq.cell (j := 3) rfl
          have q4 := hbq.cell (j := 4) rfl
          have q5 := hbq.cell (j := 5) rfl
          have f0 := hbq.free 0
          have f1 := hbq.free 1
          have f2 := hbq.free 2
          have f3 := hbq.free 3
          have f4 := hbq.free 4
          have f5 := hbq.free 5
          have lq := hbq.lt
          clear hbo hbq
          go_wp2_with fail
          refine bodyPost_ret (v := .agg #[.int .i64 a, .int .i64 b, .int .i64 m, .int .i64 d, .int .u64 u, .slice (some ⟨bl, 0, none⟩) m m]) (by simp [results, Tryz.results18, go_sem, q0, q1, q2, q3, q4, q5]) rfl ?_
          have hlen := HWD.out.len
          have hfin : Upd [bq] wr (((((wr.setCell ⟨bq, 0, none⟩ (.int .i64 a)).setCell ⟨bq, 1, none⟩ (.int .i64 b)).setCell ⟨bq, 2, none⟩ (.int .i64 m)).setCell ⟨bq, 3, none⟩ (.int .i64 d)).setCell ⟨bq, 4, none⟩ (.int .u64 u) |>.setCell ⟨bq, 5, none⟩ (.slice (some ⟨bl, 0, none⟩) m m)) := ((((((Upd.refl [bq] wr).setCell (.inl (by simp)) _).setCell (.inl (by simp)) _).setCell (.inl (by simp)) _).setCell (.inl (by simp)) _).setCell (.inl (by simp)) _).setCell (.inl (by simp)) _
          have hL := HWD.out.lists
          refine ⟨a, b, m, d, u, bl, E, by rw [hlen], ?_, HR.out, by rw [hlen], HUW.out.then hfin (fun _ _ h => h) (fun k hk hm => by have := HS.out; simp only [List.mem_cons, List.not_mem_nil, or_false] at hm; omega)⟩
          rw [hlen]
          refine ⟨hL.1.updS hfin (fun c hc hm => ?_), fun x hx => (hL.2 x hx).updS hfin (fun c hc hm => ?_)⟩
          · have := HSZ.out
            have hc' := lvB_blk hc
            simp only [blkO, List.mem_cons, List.not_mem_nil, or_false] at hc' hm
            omega
          · obtain ⟨i', hi', e⟩ := List.getElem_of_mem hx
            obtain ⟨ao, k, cap, hv, -, -, -, hge⟩ := HWD.out.each i' x (by rw [List.getElem?_eq_getElem hi', e])
            have hm' : c ∈ blkO ao := lvB_blk (by rw [← hv]; exact hc)
            have := hge c hm'
            have := HSZ.out
            have := HBQ.out.lt
            simp only [List.mem_cons, List.not_mem_nil, or_false] at hm
            omega
end Go.Proofs.YtfeobcmcellcpaaGreat
