/-
  The program's model: batch. No condition.
-/
import Derived.Test.YtfeobcmcellcpaaGreatPOC
set_option linter.unusedVariables false
set_option linter.unusedSimpArgs false
namespace Go.Proofs.YtfeobcmcellcpaaGreat
open Go.RowKit

theorem oneM_len (m : Ms) : (oneM m).1.L.length ≤ 1 ∧ (oneM m).2.n ≤ m.n + 1 ∧ (oneM m).1.n = 0 ∧ (oneM m).1.v = 0 := by
  unfold oneM
  split <;> simp [rtE]
structure BatR (W w wr : World) (mb : Nat) (c : Cf) (G : List Nat) (b3 b4 b5 : Nat) (k : Cl) (A i : Nat) (m m' : Ms) (G' : List Nat) (L : List Pk) (ao : Option Addr) (cap : Nat) : Prop where
  mg : MG W mb c m' G' wr
  fr : Fr G G' w wr
  box : Blk wr b3 46 [.int .i64 k.op, .int .i64 k.flow, .int .i64 k.a, .int .i64 k.b]
  ret : Blk wr b4 57 [.int .i64 0, .slice none 0 0, .int .i64 0, .int .u64 0]
  out : Blk wr b5 57 [.int .i64 0, .slice ao L.length cap, .int .i64 0, .int .u64 0]
  row : RowO wr 54 3 ao L.length cap (L.flatMap pkVs)
  ga : ∀ x ∈ blkO ao, w.heap.size ≤ x ∧ x ∉ G' ∧ b5 < x
  gb : ∀ x ∈ [b3, b4, b5], x ∉ G' ∧ w.heap.size ≤ x
  dd : b3 < b4 ∧ b4 < b5
  len : L.length ≤ i
  n : m'.n ≤ m.n + i
  eq : batM A m [] = batM (A - i) m' L

/-- Behind a call that took a packet. -/
structure BatS (W w wr w5 : World) (mb : Nat) (c : Cf) (G : List Nat) (b3 b4 b5 : Nat) (k : Cl) (m1 : Ms) (G1 : List Nat) (L : List Pk) (ao : Option Addr) (cap : Nat) : Prop where
  mg : MG W mb c m1 G1 w5
  fr : Fr G G1 w w5
  box : Blk w5 b3 46 [.int .i64 k.op, .int .i64 k.flow, .int .i64 k.a, .int .i64 k.b]
  ret : Blk w5 b4 57 [.int .i64 0, .slice none 0 0, .int .i64 0, .int .u64 0]
  out : Blk w5 b5 57 [.int .i64 0, .slice ao L.length cap, .int .i64 0, .int .u64 0]
  row : RowO w5 54 3 ao L.length cap (L.flatMap pkVs)
  ga : ∀ x ∈ blkO ao, w.heap.size ≤ x ∧ x ∉ G1 ∧ b5 < x
  gb : ∀ x ∈ [b3, b4, b5], x ∉ G1 ∧ w.heap.size ≤ x
theorem BatR.step {W w wr w5 : World} {mb b3 b4 b5 A i cap : Nat} {c : Cf} {G G' G1 : List Nat} {k : Cl} {m m' m1 : Ms} {L : List Pk} {ao : Option Addr} (h : BatR W w wr mb c G b3 b4 b5 k A i m m' G' L ao cap) (hm : MG W mb c m1 G1 w5) (hf : Fr G' G1 wr w5) : BatS W w wr w5 mb c G b3 b4 b5 k m1 G1 L ao cap := by
  have hb : ∀ x ∈ [b3, b4, b5], x < wr.heap.size := fun x hx => by
    simp only [List.mem_cons, List.not_mem_nil, or_false] at hx
    rcases hx with rfl | rfl | rfl
    · exact h.box.lt
    · exact h.ret.lt
    · exact h.out.lt
  have key : ∀ x, x < wr.heap.size → x ∉ G' → x ∉ G1 := fun x hx hn hc => by rcases hf.1 x hc with k | k; exact hn k; omega
  exact ⟨hm, h.fr.trans hf, h.box.upd hf.2 (h.gb b3 (by simp)).1, h.ret.upd hf.2 (h.gb b4 (by simp)).1, h.out.upd hf.2 (h.gb b5 (by simp)).1, h.row.upd hf.2 (fun x hx => (h.ga x hx).2.1), fun x hx => ⟨(h.ga x hx).1, key x (h.row.lt x hx) (h.ga x hx).2.1, (h.ga x hx).2.2⟩, fun x hx => ⟨key x (hb x hx) (h.gb x hx).1, (h.gb x hx).2⟩⟩
theorem BatR.same {W w wr : World} {mb b3 b4 b5 A i cap : Nat} {c : Cf} {G G' : List Nat} {k : Cl} {m m' : Ms} {L : List Pk} {ao : Option Addr} (h : BatR W w wr mb c G b3 b4 b5 k A i m m' G' L ao cap) : BatS W w wr wr mb c G b3 b4 b5 k m' G' L ao cap := h.step h.mg (Fr.refl _ _)
theorem BatS.fin {W w wr w5 w7 : World} {mb b3 b4 b5 cap : Nat} {c : Cf} {G G1 : List Nat} {k : Cl} {m1 : Ms} {L : List Pk} {ao : Option Addr} (h : BatS W w wr w5 mb c G b3 b4 b5 k m1 G1 L ao cap) (hd : b3 < b4 ∧ b4 < b5) (re : Int) (hu : Upd [b4, b5] w5 w7) :
    MTo W mb c (⟨re, L, 0, 0⟩, m1) G w (.returned (.agg #[.int .i64 re, .slice ao L.length cap, .int .i64 0, .int .u64 0])) w7 := by
  have hx : ∀ x ∈ [b4, b5], x ∉ G1 ∧ w.heap.size ≤ x := fun x hx => h.gb x (by simp only [List.mem_cons, List.not_mem_nil, or_false] at hx; rcases hx with rfl | rfl <;> simp)
  refine ⟨_, G1, rfl, h.mg.updS hu (fun x hx2 hc => (hx x hc).1 hx2), h.fr.thenT hu (fun x hc => .inr (hx x hc).2), ao, cap, rfl, h.row.upd hu (fun x hx2 hc => ?_), fun x hx2 => ⟨(h.ga x hx2).1, (h.ga x hx2).2.1⟩⟩
  have := (h.ga x hx2).2.2
  simp only [List.mem_cons, List.not_mem_nil, or_false] at hc
  omega
theorem BatS.next {W w wr w5 w7 w8 : World} {mb b3 b4 b5 cap cap3 A i : Nat} {c : Cf} {G G1 : List Nat} {k : Cl} {m m1 : Ms} {L L2 : List Pk} {ao ao3 : Option Addr} (h : BatS W w wr w5 mb c G b3 b4 b5 k m1 G1 L ao cap) (hd : b3 < b4 ∧ b4 < b5) (hu : Upd [b5] w5 w7) (hB : Blk w7 b5 57 [.int .i64 0, .slice ao L.length cap, .int .i64 0, .int .u64 0])
    (hA : Apped w7 54 3 ao (L.length + L2.length) (L.flatMap pkVs ++ L2.flatMap pkVs) ao3 cap3 w8) (hl : L.length ≤ i) (hl2 : L2.length ≤ 1) (hn : m1.n ≤ m.n + i + 1) (he : batM A m [] = batM (A - (i + 1)) m1 (L ++ L2)) :
    BatR W w (w8.setCell ⟨b5, 1, none⟩ (.slice ao3 (L.length + L2.length) cap3)) mb c G b3 b4 b5 k A (i + 1) m m1 G1 (L ++ L2) ao3 cap3 := by
  have h5 := h.gb b5 (by simp)
  have hs7 := hu.size
  have hs8 := hA.upd.size
  have ho := hB.lt
  have hga : ∀ x ∈ blkO ao3, w.heap.size ≤ x ∧ x ∉ G1 ∧ b5 < x := fun x hx => by
    rcases hA.at_ x hx with k | k
    · exact h.ga x k
    · exact ⟨by omega, fun hm => by have := h.mg.lt x hm; omega, by omega⟩
  have hu8 : Upd [b5] w8 (w8.setCell ⟨b5, 1, none⟩ (.slice ao3 (L.length + L2.length) cap3)) := (Upd.refl [b5] w8).setCell (.inl (by simp)) _
  have ha : ∀ x ∈ [b3, b4, b5], x ∉ blkO ao := fun x hx hm => by
    have := (h.ga x hm).2.2
    simp only [List.mem_cons, List.not_mem_nil, or_false] at hx
    omega
  have hne : ∀ x ∈ [b3, b4], x ∉ [b5] := fun x hx hc => by
    simp only [List.mem_cons, List.not_mem_nil, or_false] at hx hc
    omega
  have hg5 : ∀ x ∈ G1, x ∉ [b5] := fun x hx hc => by simp only [List.mem_cons, List.not_mem_nil, or_false] at hc; exact h5.1 (hc ▸ hx)
  have hga1 : ∀ x ∈ G1, x ∉ blkO ao := fun x hx hm => (h.ga x hm).2.1 hx
  refine ⟨((h.mg.updS hu hg5).updS hA.upd hga1).updS hu8 hg5, ?_, ((h.box.upd hu (hne b3 (by simp))).upd hA.upd (ha b3 (by simp))).upd hu8 (hne b3 (by simp)), ((h.ret.upd hu (hne b4 (by simp))).upd hA.upd (ha b4 (by simp))).upd hu8 (hne b4 (by simp)), ?_, ?_, hga, h.gb, hd, by rw [List.length_append]; omega, by omega, he⟩
  · refine ((h.fr.thenT hu (fun x hc => ?_)).thenT hA.upd (fun x hc => .inr (h.ga x hc).1)).thenT hu8 (fun x hc => ?_)
    · simp only [List.mem_cons, List.not_mem_nil, or_false] at hc; exact .inr (by rw [hc]; exact h5.2)
    · simp only [List.mem_cons, List.not_mem_nil, or_false] at hc; exact .inr (by rw [hc]; exact h5.2)
  · rw [List.length_append]
    exact (hB.upd hA.upd (ha b5 (by simp))).set 1 _
  · rw [List.length_append, List.flatMap_append]
    exact hA.row.upd hu8 (fun x hx hc => by simp only [List.mem_cons, List.not_mem_nil, or_false] at hc; have := (hga x hx).2.2; omega)
def BatAt (W w : World) (mb : Nat) (c : Cf) (G : List Nat) (b3 b4 b5 : Nat) (k : Cl) (A : Nat) (m : Ms) (iv : Value) (wr : World) : Prop := ∃ (i : Nat) (m' : Ms) (G' : List Nat) (L : List Pk) (ao : Option Addr) (cap : Nat), iv = .int .i64 i ∧ i ≤ A ∧ BatR W w wr mb c G b3 b4 b5 k A i m m' G' L ao cap

set_option maxRecDepth 100000 in
set_option maxHeartbeats 16000000 in
theorem mbatch_any {W w : World} {mb : Nat} {c : Cf} {m : Ms} {G : List Nat} (h : MG W mb c m G w) (hn : m.n ≤ 4611686018427387904) (k : Cl) : Calls Tryz.prog 93 #[.pointer (some ⟨mb, 0, none⟩), clV k] w (MTo W mb c (batchM m k) G w) := by
  have HM := Lib.hid h
  have hglt := h.lt
  have hd := Deed27.new w k
  obtain ⟨w2, hw2⟩ : ∃ y, (w.alloc (.cells #[.int .i64 k.op, .int .i64 k.flow, .int .i64 k.a, .int .i64 k.b] 46)).alloc (.cells #[.int .i64 0, .slice none 0 0, .int .i64 0, .int .u64 0] 57) = y := ⟨_, rfl⟩
  obtain ⟨b3, hb3⟩ : ∃ y, w.heap.size = y := ⟨_, rfl⟩
  rw [hw2, hb3] at hd
  obtain ⟨b4, hb4⟩ : ∃ y, b3 + 1 = y := ⟨_, rfl⟩
  rw [hb4] at hd
  have HD := Lib.hid hd
  have y2 := hd.box.cell (j := 2) rfl
  have ly := hd.box.lt
  have HWI := Lib.hid (fun w' => mwithin_any k.a 1 16 w')
  unfold clV
  clear hd
  by_cases ha : 1 ≤ k.a ∧ k.a ≤ 16
  · obtain ⟨A, hA⟩ : ∃ A : Nat, k.a = A := ⟨k.a.toNat, by omega⟩
    have HE : Hid (batchM m k = batM A m []) := by unfold Hid batchM; rw [if_neg (by omega), hA, Int.toNat_natCast]
    have hA16 : A ≤ 16 := by omega
    rw [decide_eq_true ha] at HWI
    have HKA := Lib.hid hA
    rw [hA] at y2 HWI
    clear ha hA h
    go_enter Tryz.func93, Tryz.ntmps93
    go_wp2_with fail
    refine (HWI.out _).mono ?_
    rintro e w3 ⟨rfl, rfl⟩
    go_wp2_with fail
    have hu5 : Upd [] w2 (w2.alloc (.cells #[.int .i64 0, .slice none 0 0, .int .i64 0, .int .u64 0] 57)) := (Upd.refl [] w2).alloc _
    have ho5 : Blk (w2.alloc (.cells #[.int .i64 0, .slice none 0 0, .int .i64 0, .int .u64 0] 57)) w2.heap.size 57 [.int .i64 0, .slice none 0 0, .int .i64 0, .int .u64 0] := Blk.new w2 57 [.int .i64 0, .slice none 0 0, .int .i64 0, .int .u64 0]
    obtain ⟨w4, hw4⟩ : ∃ y, w2.alloc (.cells #[.int .i64 0, .slice none 0 0, .int .i64 0, .int .u64 0] 57) = y := ⟨_, rfl⟩
    obtain ⟨b5, hb5⟩ : ∃ y, w2.heap.size = y := ⟨_, rfl⟩
    rw [hw4] at hu5 ho5
    rw [hb5] at ho5
    have hs2 := HD.out.ret.lt
    have hk3 := HD.out.n3
    have hk4 := HD.out.n4
    have HSTART : Hid (BatR W w w4 mb c G b3 b4 b5 k A 0 m m G [] none 0) := ⟨HM.out.upd (HD.out.upd.trans hu5), Fr.of (HD.out.upd.trans hu5), HD.out.box.upd hu5 (by simp), HD.out.ret.upd hu5 (by simp), ho5, RowO.nil _ _ _, fun x hx => (by cases hx), fun x hx => by
      simp only [List.mem_cons, List.not_mem_nil, or_false] at hx
      have hx2 : w.heap.size ≤ x := by rcases hx with rfl | rfl | rfl <;> omega
      exact ⟨fun hm => by have := hglt x hm; omega, hx2⟩, ⟨by omega, by omega⟩, by simp, by omega, by rw [Nat.sub_zero]⟩
    rw [hw4, hb5]
    clear hu5 ho5 hw4 hb5 hs2 hk3 hk4 hw2 hb3 hb4 y2 ly hglt
    go_loopw [14] (fun iv wr => BatAt W w mb c G b3 b4 b5 k A m iv wr) (fun iv _ => A - (intOf iv).toNat)
    case atStart => exact ⟨0, m, G, [], none, 0, rfl, Nat.zero_le _, HSTART.out⟩
    case round =>
      obtain ⟨i, m', G', L, ao, cap, rfl, hiA, hR⟩ := hrel
      have HR := Lib.hid hR
      obtain ⟨n, hnL⟩ : ∃ y, L.length = y := ⟨_, rfl⟩
      have HN := Lib.hid hnL
      by_cases hlt : i < A
      · have t1 : decide (i < A) = true := by simp [hlt]
        have t2 : decide ((i : Int) < (A : Int)) = true := by simp; omega
        have HDQ := Lib.hid (mdequeue_any hR.mg (by have := hR.n; omega) k)
        have hlen := oneM_len m'
        obtain ⟨re, hre⟩ : ∃ y, (oneM m').1.e = y := ⟨_, rfl⟩
        obtain ⟨L2, hL2⟩ : ∃ y, (oneM m').1.L = y := ⟨_, rfl⟩
        have x0 := hR.box.cell (j := 0) rfl
        have x1 := hR.box.cell (j := 1) rfl
        have x2 := hR.box.cell (j := 2) rfl
        have x3 := hR.box.cell (j := 3) rfl
        have lx := hR.box.lt
        have HSTEP : Hid (batM (A - i) m' L = if re = 0 then batM (A - (i + 1)) (oneM m').2 (L ++ L2) else (⟨re, L, 0, 0⟩, (oneM m').2)) := by
          unfold Hid
          rw [show A - i = (A - (i + 1)) + 1 by omega]
          show (if (oneM m').1.e = 0 then _ else _) = _
          rw [hre, hL2]
        have HRE := Lib.hid hre
        have HL2 := Lib.hid hL2
        have HLEN := Lib.hid hlen
        have fin1 : i + 1 ≤ 9223372036854775807 := by omega
        have HLT := Lib.hid hlt
        clear hR hlen hre hL2 hlt
        go_wp2_with fail
        refine HDQ.out.mono ?_
        rintro e w5 ⟨v, G1, rfl, hmg, hfr, ao2, cap2, rfl, hrow2, hnew2⟩
        rw [HRE.out, HLEN.out.2.2.1, HLEN.out.2.2.2]
        rw [HL2.out] at hrow2 ⊢
        have hS := HR.out.step hmg hfr
        have HS := Lib.hid hS
        obtain ⟨n2, hn2⟩ : ∃ y, L2.length = y := ⟨_, rfl⟩
        have HN2 := Lib.hid hn2
        rw [hn2] at hrow2 ⊢
        have hn21 : n2 ≤ 1 := by have := HLEN.out.1; rw [HL2.out] at this; omega
        have HROW2 := Lib.hid hrow2
        have HNEW2 := Lib.hid hnew2
        have hw6 : Upd [] w5 (w5.alloc (.cells #[.int .i64 re, .slice ao2 n2 cap2, .int .i64 0, .int .u64 0] 57)) := (Upd.refl [] w5).alloc _
        have hb6 : Blk (w5.alloc (.cells #[.int .i64 re, .slice ao2 n2 cap2, .int .i64 0, .int .u64 0] 57)) w5.heap.size 57 [.int .i64 re, .slice ao2 n2 cap2, .int .i64 0, .int .u64 0] := Blk.new w5 57 [.int .i64 re, .slice ao2 n2 cap2, .int .i64 0, .int .u64 0]
        go_upto_region 7 with (fail)
        obtain ⟨w6, hw6e⟩ : ∃ y, w5.alloc (.cells #[.int .i64 re, .slice ao2 n2 cap2, .int .i64 0, .int .u64 0] 57) = y := ⟨_, rfl⟩
        obtain ⟨b6, hb6e⟩ : ∃ y, w5.heap.size = y := ⟨_, rfl⟩
        rw [hw6e] at hw6 hb6
        rw [hb6e] at hb6
        rw [hw6e, hb6e]
        have ho6 := hS.out.upd hw6 (by simp)
        rw [hnL] at ho6
        have HW6 := Lib.hid hw6
        have HB6 := Lib.hid hb6
        have HO6 := Lib.hid ho6
        have hne65 : b6 ≠ b5 := by have := hS.out.lt; omega
        have z0 := hb6.cell (j := 0) rfl
        have z1 := hb6.cell (j := 1) rfl
        have lz := hb6.lt
        have o0 := ho6.cell (j := 0) rfl
        have o1 := ho6.cell (j := 1) rfl
        have g0 := ho6.free 0
        have lo := ho6.lt
        clear hw6 hb6 ho6 hw6e hb6e hS hrow2 hnew2 hmg hfr x0 x1 x2 x3 lx hnL hn2 HDQ
        go_upto_region 8 with (fail)
        obtain ⟨w7, hw7⟩ : ∃ y, w6.setCell ⟨b5, 0, none⟩ (.int .i64 re) = y := ⟨_, rfl⟩
        have hu7 : Upd [b5] w6 w7 := by rw [← hw7]; exact (Upd.refl [b5] w6).setCell (.inl (by simp)) _
        have ho7 : Blk w7 b5 57 [.int .i64 re, .slice ao n cap, .int .i64 0, .int .u64 0] := by rw [← hw7]; exact HO6.out.set 0 _
        have hz7 := HB6.out.upd hu7 (by simpa using hne65)
        rw [hw7]
        have HU7 : Hid (Upd [b5] w5 w7) := HW6.out.nil.trans hu7
        have HO7 := Lib.hid ho7
        have hr7 := HS.out.ret.upd HU7.out (by simp only [List.mem_cons, List.not_mem_nil, or_false]; have := HR.out.dd; omega)
        clear hw7 z0 z1 lz o0 o1 g0 lo
        have o0 := ho7.cell (j := 0) rfl
        have o1 := ho7.cell (j := 1) rfl
        have o2 := ho7.cell (j := 2) rfl
        have o3 := ho7.cell (j := 3) rfl
        have g1 := ho7.free 1
        have lo := ho7.lt
        have z1 := hz7.cell (j := 1) rfl
        have lz := hz7.lt
        clear ho7 hz7 hu7
        by_cases hr0 : re = 0
        · have t3 : (re != 0) = false := by simp [hr0]
          have HST2 : Hid (batM A m [] = batM (A - (i + 1)) (oneM m').2 (L ++ L2)) := by unfold Hid; rw [HR.out.eq, HSTEP.out, if_pos hr0]
          have HO7' : Hid (Blk w7 b5 57 [.int .i64 0, .slice ao L.length cap, .int .i64 0, .int .u64 0]) := by unfold Hid; rw [HN.out]; rw [hr0] at HO7; exact HO7.out
          obtain ⟨i0, hi0, hz0, hz1, hz2⟩ := info_parts infoPk
          have hrow7 := HS.out.row.upd HU7.out (fun x hx hc => by simp only [List.mem_cons, List.not_mem_nil, or_false] at hc; have := (HS.out.ga x hx).2.2; omega)
          rw [HN.out] at hrow7
          have HROW7 := Lib.hid hrow7
          have hrow27 := HROW2.out.upd HU7.out (fun x hx hc => by simp only [List.mem_cons, List.not_mem_nil, or_false] at hc; have := (HNEW2.out x hx).1; have := HR.out.out.lt; omega)
          have HSRC := Lib.hid (all_srcG pkVs 3 pkVs_len pkVs_one hrow27 HN2.out)
          have HBN : Hid (n + n2 ≤ maxLen ∧ (n + n2) * 24 ≤ 140737488355328) := by
            have := HR.out.len
            have := HN.out
            exact ⟨by unfold maxLen; omega, by omega⟩
          have hxb : b5 ∉ blkO ao := fun hm => by have := (HS.out.ga b5 hm).2.2; omega
          have HXB := Lib.hid hxb
          clear hrow7 hrow27 hr0 hr7 hxb
          go_wp2_with (at_builtin; (refine wpList_app2 _ (by rfl) _ _ _ (by rfl) 54 i0 _ 3 24 underlyingPks hi0 hz0 hz1 hz2 rfl (by omega) ao n cap (L.flatMap pkVs) (by rfl) HROW7.out ao2 n2 cap2 (L2.flatMap pkVs) (by rfl) HSRC.out HBN.out.1 HBN.out.2 ?_); (intro ao3 cap3 w8 hA3; have HA3 := Lib.hid hA3; have hb8 := HO7.out.upd hA3.upd HXB.out; have u1 := hb8.cell (j := 1) rfl; have e1 := hb8.free 1; have lu := hb8.lt; clear hA3 hb8))
          have hA3 := HA3.out
          rw [← HN.out, ← HN2.out] at hA3
          have := HS.out.next (A := A) (i := i) (m := m) HR.out.dd HU7.out HO7'.out hA3 HR.out.len (by rw [HN2.out]; exact hn21) (by have := HLEN.out.2.1; have := HR.out.n; omega) HST2.out
          rw [HN.out, HN2.out] at this
          have hlt := HLT.out
          exact ⟨⟨i + 1, _, _, _, _, _, by congr 1, by omega, this⟩, by first | (simp [intOf]; done) | (simp [intOf]; omega)⟩
        · have t3 : (re != 0) = true := by simp [hr0]
          have HST2 : Hid (batM A m [] = (⟨re, L, 0, 0⟩, (oneM m').2)) := by unfold Hid; rw [HR.out.eq, HSTEP.out, if_neg hr0]
          have q0 := hr7.cell (j := 0) rfl
          have q1 := hr7.cell (j := 1) rfl
          have q2 := hr7.cell (j := 2) rfl
          have q3 := hr7.cell (j := 3) rfl
          have f0 := hr7.free 0
          have f1 := hr7.free 1
          have f2 := hr7.free 2
          have f3 := hr7.free 3
          have lq := hr7.lt
          clear hr0 hr7
          go_wp2_with fail
          refine bodyPost_ret (v := .agg #[.int .i64 re, .slice ao n cap, .int .i64 0, .int .u64 0]) (by simp [results, Tryz.results93, go_sem, q0, q1, q2, q3, lq]) rfl ?_
          rw [HE.out, HST2.out, ← HN.out]
          refine HS.out.fin HR.out.dd re ?_
          exact (HU7.out.mono (fun x _ hx => by simp only [List.mem_cons, List.not_mem_nil, or_false] at hx; simp [hx])).trans (((((Upd.refl [b4, b5] w7).setCell (.inl (by simp)) _).setCell (.inl (by simp)) _).setCell (.inl (by simp)) _).setCell (.inl (by simp)) _)
      · have t1 : decide (i < A) = false := by simp; omega
        have t2 : decide ((i : Int) < (A : Int)) = false := by simp; omega
        have hiA2 : i = A := by omega
        have HEQ : Hid (batM A m [] = (⟨0, L, 0, 0⟩, m')) := by unfold Hid; rw [hR.eq, hiA2, Nat.sub_self]; rfl
        have o0 := hR.out.cell (j := 0) rfl
        have o1 := hR.out.cell (j := 1) rfl
        have o2 := hR.out.cell (j := 2) rfl
        have o3 := hR.out.cell (j := 3) rfl
        have lo := hR.out.lt
        have q0 := hR.ret.cell (j := 0) rfl
        have q1 := hR.ret.cell (j := 1) rfl
        have q2 := hR.ret.cell (j := 2) rfl
        have q3 := hR.ret.cell (j := 3) rfl
        have f0 := hR.ret.free 0
        have f1 := hR.ret.free 1
        have f2 := hR.ret.free 2
        have f3 := hR.ret.free 3
        have lq := hR.ret.lt
        rw [hnL] at o1
        clear hR hlt hiA2 hnL
        go_wp2_with fail
        refine bodyPost_ret (v := .agg #[.int .i64 0, .slice ao n cap, .int .i64 0, .int .u64 0]) (by simp [results, Tryz.results93, go_sem, q0, q1, q2, q3, lq]) rfl ?_
        rw [HE.out, HEQ.out, ← HN.out]
        exact HR.out.same.fin HR.out.dd 0 (((((Upd.refl [b4, b5] wr).setCell (.inl (by simp)) _).setCell (.inl (by simp)) _).setCell (.inl (by simp)) _).setCell (.inl (by simp)) _)
  · have HE : Hid (batchM m k = (rtE 1, m)) := by unfold Hid batchM; rw [if_pos (by omega)]
    rw [decide_eq_false ha] at HWI
    clear ha h
    go_enter Tryz.func93, Tryz.ntmps93
    go_wp2_with fail
    refine (HWI.out _).mono ?_
    rintro e w3 ⟨rfl, rfl⟩
    go_wp2_with fail
    refine (mrefused_any _ _).mono ?_
    rintro e9 w9 ⟨rfl, hu9⟩
    have hr9 := HD.out.ret.upd hu9 (by simp)
    have HR9 := Lib.hid hr9
    have q0 := hr9.cell (j := 0) rfl
    have q1 := hr9.cell (j := 1) rfl
    have q2 := hr9.cell (j := 2) rfl
    have q3 := hr9.cell (j := 3) rfl
    have f0 := hr9.free 0
    have f1 := hr9.free 1
    have f2 := hr9.free 2
    have f3 := hr9.free 3
    have l9 := hr9.lt
    have HU9 := Lib.hid hu9
    clear hr9 hu9
    go_wp2_with fail
    refine bodyPost_ret (v := .agg #[.int .i64 1, .slice none 0 0, .int .i64 0, .int .u64 0]) (by simp [results, Tryz.results93, go_sem, q0, q1, q2, q3]) rfl ?_
    rw [HE.out]
    exact MTo.keep HM.out (T := [b4]) ((HD.out.upd.trans HU9.out).nil.trans ((((((Upd.refl [b4] w9).setCell (.inl (by simp)) _).setCell (.inl (by simp)) _).setCell (.inl (by simp)) _).setCell (.inl (by simp)) _))) (fun x hx => by simp only [List.mem_cons, List.not_mem_nil, or_false] at hx; subst hx; have := HD.out.n3; have := HD.out.n4; omega) _ _ _
end Go.Proofs.YtfeobcmcellcpaaGreat
