/-
  The walk of the statements' Plan: some plan. No condition.
-/
import Derived.Test.YtfeobcmcellcpaaMr
import Derived.Test.YtfeobcmcellcpaaConf
import Derived.Test.YtfeobcmcellcpaaPMQ
set_option linter.unusedVariables false
set_option linter.unusedSimpArgs false
namespace Go.Proofs.Ytfeobcmcellcpaa
open Go.RowKit

structure LiRow (w wr : World) (ao : Option Addr) (n cap : Nat) (E : List Li) : Prop where
  row : RowO wr 52 1 ao n cap (E.flatMap liVs)
  len : E.length = n
  new : ∀ c ∈ blkO ao, w.heap.size ≤ c
  sl : ∀ x ∈ E, SlAt wr 4 x.v x.L.length (x.L.flatMap clVs) ∧ ∀ c ∈ lvB x.v, c ∉ blkO ao ∧ w.heap.size ≤ c ∧ c < wr.heap.size
theorem LiRow.nil (w wr : World) : LiRow w wr none 0 0 [] := ⟨RowO.nil _ _ _, rfl, fun c hc => (by cases hc), fun e he => (by cases he)⟩
theorem LiRow.upd {w wr w' : World} {ao : Option Addr} {n cap : Nat} {E : List Li} {S : List Nat} (h : LiRow w wr ao n cap E) (hu : Upd S wr w') (hs : ∀ c ∈ S, c < w.heap.size) : LiRow w w' ao n cap E :=
  ⟨h.row.upd hu (fun c hc hm => by have := h.new c hc; have := hs c hm; omega), h.len, h.new, fun e he => ⟨(h.sl e he).1.updS hu (fun c hc hm => by have := ((h.sl e he).2 c hc).2.1; have := hs c hm; omega), fun c hc => ⟨((h.sl e he).2 c hc).1, ((h.sl e he).2 c hc).2.1, Nat.lt_of_lt_of_le ((h.sl e he).2 c hc).2.2 hu.size⟩⟩⟩
theorem LiRow.push {w wr w' : World} {ao ao' : Option Addr} {n cap cap' : Nat} {E : List Li} {e : Li} (h : LiRow w wr ao n cap E) (hsz : w.heap.size ≤ wr.heap.size) (hA : Apped wr 52 1 ao (n + 1) (E.flatMap liVs ++ liVs e) ao' cap' w') (he : SlAt wr 4 e.v e.L.length (e.L.flatMap clVs)) (hb : ∀ c ∈ lvB e.v, c ∉ blkO ao ∧ w.heap.size ≤ c ∧ c < wr.heap.size) :
    LiRow w w' ao' (n + 1) cap' (E ++ [e]) := by
  have hs := hA.upd.size
  have hkeep : ∀ v : Value, (∀ c ∈ lvB v, c ∉ blkO ao ∧ w.heap.size ≤ c ∧ c < wr.heap.size) → ∀ c ∈ lvB v, c ∉ blkO ao' ∧ w.heap.size ≤ c ∧ c < w'.heap.size := fun v hv c hc => by
    have := hv c hc
    refine ⟨fun h2 => ?_, this.2.1, by omega⟩
    rcases hA.at_ c h2 with h3 | h3
    · exact this.1 h3
    · omega
  refine ⟨by rw [List.flatMap_append]; simpa using hA.row, by rw [List.length_append, h.len]; rfl, fun c hc => ?_, fun x hx => ?_⟩
  · rcases hA.at_ c hc with h3 | h3
    · exact h.new c h3
    · omega
  · rcases List.mem_append.1 hx with hx | hx
    · have k := h.sl x hx
      exact ⟨k.1.updS hA.upd (fun c hc => (k.2 c hc).1), hkeep _ k.2⟩
    · simp only [List.mem_cons, List.not_mem_nil, or_false] at hx
      subst hx
      exact ⟨he.updS hA.upd (fun c hc => (hb c hc).1), hkeep _ hb⟩
def PlTo (w : World) (e : Ending) (w' : World) : Prop := ∃ (a b c d : Int) (u : Nat) (ao : Option Addr) (cap : Nat) (E : List Li), e = .returned (.agg #[.int .i64 a, .int .i64 b, .int .i64 c, .int .i64 d, .int .u64 u, .slice ao E.length cap]) ∧ ListsAt w' (.slice ao E.length cap) E ∧ E.length ≤ 6 ∧ ((∀ c ∈ blkO ao, w.heap.size ≤ c) ∧ ∀ x ∈ E, ∀ c ∈ lvB x.v, w.heap.size ≤ c) ∧ Upd [] w w'
def POutAt (w5 : World) (b6 : Nat) (a b c d : Int) (u : Nat) (fv iv : Value) (wr : World) : Prop := ∃ (i left : Nat) (ao : Option Addr) (cap : Nat) (E : List Li), iv = .int .i64 i ∧ fv = .int .i64 left ∧ (i : Int) ≤ c ∧ left ≤ 57 ∧ Blk wr b6 27 [.int .i64 a, .int .i64 b, .int .i64 c, .int .i64 d, .int .u64 u, .slice ao i cap] ∧ LiRow w5 wr ao i cap E ∧ Upd [b6] w5 wr
def PInAt (wb : World) (fv lv kv : Value) (wr : World) : Prop := ∃ (k left n : Nat) (ao : Option Addr) (cap : Nat) (L : List Cl), kv = .int .i64 k ∧ fv = .int .i64 left ∧ lv = .slice ao n cap ∧ k ≤ 5 ∧ n ≤ 3 + k ∧ left ≤ 57 ∧ ClRow wb wr ao n cap L

set_option maxRecDepth 100000 in
set_option maxHeartbeats 16000000 in
theorem pplan_some {w : World} {pv : Value} {p : Pl} (hp : PlanAt w pv p) : Calls Try.prog 5 #[pv, .int .i64 5] w (PlTo w) := by
  obtain ⟨lv, rfl, hL⟩ := hp
  have HLS := Lib.hid hL
  obtain ⟨hlm, aop, capp, rfl, -⟩ := lists_at hL
  obtain ⟨n, hn⟩ : ∃ n, p.L.length = n := ⟨_, rfl⟩
  have HN := Lib.hid hn
  rw [hn] at hlm ⊢
  have bn : n ≤ 9223372036854775807 := hlm
  obtain ⟨w1, hw1⟩ : ∃ y, w.alloc (.cells #[.int .i64 p.c.sh, .int .i64 p.c.sl, .int .i64 p.c.wo, .int .i64 p.c.wd, .int .u64 p.c.unit, .slice aop n capp] 27) = y := ⟨_, rfl⟩
  obtain ⟨w2, hw2⟩ : ∃ y, w1.alloc (.cells #[.int .i64 0, .int .i64 0, .int .i64 0, .int .i64 0, .int .u64 0, .slice none 0 0] 27) = y := ⟨_, rfl⟩
  have u1 : Upd [] w w1 := by rw [← hw1]; exact (Upd.refl [] w).alloc _
  have u2 : Upd [] w1 w2 := by rw [← hw2]; exact (Upd.refl [] w1).alloc _
  have b1 : Blk w1 w.heap.size 27 [.int .i64 p.c.sh, .int .i64 p.c.sl, .int .i64 p.c.wo, .int .i64 p.c.wd, .int .u64 p.c.unit, .slice aop n capp] := by rw [← hw1]; exact Blk.new w 27 [.int .i64 p.c.sh, .int .i64 p.c.sl, .int .i64 p.c.wo, .int .i64 p.c.wd, .int .u64 p.c.unit, .slice aop n capp]
  have b2 : Blk w2 w1.heap.size 27 [.int .i64 0, .int .i64 0, .int .i64 0, .int .i64 0, .int .u64 0, .slice none 0 0] := by rw [← hw2]; exact Blk.new w1 27 [.int .i64 0, .int .i64 0, .int .i64 0, .int .i64 0, .int .u64 0, .slice none 0 0]
  have hs1 : w1.heap.size = w.heap.size + 1 := by rw [← hw1]; simp
  obtain ⟨bp, hbp⟩ : ∃ y, w.heap.size = y := ⟨_, rfl⟩
  obtain ⟨bq, hbq⟩ : ∃ y, w1.heap.size = y := ⟨_, rfl⟩
  have b1 := b1.upd u2 (by simp)
  rw [hbp] at b1
  rw [hbq] at b2
  have HS : Hid (w.heap.size = bp ∧ bq = bp + 1) := ⟨hbp, by omega⟩
  have HU2 := Lib.hid (u1.trans u2)
  have HB1 := Lib.hid b1
  have HB2 := Lib.hid b2
  have HCF : Hid (Calls Try.prog 16 #[.agg #[.int .i64 p.c.sh, .int .i64 p.c.sl, .int .i64 p.c.wo, .int .i64 p.c.wd, .int .u64 p.c.unit]] w2 (ConfTo w2)) := conf_any _ _ _ _ _ _
  have x0 := b1.cell (j := 0) rfl
  have x1 := b1.cell (j := 1) rfl
  have x2 := b1.cell (j := 2) rfl
  have x3 := b1.cell (j := 3) rfl
  have x4 := b1.cell (j := 4) rfl
  have lx := b1.lt
  clear u1 u2 b1 b2 hs1 hL hn hlm
  go_enter Try.func5, Try.ntmps5
  go_wp2_with fail
  clear hw1 hw2 hbp hbq
  refine HCF.out.mono ?_
  rintro e w3 ⟨a, b, c, d, u, rfl, ha, hb, hc, hd, hu, hu3⟩
  have HU3 := Lib.hid hu3
  have HC := Lib.hid hc
  clear ha hb hd hu hu3 x0 x1 x2 x3 x4 lx HCF
  go_wp2_with fail
  obtain ⟨w4, hw4⟩ : ∃ y, w3.alloc (.cells #[.int .i64 a, .int .i64 b, .int .i64 c, .int .i64 d, .int .u64 u] 24) = y := ⟨_, rfl⟩
  obtain ⟨w5, hw5⟩ : ∃ y, w4.alloc (.cells #[.int .i64 a, .int .i64 b, .int .i64 c, .int .i64 d, .int .u64 u, .slice none 0 0] 27) = y := ⟨_, rfl⟩
  have u4 : Upd [] w3 w4 := by rw [← hw4]; exact (Upd.refl [] w3).alloc _
  have u5 : Upd [] w4 w5 := by rw [← hw5]; exact (Upd.refl [] w4).alloc _
  have b4 : Blk w4 w3.heap.size 24 [.int .i64 a, .int .i64 b, .int .i64 c, .int .i64 d, .int .u64 u] := by rw [← hw4]; exact Blk.new w3 24 [.int .i64 a, .int .i64 b, .int .i64 c, .int .i64 d, .int .u64 u]
  have b5 : Blk w5 w4.heap.size 27 [.int .i64 a, .int .i64 b, .int .i64 c, .int .i64 d, .int .u64 u, .slice none 0 0] := by rw [← hw5]; exact Blk.new w4 27 [.int .i64 a, .int .i64 b, .int .i64 c, .int .i64 d, .int .u64 u, .slice none 0 0]
  rw [hw4, hw5]
  obtain ⟨bc, hbc⟩ : ∃ y, w3.heap.size = y := ⟨_, rfl⟩
  obtain ⟨bo, hbo⟩ : ∃ y, w4.heap.size = y := ⟨_, rfl⟩
  have hs4 : w4.heap.size = w3.heap.size + 1 := by rw [← hw4]; simp
  have hs5 : w5.heap.size = w4.heap.size + 1 := by rw [← hw5]; simp
  have hb1 := HB1.out.upd (HU3.out.trans (u4.trans u5)) (by simp)
  have hb2 := HB2.out.upd (HU3.out.trans (u4.trans u5)) (by simp)
  have hb4 := b4.upd u5 (by simp)
  have HU5 : Hid (Upd [] w w5) := HU2.out.trans (HU3.out.trans (u4.trans u5))
  rw [hbc] at hb4
  rw [hbo] at b5
  have hl2 := HB2.out.lt
  have hs3 := HU3.out.size
  have HSZ : Hid (w.heap.size = bp ∧ bq = bp + 1 ∧ bq < bc ∧ bc < bo ∧ w5.heap.size = bo + 1) := ⟨HS.out.1, HS.out.2, by omega, by omega, by omega⟩
  have HB1 := Lib.hid hb1
  have HB2 := Lib.hid hb2
  have HB4 := Lib.hid hb4
  have HB5 := Lib.hid b5
  have ebo : bc + 1 = bo := by omega
  rw [hbc, ebo]
  clear ebo hw4 hw5 u4 u5 b4 b5 hbc hbo hs4 hs5 hb1 hb2 hb4 hl2 hs3
  go_loopw [7, 8] (fun fv iv wr => POutAt w5 bo a b c d u fv iv wr) (fun _ iv _ => 7 - (intOf iv).toNat)
  case atStart => exact ⟨0, 57, none, 0, [], rfl, rfl, by have := HC.out.1; omega, Nat.le_refl _, HB5.out, LiRow.nil _ _, Upd.refl _ _⟩
  case round =>
    obtain ⟨i, left, ao, cap, E, rfl, rfl, hi, hlf, hB6, hE, hU⟩ := hrel
    have HB6 := Lib.hid hB6
    have HE := Lib.hid hE
    have HU := Lib.hid hU
    have HUW : Hid (Upd [] w wr) := HU5.out.then hU (fun _ _ h => h) (fun k hk hm => by have := HSZ.out; simp only [List.mem_cons, List.not_mem_nil, or_false] at hm; omega)
    have n1 : bp ∉ [bo] := by have := HSZ.out; simp; omega
    have n4 : bc ∉ [bo] := by have := HSZ.out; simp; omega
    have HBP := Lib.hid (HB1.out.upd hU n1)
    have HBC := Lib.hid (HB4.out.upd hU n4)
    have hi6 : i ≤ 6 := by have := HC.out.2; omega
    clear hB6 hE hU n1 n4
    have y2 := HBC.out.cell (j := 2) rfl
    have ly := HBC.out.lt
    by_cases hlt : (i : Int) < c
    · have t1 : decide ((i : Int) < c) = true := by simp [hlt]
      have x3 := HBP.out.cell (j := 3) rfl
      have lx := HBP.out.lt
      obtain ⟨m4, h4⟩ : ∃ y, modI p.c.wd 4 = y := ⟨_, rfl⟩
      have H4 : Hid (∀ w, Calls Try.prog 15 #[.int .i64 p.c.wd, .int .i64 4] w (fun e w' => e = .returned (.int .i64 m4) ∧ w = w')) := fun w => by rw [← h4]; exact mod_any _ 4 (by omega) (by omega) w
      clear h4
      have hil := Nat.lt_of_le_of_lt (Nat.le_refl i) (show i < 7 by omega)
      obtain ⟨wv, ewv⟩ : ∃ y : World, y = wr := ⟨_, rfl⟩
      subst ewv
      have HLT := Lib.hid hlt
      clear hlt
      by_cases hpos : i = 0
      · have s1 : ((i : Int) == 0) = true := by simp [hpos]
        have s1' : (i == 0) = true := by simp [hpos]
        clear hpos
        by_cases g0 : 0 < m4
        · have s2 : decide (0 < m4) = true := by simp [g0]
          clear g0
          go_wp2_with fail
          refine (H4.out _).mono ?_
          rintro e w9 ⟨rfl, rfl⟩
          go_wp2_with fail
          refine (pready_some _).mono ?_
          rintro e w9 ⟨ao9, cap9, L9, rfl, hcl⟩
          have HCL := Lib.hid hcl
          clear hcl y2 ly x3 lx
          go_wp2_with fail
          go_loopw [7, 9, 10] (fun fv lv kv wr => PInAt wv fv lv kv wr) (fun _ _ kv _ => 6 - (intOf kv).toNat)
          case atStart =>
            exact ⟨0, left, 3, ao9, cap9, L9, rfl, rfl, rfl, Nat.zero_le _, Nat.le_refl _, hlf, HCL.out⟩
          case round =>
            obtain ⟨k, lf, n9, ao9, cap9, L9, rfl, rfl, rfl, hk, hn9, hlf2, hcl⟩ := hrel
            have HCL := Lib.hid hcl
            have hbp := HBP.out.upd hcl.up (by simp)
            have x5 := hbp.cell (j := 5) rfl
            have lx := hbp.lt
            have HUI : Hid (Upd [] w wr) := HUW.out.trans hcl.up
            clear hcl hbp
            by_cases c1 : i < n
            · have t1 : decide (i < n) = true := by simp [c1]
              have t1' : decide (((i : Nat) : Int) < (n : Int)) = true := decide_eq_true (by omega)
              have bi : ((i : Nat) : Int) < (n : Int) := by omega
              obtain ⟨x, hx⟩ : ∃ x, p.L[i]? = some x := ⟨_, List.getElem?_eq_getElem (by rw [HN.out]; exact c1)⟩
              obtain ⟨-, _, _, e1, hat⟩ := lists_at (HLS.out.upd HUI.out)
              rw [HN.out] at e1
              cases e1
              obtain ⟨gb, go, rfl, lg, v0, hm, lo, lc, hlv, hcs⟩ := hat i x hx
              rw [hlv] at v0
              obtain ⟨m, hmm⟩ : ∃ m, x.L.length = m := ⟨_, rfl⟩
              have HMX := Lib.hid hmm
              rw [hmm] at v0 hm
              have bm : m ≤ 9223372036854775807 := hm
              have HCS := Lib.hid hcs
              clear hat hlv hx hm hmm hcs
              by_cases c2 : k < m
              · have t2 : decide (k < m) = true := by simp [c2]
                have bk : (k : Int) < (m : Int) := by omega
                by_cases c3 : k < 5
                · have t3 : decide (k < 5) = true := by simp [c3]
                  have t3' : decide ((k : Int) < 5) = true := decide_eq_true (by omega)
                  by_cases c4 : 0 < lf
                  · have t4 : decide (0 < lf) = true := by simp [c4]
                    have t4' : decide ((0 : Int) < (lf : Int)) = true := decide_eq_true (by omega)
                    obtain ⟨cl, hcl⟩ : ∃ cl, x.L[k]? = some cl := ⟨_, List.getElem?_eq_getElem (by rw [HMX.out]; exact c2)⟩
                    obtain ⟨gc, gof, rfl, lgc, k0, k1, k2, k3⟩ := HCS.out k cl hcl
                    have HPC : Hid (Calls Try.prog 18 #[.agg #[.int .i64 cl.op, .int .i64 cl.flow, .int .i64 cl.a, .int .i64 cl.b]] wr (SomeCl wr)) := pcall_some cl wr
                    obtain ⟨lf', rfl⟩ : ∃ y, lf = y + 1 := ⟨lf - 1, by omega⟩
                    clear c1 c2 c4 hcl
                    go_wp2_with fail
                    refine HPC.out.mono ?_
                    rintro e w6 ⟨c', rfl, hu6⟩
                    unfold clV
                    obtain ⟨i0, hi0, hz0, hz1, hz2⟩ := info_parts infoCall_
                    obtain ⟨v3, hv3⟩ : ∃ y, w6.alloc (.cells #[.int .i64 c'.op, .int .i64 c'.flow, .int .i64 c'.a, .int .i64 c'.b] 55) = y := ⟨_, rfl⟩
                    have q3 : Upd [] wr v3 := by rw [← hv3]; exact hu6.trans ((Upd.refl [] w6).alloc _)
                    have HSRC : Hid (Src v3 4 (some ⟨w6.heap.size, 0, none⟩) 1 (clVs c')) := by unfold Hid; rw [← hv3]; exact one_src w6 55 (clVs c') (clVs_one _) 4 rfl
                    have HR3 := Lib.hid (HCL.out.upd q3)
                    have HBD : Hid (n9 + 1 ≤ maxLen ∧ (n9 + 1) * 32 ≤ 140737488355328) := ⟨by unfold maxLen; omega, by omega⟩
                    clear q3 x5 lx v0 lg k0 k1 k2 k3 lgc hu6
                    go_wp2_with (at_builtin; (refine wpList_app2 _ (by rfl) _ _ _ (by rfl) 55 i0 _ 4 32 underlyingCalls_ hi0 hz0 hz1 hz2 rfl (by omega) ao9 n9 cap9 (L9.flatMap clVs) (by rfl) HR3.out.row (some ⟨w6.heap.size, 0, none⟩) 1 1 (clVs c') (by rfl) HSRC.out HBD.out.1 HBD.out.2 ?_); (intro ao3 cap3 w7 hA3; have HA3 := Lib.hid hA3; clear hA3))
                    exact ⟨⟨k + 1, lf', n9 + 1, ao3, cap3, _, by congr 1, by first | rfl | (congr 1; omega), rfl, by omega, by omega, by omega, HR3.out.push HA3.out⟩, by first | (simp [intOf]; done) | (simp [intOf]; omega)⟩
                  · have t4 : decide (0 < lf) = false := by simp; omega
                    have t4' : decide ((0 : Int) < (lf : Int)) = false := decide_eq_false (by omega)
                    obtain ⟨i0, hi0, hz0, hz1, hz2⟩ := info_parts infoCallS_
                    obtain ⟨v3, hv3⟩ : ∃ y, wr.alloc (.cells #[.slice ao9 n9 cap9] 52) = y := ⟨_, rfl⟩
                    have q3 : Upd [] wr v3 := by rw [← hv3]; exact (Upd.refl [] wr).alloc _
                    have HSRC : Hid (Src v3 1 (some ⟨wr.heap.size, 0, none⟩) 1 (liVs ⟨.slice ao9 n9 cap9, L9⟩)) := by
                      unfold Hid; rw [← hv3]
                      exact one_src wr 52 (liVs ⟨.slice ao9 n9 cap9, L9⟩) (fun u hu => by simp only [liVs, List.mem_cons, List.not_mem_nil, or_false] at hu; subst hu; rfl) 1 rfl
                    have HV : Hid (Upd [] wv v3) := HCL.out.up.trans q3
                    have HQ3 := Lib.hid q3
                    have HE3 := Lib.hid (HE.out.upd HV.out (S := []) (by simp))
                    have HB63 := Lib.hid (HB6.out.upd HV.out (by simp))
                    have hb6 := HB6.out.upd HCL.out.up (by simp)
                    have z5 := hb6.cell (j := 5) rfl
                    have lz := hb6.lt
                    have HBD : Hid (i + 1 ≤ maxLen ∧ (i + 1) * 24 ≤ 140737488355328) := ⟨by unfold maxLen; omega, by omega⟩
                    clear q3 hb6
                    go_wp2_with (at_builtin; (refine wpList_app2 _ (by rfl) _ _ _ (by rfl) 52 i0 _ 1 24 underlyingLists_ hi0 hz0 hz1 hz2 rfl (by omega) ao i cap (E.flatMap liVs) (by rfl) HE3.out.row (some ⟨wr.heap.size, 0, none⟩) 1 1 (liVs ⟨.slice ao9 n9 cap9, L9⟩) (by rfl) HSRC.out HBD.out.1 HBD.out.2 ?_); (intro ao3 cap3 w7 hA3; have hb67 := HB63.out.upd hA3.upd (fun hm => by have h1 := HE3.out.new _ hm; have h2 := HSZ.out; omega); have c5 := hb67.cell (j := 5) rfl; have f5 := hb67.free 5; have l5 := hb67.lt; have HB67 := Lib.hid hb67; have HA3 := Lib.hid hA3; clear hA3 hb67))
                    have hs1 := HU.out.size
                    have hs2 := HV.out.size
                    have hs3 := HA3.out.upd.size
                    have hpush := HE3.out.push (e := ⟨.slice ao9 n9 cap9, L9⟩) (by omega) HA3.out (by have := (HCL.out.row.sl).upd HQ3.out; rw [← HCL.out.len] at this ⊢; exact this) (fun x hx => by
                      have hx2 : x ∈ blkO ao9 := by
                        cases ao9 with
                        | none => simp [lvB] at hx
                        | some a =>
                          cases n9 with
                          | zero => simp [lvB] at hx
                          | succ n => simpa [lvB, blkO] using hx
                      have h1 := HCL.out.new x hx2
                      have h2 := HCL.out.row.lt x hx2
                      have h3 := HQ3.out.size
                      exact ⟨fun hm => by have := HE.out.row.lt x hm; omega, by omega, by omega⟩)
                    have hstore : Upd [bo] w7 (w7.setCell ⟨bo, 5, none⟩ (.slice ao3 (i + 1) cap3)) := (Upd.refl [bo] w7).setCell (.inl (by simp)) _
                    have h1 : Upd [bo] w5 v3 := HU.out.trans (HV.out.nil)
                    have h2 : Upd [bo] w5 w7 := h1.then HA3.out.upd (fun _ _ h => h) (fun k hk hm => by have := HE3.out.new k hm; omega)
                    exact ⟨⟨i + 1, lf, ao3, cap3, _, by congr 1, rfl, by have := HLT.out; omega, hlf2, HB67.out.set 5 (.slice ao3 (i + 1) cap3), hpush.upd hstore (fun x hx => by have := HSZ.out; simp only [List.mem_cons, List.not_mem_nil, or_false] at hx; omega), h2.trans hstore⟩, by first | (simp [intOf]; done) | (simp [intOf]; omega)⟩
                · have t3 : decide (k < 5) = false := by simp; omega
                  have t3' : decide ((k : Int) < 5) = false := decide_eq_false (by omega)
                  obtain ⟨i0, hi0, hz0, hz1, hz2⟩ := info_parts infoCallS_
                  obtain ⟨v3, hv3⟩ : ∃ y, wr.alloc (.cells #[.slice ao9 n9 cap9] 52) = y := ⟨_, rfl⟩
                  have q3 : Upd [] wr v3 := by rw [← hv3]; exact (Upd.refl [] wr).alloc _
                  have HSRC : Hid (Src v3 1 (some ⟨wr.heap.size, 0, none⟩) 1 (liVs ⟨.slice ao9 n9 cap9, L9⟩)) := by
                    unfold Hid; rw [← hv3]
                    exact one_src wr 52 (liVs ⟨.slice ao9 n9 cap9, L9⟩) (fun u hu => by simp only [liVs, List.mem_cons, List.not_mem_nil, or_false] at hu; subst hu; rfl) 1 rfl
                  have HV : Hid (Upd [] wv v3) := HCL.out.up.trans q3
                  have HQ3 := Lib.hid q3
                  have HE3 := Lib.hid (HE.out.upd HV.out (S := []) (by simp))
                  have HB63 := Lib.hid (HB6.out.upd HV.out (by simp))
                  have hb6 := HB6.out.upd HCL.out.up (by simp)
                  have z5 := hb6.cell (j := 5) rfl
                  have lz := hb6.lt
                  have HBD : Hid (i + 1 ≤ maxLen ∧ (i + 1) * 24 ≤ 140737488355328) := ⟨by unfold maxLen; omega, by omega⟩
                  clear q3 hb6
                  go_wp2_with (at_builtin; (refine wpList_app2 _ (by rfl) _ _ _ (by rfl) 52 i0 _ 1 24 underlyingLists_ hi0 hz0 hz1 hz2 rfl (by omega) ao i cap (E.flatMap liVs) (by rfl) HE3.out.row (some ⟨wr.heap.size, 0, none⟩) 1 1 (liVs ⟨.slice ao9 n9 cap9, L9⟩) (by rfl) HSRC.out HBD.out.1 HBD.out.2 ?_); (intro ao3 cap3 w7 hA3; have hb67 := HB63.out.upd hA3.upd (fun hm => by have h1 := HE3.out.new _ hm; have h2 := HSZ.out; omega); have c5 := hb67.cell (j := 5) rfl; have f5 := hb67.free 5; have l5 := hb67.lt; have HB67 := Lib.hid hb67; have HA3 := Lib.hid hA3; clear hA3 hb67))
                  have hs1 := HU.out.size
                  have hs2 := HV.out.size
                  have hs3 := HA3.out.upd.size
                  have hpush := HE3.out.push (e := ⟨.slice ao9 n9 cap9, L9⟩) (by omega) HA3.out (by have := (HCL.out.row.sl).upd HQ3.out; rw [← HCL.out.len] at this ⊢; exact this) (fun x hx => by
                    have hx2 : x ∈ blkO ao9 := by
                      cases ao9 with
                      | none => simp [lvB] at hx
                      | some a =>
                        cases n9 with
                        | zero => simp [lvB] at hx
                        | succ n => simpa [lvB, blkO] using hx
                    have h1 := HCL.out.new x hx2
                    have h2 := HCL.out.row.lt x hx2
                    have h3 := HQ3.out.size
                    exact ⟨fun hm => by have := HE.out.row.lt x hm; omega, by omega, by omega⟩)
                  have hstore : Upd [bo] w7 (w7.setCell ⟨bo, 5, none⟩ (.slice ao3 (i + 1) cap3)) := (Upd.refl [bo] w7).setCell (.inl (by simp)) _
                  have h1 : Upd [bo] w5 v3 := HU.out.trans (HV.out.nil)
                  have h2 : Upd [bo] w5 w7 := h1.then HA3.out.upd (fun _ _ h => h) (fun k hk hm => by have := HE3.out.new k hm; omega)
                  exact ⟨⟨i + 1, lf, ao3, cap3, _, by congr 1, rfl, by have := HLT.out; omega, hlf2, HB67.out.set 5 (.slice ao3 (i + 1) cap3), hpush.upd hstore (fun x hx => by have := HSZ.out; simp only [List.mem_cons, List.not_mem_nil, or_false] at hx; omega), h2.trans hstore⟩, by first | (simp [intOf]; done) | (simp [intOf]; omega)⟩
              · have t2 : decide (k < m) = false := by simp; omega
                obtain ⟨i0, hi0, hz0, hz1, hz2⟩ := info_parts infoCallS_
                obtain ⟨v3, hv3⟩ : ∃ y, wr.alloc (.cells #[.slice ao9 n9 cap9] 52) = y := ⟨_, rfl⟩
                have q3 : Upd [] wr v3 := by rw [← hv3]; exact (Upd.refl [] wr).alloc _
                have HSRC : Hid (Src v3 1 (some ⟨wr.heap.size, 0, none⟩) 1 (liVs ⟨.slice ao9 n9 cap9, L9⟩)) := by
                  unfold Hid; rw [← hv3]
                  exact one_src wr 52 (liVs ⟨.slice ao9 n9 cap9, L9⟩) (fun u hu => by simp only [liVs, List.mem_cons, List.not_mem_nil, or_false] at hu; subst hu; rfl) 1 rfl
                have HV : Hid (Upd [] wv v3) := HCL.out.up.trans q3
                have HQ3 := Lib.hid q3
                have HE3 := Lib.hid (HE.out.upd HV.out (S := []) (by simp))
                have HB63 := Lib.hid (HB6.out.upd HV.out (by simp))
                have hb6 := HB6.out.upd HCL.out.up (by simp)
                have z5 := hb6.cell (j := 5) rfl
                have lz := hb6.lt
                have HBD : Hid (i + 1 ≤ maxLen ∧ (i + 1) * 24 ≤ 140737488355328) := ⟨by unfold maxLen; omega, by omega⟩
                clear q3 hb6
                go_wp2_with (at_builtin; (refine wpList_app2 _ (by rfl) _ _ _ (by rfl) 52 i0 _ 1 24 underlyingLists_ hi0 hz0 hz1 hz2 rfl (by omega) ao i cap (E.flatMap liVs) (by rfl) HE3.out.row (some ⟨wr.heap.size, 0, none⟩) 1 1 (liVs ⟨.slice ao9 n9 cap9, L9⟩) (by rfl) HSRC.out HBD.out.1 HBD.out.2 ?_); (intro ao3 cap3 w7 hA3; have hb67 := HB63.out.upd hA3.upd (fun hm => by have h1 := HE3.out.new _ hm; have h2 := HSZ.out; omega); have c5 := hb67.cell (j := 5) rfl; have f5 := hb67.free 5; have l5 := hb67.lt; have HB67 := Lib.hid hb67; have HA3 := Lib.hid hA3; clear hA3 hb67))
                have hs1 := HU.out.size
                have hs2 := HV.out.size
                have hs3 := HA3.out.upd.size
                have hpush := HE3.out.push (e := ⟨.slice ao9 n9 cap9, L9⟩) (by omega) HA3.out (by have := (HCL.out.row.sl).upd HQ3.out; rw [← HCL.out.len] at this ⊢; exact this) (fun x hx => by
                  have hx2 : x ∈ blkO ao9 := by
                    cases ao9 with
                    | none => simp [lvB] at hx
                    | some a =>
                      cases n9 with
                      | zero => simp [lvB] at hx
                      | succ n => simpa [lvB, blkO] using hx
                  have h1 := HCL.out.new x hx2
                  have h2 := HCL.out.row.lt x hx2
                  have h3 := HQ3.out.size
                  exact ⟨fun hm => by have := HE.out.row.lt x hm; omega, by omega, by omega⟩)
                have hstore : Upd [bo] w7 (w7.setCell ⟨bo, 5, none⟩ (.slice ao3 (i + 1) cap3)) := (Upd.refl [bo] w7).setCell (.inl (by simp)) _
                have h1 : Upd [bo] w5 v3 := HU.out.trans (HV.out.nil)
                have h2 : Upd [bo] w5 w7 := h1.then HA3.out.upd (fun _ _ h => h) (fun k hk hm => by have := HE3.out.new k hm; omega)
                exact ⟨⟨i + 1, lf, ao3, cap3, _, by congr 1, rfl, by have := HLT.out; omega, hlf2, HB67.out.set 5 (.slice ao3 (i + 1) cap3), hpush.upd hstore (fun x hx => by have := HSZ.out; simp only [List.mem_cons, List.not_mem_nil, or_false] at hx; omega), h2.trans hstore⟩, by first | (simp [intOf]; done) | (simp [intOf]; omega)⟩
            · have t1 : decide (i < n) = false := by simp; omega
              have t1' : decide (((i : Nat) : Int) < (n : Int)) = false := decide_eq_false (by omega)
              obtain ⟨i0, hi0, hz0, hz1, hz2⟩ := info_parts infoCallS_
              obtain ⟨v3, hv3⟩ : ∃ y, wr.alloc (.cells #[.slice ao9 n9 cap9] 52) = y := ⟨_, rfl⟩
              have q3 : Upd [] wr v3 := by rw [← hv3]; exact (Upd.refl [] wr).alloc _
              have HSRC : Hid (Src v3 1 (some ⟨wr.heap.size, 0, none⟩) 1 (liVs ⟨.slice ao9 n9 cap9, L9⟩)) := by
                unfold Hid; rw [← hv3]
                exact one_src wr 52 (liVs ⟨.slice ao9 n9 cap9, L9⟩) (fun u hu => by simp only [liVs, List.mem_cons, List.not_mem_nil, or_false] at hu; subst hu; rfl) 1 rfl
              have HV : Hid (Upd [] wv v3) := HCL.out.up.trans q3
              have HQ3 := Lib.hid q3
              have HE3 := Lib.hid (HE.out.upd HV.out (S := []) (by simp))
              have HB63 := Lib.hid (HB6.out.upd HV.out (by simp))
              have hb6 := HB6.out.upd HCL.out.up (by simp)
              have z5 := hb6.cell (j := 5) rfl
              have lz := hb6.lt
              have HBD : Hid (i + 1 ≤ maxLen ∧ (i + 1) * 24 ≤ 140737488355328) := ⟨by unfold maxLen; omega, by omega⟩
              clear q3 hb6
              go_wp2_with (at_builtin; (refine wpList_app2 _ (by rfl) _ _ _ (by rfl) 52 i0 _ 1 24 underlyingLists_ hi0 hz0 hz1 hz2 rfl (by omega) ao i cap (E.flatMap liVs) (by rfl) HE3.out.row (some ⟨wr.heap.size, 0, none⟩) 1 1 (liVs ⟨.slice ao9 n9 cap9, L9⟩) (by rfl) HSRC.out HBD.out.1 HBD.out.2 ?_); (intro ao3 cap3 w7 hA3; have hb67 := HB63.out.upd hA3.upd (fun hm => by have h1 := HE3.out.new _ hm; have h2 := HSZ.out; omega); have c5 := hb67.cell (j := 5) rfl; have f5 := hb67.free 5; have l5 := hb67.lt; have HB67 := Lib.hid hb67; have HA3 := Lib.hid hA3; clear hA3 hb67))
              have hs1 := HU.out.size
              have hs2 := HV.out.size
              have hs3 := HA3.out.upd.size
              have hpush := HE3.out.push (e := ⟨.slice ao9 n9 cap9, L9⟩) (by omega) HA3.out (by have := (HCL.out.row.sl).upd HQ3.out; rw [← HCL.out.len] at this ⊢; exact this) (fun x hx => by
                have hx2 : x ∈ blkO ao9 := by
                  cases ao9 with
                  | none => simp [lvB] at hx
                  | some a =>
                    cases n9 with
                    | zero => simp [lvB] at hx
                    | succ n => simpa [lvB, blkO] using hx
                have h1 := HCL.out.new x hx2
                have h2 := HCL.out.row.lt x hx2
                have h3 := HQ3.out.size
                exact ⟨fun hm => by have := HE.out.row.lt x hm; omega, by omega, by omega⟩)
              have hstore : Upd [bo] w7 (w7.setCell ⟨bo, 5, none⟩ (.slice ao3 (i + 1) cap3)) := (Upd.refl [bo] w7).setCell (.inl (by simp)) _
              have h1 : Upd [bo] w5 v3 := HU.out.trans (HV.out.nil)
              have h2 : Upd [bo] w5 w7 := h1.then HA3.out.upd (fun _ _ h => h) (fun k hk hm => by have := HE3.out.new k hm; omega)
              exact ⟨⟨i + 1, lf, ao3, cap3, _, by congr 1, rfl, by have := HLT.out; omega, hlf2, HB67.out.set 5 (.slice ao3 (i + 1) cap3), hpush.upd hstore (fun x hx => by have := HSZ.out; simp only [List.mem_cons, List.not_mem_nil, or_false] at hx; omega), h2.trans hstore⟩, by first | (simp [intOf]; done) | (simp [intOf]; omega)⟩
        · have s2 : decide (0 < m4) = false := by simp; omega
          clear g0
          go_wp2_with fail
          refine (H4.out _).mono ?_
          rintro e w9 ⟨rfl, rfl⟩
          have HCL : Hid (ClRow wv wv none 0 0 []) := ClRow.nil _
          clear y2 ly x3 lx
          go_wp2_with fail
          go_loopw [7, 9, 10] (fun fv lv kv wr => PInAt wv fv lv kv wr) (fun _ _ kv _ => 6 - (intOf kv).toNat)
          case atStart =>
            exact ⟨0, left, 0, none, 0, [], rfl, rfl, rfl, Nat.zero_le _, Nat.zero_le _, hlf, HCL.out⟩
          case round =>
            obtain ⟨k, lf, n9, ao9, cap9, L9, rfl, rfl, rfl, hk, hn9, hlf2, hcl⟩ := hrel
            have HCL := Lib.hid hcl
            have hbp := HBP.out.upd hcl.up (by simp)
            have x5 := hbp.cell (j := 5) rfl
            have lx := hbp.lt
            have HUI : Hid (Upd [] w wr) := HUW.out.trans hcl.up
            clear hcl hbp
            by_cases c1 : i < n
            · have t1 : decide (i < n) = true := by simp [c1]
              have t1' : decide (((i : Nat) : Int) < (n : Int)) = true := decide_eq_true (by omega)
              have bi : ((i : Nat) : Int) < (n : Int) := by omega
              obtain ⟨x, hx⟩ : ∃ x, p.L[i]? = some x := ⟨_, List.getElem?_eq_getElem (by rw [HN.out]; exact c1)⟩
              obtain ⟨-, _, _, e1, hat⟩ := lists_at (HLS.out.upd HUI.out)
              rw [HN.out] at e1
              cases e1
              obtain ⟨gb, go, rfl, lg, v0, hm, lo, lc, hlv, hcs⟩ := hat i x hx
              rw [hlv] at v0
              obtain ⟨m, hmm⟩ : ∃ m, x.L.length = m := ⟨_, rfl⟩
              have HMX := Lib.hid hmm
              rw [hmm] at v0 hm
              have bm : m ≤ 9223372036854775807 := hm
              have HCS := Lib.hid hcs
              clear hat hlv hx hm hmm hcs
              by_cases c2 : k < m
              · have t2 : decide (k < m) = true := by simp [c2]
                have bk : (k : Int) < (m : Int) := by omega
                by_cases c3 : k < 5
                · have t3 : decide (k < 5) = true := by simp [c3]
                  have t3' : decide ((k : Int) < 5) = true := decide_eq_true (by omega)
                  by_cases c4 : 0 < lf
                  · have t4 : decide (0 < lf) = true := by simp [c4]
                    have t4' : decide ((0 : Int) < (lf : Int)) = true := decide_eq_true (by omega)
                    obtain ⟨cl, hcl⟩ : ∃ cl, x.L[k]? = some cl := ⟨_, List.getElem?_eq_getElem (by rw [HMX.out]; exact c2)⟩
                    obtain ⟨gc, gof, rfl, lgc, k0, k1, k2, k3⟩ := HCS.out k cl hcl
                    have HPC : Hid (Calls Try.prog 18 #[.agg #[.int .i64 cl.op, .int .i64 cl.flow, .int .i64 cl.a, .int .i64 cl.b]] wr (SomeCl wr)) := pcall_some cl wr
                    obtain ⟨lf', rfl⟩ : ∃ y, lf = y + 1 := ⟨lf - 1, by omega⟩
                    clear c1 c2 c4 hcl
                    go_wp2_with fail
                    refine HPC.out.mono ?_
                    rintro e w6 ⟨c', rfl, hu6⟩
                    unfold clV
                    obtain ⟨i0, hi0, hz0, hz1, hz2⟩ := info_parts infoCall_
                    obtain ⟨v3, hv3⟩ : ∃ y, w6.alloc (.cells #[.int .i64 c'.op, .int .i64 c'.flow, .int .i64 c'.a, .int .i64 c'.b] 55) = y := ⟨_, rfl⟩
                    have q3 : Upd [] wr v3 := by rw [← hv3]; exact hu6.trans ((Upd.refl [] w6).alloc _)
                    have HSRC : Hid (Src v3 4 (some ⟨w6.heap.size, 0, none⟩) 1 (clVs c')) := by unfold Hid; rw [← hv3]; exact one_src w6 55 (clVs c') (clVs_one _) 4 rfl
                    have HR3 := Lib.hid (HCL.out.upd q3)
                    have HBD : Hid (n9 + 1 ≤ maxLen ∧ (n9 + 1) * 32 ≤ 140737488355328) := ⟨by unfold maxLen; omega, by omega⟩
                    clear q3 x5 lx v0 lg k0 k1 k2 k3 lgc hu6
                    go_wp2_with (at_builtin; (refine wpList_app2 _ (by rfl) _ _ _ (by rfl) 55 i0 _ 4 32 underlyingCalls_ hi0 hz0 hz1 hz2 rfl (by omega) ao9 n9 cap9 (L9.flatMap clVs) (by rfl) HR3.out.row (some ⟨w6.heap.size, 0, none⟩) 1 1 (clVs c') (by rfl) HSRC.out HBD.out.1 HBD.out.2 ?_); (intro ao3 cap3 w7 hA3; have HA3 := Lib.hid hA3; clear hA3))
                    exact ⟨⟨k + 1, lf', n9 + 1, ao3, cap3, _, by congr 1, by first | rfl | (congr 1; omega), rfl, by omega, by omega, by omega, HR3.out.push HA3.out⟩, by first | (simp [intOf]; done) | (simp [intOf]; omega)⟩
                  · have t4 : decide (0 < lf) = false := by simp; omega
                    have t4' : decide ((0 : Int) < (lf : Int)) = false := decide_eq_false (by omega)
                    obtain ⟨i0, hi0, hz0, hz1, hz2⟩ := info_parts infoCallS_
                    obtain ⟨v3, hv3⟩ : ∃ y, wr.alloc (.cells #[.slice ao9 n9 cap9] 52) = y := ⟨_, rfl⟩
                    have q3 : Upd [] wr v3 := by rw [← hv3]; exact (Upd.refl [] wr).alloc _
                    have HSRC : Hid (Src v3 1 (some ⟨wr.heap.size, 0, none⟩) 1 (liVs ⟨.slice ao9 n9 cap9, L9⟩)) := by
                      unfold Hid; rw [← hv3]
                      exact one_src wr 52 (liVs ⟨.slice ao9 n9 cap9, L9⟩) (fun u hu => by simp only [liVs, List.mem_cons, List.not_mem_nil, or_false] at hu; subst hu; rfl) 1 rfl
                    have HV : Hid (Upd [] wv v3) := HCL.out.up.trans q3
                    have HQ3 := Lib.hid q3
                    have HE3 := Lib.hid (HE.out.upd HV.out (S := []) (by simp))
                    have HB63 := Lib.hid (HB6.out.upd HV.out (by simp))
                    have hb6 := HB6.out.upd HCL.out.up (by simp)
                    have z5 := hb6.cell (j := 5) rfl
                    have lz := hb6.lt
                    have HBD : Hid (i + 1 ≤ maxLen ∧ (i + 1) * 24 ≤ 140737488355328) := ⟨by unfold maxLen; omega, by omega⟩
                    clear q3 hb6
                    go_wp2_with (at_builtin; (refine wpList_app2 _ (by rfl) _ _ _ (by rfl) 52 i0 _ 1 24 underlyingLists_ hi0 hz0 hz1 hz2 rfl (by omega) ao i cap (E.flatMap liVs) (by rfl) HE3.out.row (some ⟨wr.heap.size, 0, none⟩) 1 1 (liVs ⟨.slice ao9 n9 cap9, L9⟩) (by rfl) HSRC.out HBD.out.1 HBD.out.2 ?_); (intro ao3 cap3 w7 hA3; have hb67 := HB63.out.upd hA3.upd (fun hm => by have h1 := HE3.out.new _ hm; have h2 := HSZ.out; omega); have c5 := hb67.cell (j := 5) rfl; have f5 := hb67.free 5; have l5 := hb67.lt; have HB67 := Lib.hid hb67; have HA3 := Lib.hid hA3; clear hA3 hb67))
                    have hs1 := HU.out.size
                    have hs2 := HV.out.size
                    have hs3 := HA3.out.upd.size
                    have hpush := HE3.out.push (e := ⟨.slice ao9 n9 cap9, L9⟩) (by omega) HA3.out (by have := (HCL.out.row.sl).upd HQ3.out; rw [← HCL.out.len] at this ⊢; exact this) (fun x hx => by
                      have hx2 : x ∈ blkO ao9 := by
                        cases ao9 with
                        | none => simp [lvB] at hx
                        | some a =>
                          cases n9 with
                          | zero => simp [lvB] at hx
                          | succ n => simpa [lvB, blkO] using hx
                      have h1 := HCL.out.new x hx2
                      have h2 := HCL.out.row.lt x hx2
                      have h3 := HQ3.out.size
                      exact ⟨fun hm => by have := HE.out.row.lt x hm; omega, by omega, by omega⟩)
                    have hstore : Upd [bo] w7 (w7.setCell ⟨bo, 5, none⟩ (.slice ao3 (i + 1) cap3)) := (Upd.refl [bo] w7).setCell (.inl (by simp)) _
                    have h1 : Upd [bo] w5 v3 := HU.out.trans (HV.out.nil)
                    have h2 : Upd [bo] w5 w7 := h1.then HA3.out.upd (fun _ _ h => h) (fun k hk hm => by have := HE3.out.new k hm; omega)
                    exact ⟨⟨i + 1, lf, ao3, cap3, _, by congr 1, rfl, by have := HLT.out; omega, hlf2, HB67.out.set 5 (.slice ao3 (i + 1) cap3), hpush.upd hstore (fun x hx => by have := HSZ.out; simp only [List.mem_cons, List.not_mem_nil, or_false] at hx; omega), h2.trans hstore⟩, by first | (simp [intOf]; done) | (simp [intOf]; omega)⟩
                · have t3 : decide (k < 5) = false := by simp; omega
                  have t3' : decide ((k : Int) < 5) = false := decide_eq_false (by omega)
                  obtain ⟨i0, hi0, hz0, hz1, hz2⟩ := info_parts infoCallS_
                  obtain ⟨v3, hv3⟩ : ∃ y, wr.alloc (.cells #[.slice ao9 n9 cap9] 52) = y := ⟨_, rfl⟩
                  have q3 : Upd [] wr v3 := by rw [← hv3]; exact (Upd.refl [] wr).alloc _
                  have HSRC : Hid (Src v3 1 (some ⟨wr.heap.size, 0, none⟩) 1 (liVs ⟨.slice ao9 n9 cap9, L9⟩)) := by
                    unfold Hid; rw [← hv3]
                    exact one_src wr 52 (liVs ⟨.slice ao9 n9 cap9, L9⟩) (fun u hu => by simp only [liVs, List.mem_cons, List.not_mem_nil, or_false] at hu; subst hu; rfl) 1 rfl
                  have HV : Hid (Upd [] wv v3) := HCL.out.up.trans q3
                  have HQ3 := Lib.hid q3
                  have HE3 := Lib.hid (HE.out.upd HV.out (S := []) (by simp))
                  have HB63 := Lib.hid (HB6.out.upd HV.out (by simp))
                  have hb6 := HB6.out.upd HCL.out.up (by simp)
                  have z5 := hb6.cell (j := 5) rfl
                  have lz := hb6.lt
                  have HBD : Hid (i + 1 ≤ maxLen ∧ (i + 1) * 24 ≤ 140737488355328) := ⟨by unfold maxLen; omega, by omega⟩
                  clear q3 hb6
                  go_wp2_with (at_builtin; (refine wpList_app2 _ (by rfl) _ _ _ (by rfl) 52 i0 _ 1 24 underlyingLists_ hi0 hz0 hz1 hz2 rfl (by omega) ao i cap (E.flatMap liVs) (by rfl) HE3.out.row (some ⟨wr.heap.size, 0, none⟩) 1 1 (liVs ⟨.slice ao9 n9 cap9, L9⟩) (by rfl) HSRC.out HBD.out.1 HBD.out.2 ?_); (intro ao3 cap3 w7 hA3; have hb67 := HB63.out.upd hA3.upd (fun hm => by have h1 := HE3.out.new _ hm; have h2 := HSZ.out; omega); have c5 := hb67.cell (j := 5) rfl; have f5 := hb67.free 5; have l5 := hb67.lt; have HB67 := Lib.hid hb67; have HA3 := Lib.hid hA3; clear hA3 hb67))
                  have hs1 := HU.out.size
                  have hs2 := HV.out.size
                  have hs3 := HA3.out.upd.size
                  have hpush := HE3.out.push (e := ⟨.slice ao9 n9 cap9, L9⟩) (by omega) HA3.out (by have := (HCL.out.row.sl).upd HQ3.out; rw [← HCL.out.len] at this ⊢; exact this) (fun x hx => by
                    have hx2 : x ∈ blkO ao9 := by
                      cases ao9 with
                      | none => simp [lvB] at hx
                      | some a =>
                        cases n9 with
                        | zero => simp [lvB] at hx
                        | succ n => simpa [lvB, blkO] using hx
                    have h1 := HCL.out.new x hx2
                    have h2 := HCL.out.row.lt x hx2
                    have h3 := HQ3.out.size
                    exact ⟨fun hm => by have := HE.out.row.lt x hm; omega, by omega, by omega⟩)
                  have hstore : Upd [bo] w7 (w7.setCell ⟨bo, 5, none⟩ (.slice ao3 (i + 1) cap3)) := (Upd.refl [bo] w7).setCell (.inl (by simp)) _
                  have h1 : Upd [bo] w5 v3 := HU.out.trans (HV.out.nil)
                  have h2 : Upd [bo] w5 w7 := h1.then HA3.out.upd (fun _ _ h => h) (fun k hk hm => by have := HE3.out.new k hm; omega)
                  exact ⟨⟨i + 1, lf, ao3, cap3, _, by congr 1, rfl, by have := HLT.out; omega, hlf2, HB67.out.set 5 (.slice ao3 (i + 1) cap3), hpush.upd hstore (fun x hx => by have := HSZ.out; simp only [List.mem_cons, List.not_mem_nil, or_false] at hx; omega), h2.trans hstore⟩, by first | (simp [intOf]; done) | (simp [intOf]; omega)⟩
              · have t2 : decide (k < m) = false := by simp; omega
                obtain ⟨i0, hi0, hz0, hz1, hz2⟩ := info_parts infoCallS_
                obtain ⟨v3, hv3⟩ : ∃ y, wr.alloc (.cells #[.slice ao9 n9 cap9] 52) = y := ⟨_, rfl⟩
                have q3 : Upd [] wr v3 := by rw [← hv3]; exact (Upd.refl [] wr).alloc _
                have HSRC : Hid (Src v3 1 (some ⟨wr.heap.size, 0, none⟩) 1 (liVs ⟨.slice ao9 n9 cap9, L9⟩)) := by
                  unfold Hid; rw [← hv3]
                  exact one_src wr 52 (liVs ⟨.slice ao9 n9 cap9, L9⟩) (fun u hu => by simp only [liVs, List.mem_cons, List.not_mem_nil, or_false] at hu; subst hu; rfl) 1 rfl
                have HV : Hid (Upd [] wv v3) := HCL.out.up.trans q3
                have HQ3 := Lib.hid q3
                have HE3 := Lib.hid (HE.out.upd HV.out (S := []) (by simp))
                have HB63 := Lib.hid (HB6.out.upd HV.out (by simp))
                have hb6 := HB6.out.upd HCL.out.up (by simp)
                have z5 := hb6.cell (j := 5) rfl
                have lz := hb6.lt
                have HBD : Hid (i + 1 ≤ maxLen ∧ (i + 1) * 24 ≤ 140737488355328) := ⟨by unfold maxLen; omega, by omega⟩
                clear q3 hb6
                go_wp2_with (at_builtin; (refine wpList_app2 _ (by rfl) _ _ _ (by rfl) 52 i0 _ 1 24 underlyingLists_ hi0 hz0 hz1 hz2 rfl (by omega) ao i cap (E.flatMap liVs) (by rfl) HE3.out.row (some ⟨wr.heap.size, 0, none⟩) 1 1 (liVs ⟨.slice ao9 n9 cap9, L9⟩) (by rfl) HSRC.out HBD.out.1 HBD.out.2 ?_); (intro ao3 cap3 w7 hA3; have hb67 := HB63.out.upd hA3.upd (fun hm => by have h1 := HE3.out.new _ hm; have h2 := HSZ.out; omega); have c5 := hb67.cell (j := 5) rfl; have f5 := hb67.free 5; have l5 := hb67.lt; have HB67 := Lib.hid hb67; have HA3 := Lib.hid hA3; clear hA3 hb67))
                have hs1 := HU.out.size
                have hs2 := HV.out.size
                have hs3 := HA3.out.upd.size
                have hpush := HE3.out.push (e := ⟨.slice ao9 n9 cap9, L9⟩) (by omega) HA3.out (by have := (HCL.out.row.sl).upd HQ3.out; rw [← HCL.out.len] at this ⊢; exact this) (fun x hx => by
                  have hx2 : x ∈ blkO ao9 := by
                    cases ao9 with
                    | none => simp [lvB] at hx
                    | some a =>
                      cases n9 with
                      | zero => simp [lvB] at hx
                      | succ n => simpa [lvB, blkO] using hx
                  have h1 := HCL.out.new x hx2
                  have h2 := HCL.out.row.lt x hx2
                  have h3 := HQ3.out.size
                  exact ⟨fun hm => by have := HE.out.row.lt x hm; omega, by omega, by omega⟩)
                have hstore : Upd [bo] w7 (w7.setCell ⟨bo, 5, none⟩ (.slice ao3 (i + 1) cap3)) := (Upd.refl [bo] w7).setCell (.inl (by simp)) _
                have h1 : Upd [bo] w5 v3 := HU.out.trans (HV.out.nil)
                have h2 : Upd [bo] w5 w7 := h1.then HA3.out.upd (fun _ _ h => h) (fun k hk hm => by have := HE3.out.new k hm; omega)
                exact ⟨⟨i + 1, lf, ao3, cap3, _, by congr 1, rfl, by have := HLT.out; omega, hlf2, HB67.out.set 5 (.slice ao3 (i + 1) cap3), hpush.upd hstore (fun x hx => by have := HSZ.out; simp only [List.mem_cons, List.not_mem_nil, or_false] at hx; omega), h2.trans hstore⟩, by first | (simp [intOf]; done) | (simp [intOf]; omega)⟩
            · have t1 : decide (i < n) = false := by simp; omega
              have t1' : decide (((i : Nat) : Int) < (n : Int)) = false := decide_eq_false (by omega)
              obtain ⟨i0, hi0, hz0, hz1, hz2⟩ := info_parts infoCallS_
              obtain ⟨v3, hv3⟩ : ∃ y, wr.alloc (.cells #[.slice ao9 n9 cap9] 52) = y := ⟨_, rfl⟩
              have q3 : Upd [] wr v3 := by rw [← hv3]; exact (Upd.refl [] wr).alloc _
              have HSRC : Hid (Src v3 1 (some ⟨wr.heap.size, 0, none⟩) 1 (liVs ⟨.slice ao9 n9 cap9, L9⟩)) := by
                unfold Hid; rw [← hv3]
                exact one_src wr 52 (liVs ⟨.slice ao9 n9 cap9, L9⟩) (fun u hu => by simp only [liVs, List.mem_cons, List.not_mem_nil, or_false] at hu; subst hu; rfl) 1 rfl
              have HV : Hid (Upd [] wv v3) := HCL.out.up.trans q3
              have HQ3 := Lib.hid q3
              have HE3 := Lib.hid (HE.out.upd HV.out (S := []) (by simp))
              have HB63 := Lib.hid (HB6.out.upd HV.out (by simp))
              have hb6 := HB6.out.upd HCL.out.up (by simp)
              have z5 := hb6.cell (j := 5) rfl
              have lz := hb6.lt
              have HBD : Hid (i + 1 ≤ maxLen ∧ (i + 1) * 24 ≤ 140737488355328) := ⟨by unfold maxLen; omega, by omega⟩
              clear q3 hb6
              go_wp2_with (at_builtin; (refine wpList_app2 _ (by rfl) _ _ _ (by rfl) 52 i0 _ 1 24 underlyingLists_ hi0 hz0 hz1 hz2 rfl (by omega) ao i cap (E.flatMap liVs) (by rfl) HE3.out.row (some ⟨wr.heap.size, 0, none⟩) 1 1 (liVs ⟨.slice ao9 n9 cap9, L9⟩) (by rfl) HSRC.out HBD.out.1 HBD.out.2 ?_); (intro ao3 cap3 w7 hA3; have hb67 := HB63.out.upd hA3.upd (fun hm => by have h1 := HE3.out.new _ hm; have h2 := HSZ.out; omega); have c5 := hb67.cell (j := 5) rfl; have f5 := hb67.free 5; have l5 := hb67.lt; have HB67 := Lib.hid hb67; have HA3 := Lib.hid hA3; clear hA3 hb67))
              have hs1 := HU.out.size
              have hs2 := HV.out.size
              have hs3 := HA3.out.upd.size
              have hpush := HE3.out.push (e := ⟨.slice ao9 n9 cap9, L9⟩) (by omega) HA3.out (by have := (HCL.out.row.sl).upd HQ3.out; rw [← HCL.out.len] at this ⊢; exact this) (fun x hx => by
                have hx2 : x ∈ blkO ao9 := by
                  cases ao9 with
                  | none => simp [lvB] at hx
                  | some a =>
                    cases n9 with
                    | zero => simp [lvB] at hx
                    | succ n => simpa [lvB, blkO] using hx
                have h1 := HCL.out.new x hx2
                have h2 := HCL.out.row.lt x hx2
                have h3 := HQ3.out.size
                exact ⟨fun hm => by have := HE.out.row.lt x hm; omega, by omega, by omega⟩)
              have hstore : Upd [bo] w7 (w7.setCell ⟨bo, 5, none⟩ (.slice ao3 (i + 1) cap3)) := (Upd.refl [bo] w7).setCell (.inl (by simp)) _
              have h1 : Upd [bo] w5 v3 := HU.out.trans (HV.out.nil)
              have h2 : Upd [bo] w5 w7 := h1.then HA3.out.upd (fun _ _ h => h) (fun k hk hm => by have := HE3.out.new k hm; omega)
              exact ⟨⟨i + 1, lf, ao3, cap3, _, by congr 1, rfl, by have := HLT.out; omega, hlf2, HB67.out.set 5 (.slice ao3 (i + 1) cap3), hpush.upd hstore (fun x hx => by have := HSZ.out; simp only [List.mem_cons, List.not_mem_nil, or_false] at hx; omega), h2.trans hstore⟩, by first | (simp [intOf]; done) | (simp [intOf]; omega)⟩
      · have s1 : ((i : Int) == 0) = false := by simp; omega
        have s1' : (i == 0) = false := by simp; omega
        clear hpos
        have HCL : Hid (ClRow wv wv none 0 0 []) := ClRow.nil _
        go_wp2_with fail
        go_loopw [7, 9, 10] (fun fv lv kv wr => PInAt wv fv lv kv wr) (fun _ _ kv _ => 6 - (intOf kv).toNat)
        case atStart =>
          exact ⟨0, left, 0, none, 0, [], rfl, rfl, rfl, Nat.zero_le _, Nat.zero_le _, hlf, HCL.out⟩
        case round =>
          obtain ⟨k, lf, n9, ao9, cap9, L9, rfl, rfl, rfl, hk, hn9, hlf2, hcl⟩ := hrel
          have HCL := Lib.hid hcl
          have hbp := HBP.out.upd hcl.up (by simp)
          have x5 := hbp.cell (j := 5) rfl
          have lx := hbp.lt
          have HUI : Hid (Upd [] w wr) := HUW.out.trans hcl.up
          clear hcl hbp
          by_cases c1 : i < n
          · have t1 : decide (i < n) = true := by simp [c1]
            have t1' : decide (((i : Nat) : Int) < (n : Int)) = true := decide_eq_true (by omega)
            have bi : ((i : Nat) : Int) < (n : Int) := by omega
            obtain ⟨x, hx⟩ : ∃ x, p.L[i]? = some x := ⟨_, List.getElem?_eq_getElem (by rw [HN.out]; exact c1)⟩
            obtain ⟨-, _, _, e1, hat⟩ := lists_at (HLS.out.upd HUI.out)
            rw [HN.out] at e1
            cases e1
            obtain ⟨gb, go, rfl, lg, v0, hm, lo, lc, hlv, hcs⟩ := hat i x hx
            rw [hlv] at v0
            obtain ⟨m, hmm⟩ : ∃ m, x.L.length = m := ⟨_, rfl⟩
            have HMX := Lib.hid hmm
            rw [hmm] at v0 hm
            have bm : m ≤ 9223372036854775807 := hm
            have HCS := Lib.hid hcs
            clear hat hlv hx hm hmm hcs
            by_cases c2 : k < m
            · have t2 : decide (k < m) = true := by simp [c2]
              have bk : (k : Int) < (m : Int) := by omega
              by_cases c3 : k < 5
              · have t3 : decide (k < 5) = true := by simp [c3]
                have t3' : decide ((k : Int) < 5) = true := decide_eq_true (by omega)
                by_cases c4 : 0 < lf
                · have t4 : decide (0 < lf) = true := by simp [c4]
                  have t4' : decide ((0 : Int) < (lf : Int)) = true := decide_eq_true (by omega)
                  obtain ⟨cl, hcl⟩ : ∃ cl, x.L[k]? = some cl := ⟨_, List.getElem?_eq_getElem (by rw [HMX.out]; exact c2)⟩
                  obtain ⟨gc, gof, rfl, lgc, k0, k1, k2, k3⟩ := HCS.out k cl hcl
                  have HPC : Hid (Calls Try.prog 18 #[.agg #[.int .i64 cl.op, .int .i64 cl.flow, .int .i64 cl.a, .int .i64 cl.b]] wr (SomeCl wr)) := pcall_some cl wr
                  obtain ⟨lf', rfl⟩ : ∃ y, lf = y + 1 := ⟨lf - 1, by omega⟩
                  clear c1 c2 c4 hcl
                  go_wp2_with fail
                  refine HPC.out.mono ?_
                  rintro e w6 ⟨c', rfl, hu6⟩
                  unfold clV
                  obtain ⟨i0, hi0, hz0, hz1, hz2⟩ := info_parts infoCall_
                  obtain ⟨v3, hv3⟩ : ∃ y, w6.alloc (.cells #[.int .i64 c'.op, .int .i64 c'.flow, .int .i64 c'.a, .int .i64 c'.b] 55) = y := ⟨_, rfl⟩
                  have q3 : Upd [] wr v3 := by rw [← hv3]; exact hu6.trans ((Upd.refl [] w6).alloc _)
                  have HSRC : Hid (Src v3 4 (some ⟨w6.heap.size, 0, none⟩) 1 (clVs c')) := by unfold Hid; rw [← hv3]; exact one_src w6 55 (clVs c') (clVs_one _) 4 rfl
                  have HR3 := Lib.hid (HCL.out.upd q3)
                  have HBD : Hid (n9 + 1 ≤ maxLen ∧ (n9 + 1) * 32 ≤ 140737488355328) := ⟨by unfold maxLen; omega, by omega⟩
                  clear q3 x5 lx v0 lg k0 k1 k2 k3 lgc hu6
                  go_wp2_with (at_builtin; (refine wpList_app2 _ (by rfl) _ _ _ (by rfl) 55 i0 _ 4 32 underlyingCalls_ hi0 hz0 hz1 hz2 rfl (by omega) ao9 n9 cap9 (L9.flatMap clVs) (by rfl) HR3.out.row (some ⟨w6.heap.size, 0, none⟩) 1 1 (clVs c') (by rfl) HSRC.out HBD.out.1 HBD.out.2 ?_); (intro ao3 cap3 w7 hA3; have HA3 := Lib.hid hA3; clear hA3))
                  exact ⟨⟨k + 1, lf', n9 + 1, ao3, cap3, _, by congr 1, by first | rfl | (congr 1; omega), rfl, by omega, by omega, by omega, HR3.out.push HA3.out⟩, by first | (simp [intOf]; done) | (simp [intOf]; omega)⟩
                · have t4 : decide (0 < lf) = false := by simp; omega
                  have t4' : decide ((0 : Int) < (lf : Int)) = false := decide_eq_false (by omega)
                  obtain ⟨i0, hi0, hz0, hz1, hz2⟩ := info_parts infoCallS_
                  obtain ⟨v3, hv3⟩ : ∃ y, wr.alloc (.cells #[.slice ao9 n9 cap9] 52) = y := ⟨_, rfl⟩
                  have q3 : Upd [] wr v3 := by rw [← hv3]; exact (Upd.refl [] wr).alloc _
                  have HSRC : Hid (Src v3 1 (some ⟨wr.heap.size, 0, none⟩) 1 (liVs ⟨.slice ao9 n9 cap9, L9⟩)) := by
                    unfold Hid; rw [← hv3]
                    exact one_src wr 52 (liVs ⟨.slice ao9 n9 cap9, L9⟩) (fun u hu => by simp only [liVs, List.mem_cons, List.not_mem_nil, or_false] at hu; subst hu; rfl) 1 rfl
                  have HV : Hid (Upd [] wv v3) := HCL.out.up.trans q3
                  have HQ3 := Lib.hid q3
                  have HE3 := Lib.hid (HE.out.upd HV.out (S := []) (by simp))
                  have HB63 := Lib.hid (HB6.out.upd HV.out (by simp))
                  have hb6 := HB6.out.upd HCL.out.up (by simp)
                  have z5 := hb6.cell (j := 5) rfl
                  have lz := hb6.lt
                  have HBD : Hid (i + 1 ≤ maxLen ∧ (i + 1) * 24 ≤ 140737488355328) := ⟨by unfold maxLen; omega, by omega⟩
                  clear q3 hb6
                  go_wp2_with (at_builtin; (refine wpList_app2 _ (by rfl) _ _ _ (by rfl) 52 i0 _ 1 24 underlyingLists_ hi0 hz0 hz1 hz2 rfl (by omega) ao i cap (E.flatMap liVs) (by rfl) HE3.out.row (some ⟨wr.heap.size, 0, none⟩) 1 1 (liVs ⟨.slice ao9 n9 cap9, L9⟩) (by rfl) HSRC.out HBD.out.1 HBD.out.2 ?_); (intro ao3 cap3 w7 hA3; have hb67 := HB63.out.upd hA3.upd (fun hm => by have h1 := HE3.out.new _ hm; have h2 := HSZ.out; omega); have c5 := hb67.cell (j := 5) rfl; have f5 := hb67.free 5; have l5 := hb67.lt; have HB67 := Lib.hid hb67; have HA3 := Lib.hid hA3; clear hA3 hb67))
                  have hs1 := HU.out.size
                  have hs2 := HV.out.size
                  have hs3 := HA3.out.upd.size
                  have hpush := HE3.out.push (e := ⟨.slice ao9 n9 cap9, L9⟩) (by omega) HA3.out (by have := (HCL.out.row.sl).upd HQ3.out; rw [← HCL.out.len] at this ⊢; exact this) (fun x hx => by
                    have hx2 : x ∈ blkO ao9 := by
                      cases ao9 with
                      | none => simp [lvB] at hx
                      | some a =>
                        cases n9 with
                        | zero => simp [lvB] at hx
                        | succ n => simpa [lvB, blkO] using hx
                    have h1 := HCL.out.new x hx2
                    have h2 := HCL.out.row.lt x hx2
                    have h3 := HQ3.out.size
                    exact ⟨fun hm => by have := HE.out.row.lt x hm; omega, by omega, by omega⟩)
                  have hstore : Upd [bo] w7 (w7.setCell ⟨bo, 5, none⟩ (.slice ao3 (i + 1) cap3)) := (Upd.refl [bo] w7).setCell (.inl (by simp)) _
                  have h1 : Upd [bo] w5 v3 := HU.out.trans (HV.out.nil)
                  have h2 : Upd [bo] w5 w7 := h1.then HA3.out.upd (fun _ _ h => h) (fun k hk hm => by have := HE3.out.new k hm; omega)
                  exact ⟨⟨i + 1, lf, ao3, cap3, _, by congr 1, rfl, by have := HLT.out; omega, hlf2, HB67.out.set 5 (.slice ao3 (i + 1) cap3), hpush.upd hstore (fun x hx => by have := HSZ.out; simp only [List.mem_cons, List.not_mem_nil, or_false] at hx; omega), h2.trans hstore⟩, by first | (simp [intOf]; done) | (simp [intOf]; omega)⟩
              · have t3 : decide (k < 5) = false := by simp; omega
                have t3' : decide ((k : Int) < 5) = false := decide_eq_false (by omega)
                obtain ⟨i0, hi0, hz0, hz1, hz2⟩ := info_parts infoCallS_
                obtain ⟨v3, hv3⟩ : ∃ y, wr.alloc (.cells #[.slice ao9 n9 cap9] 52) = y := ⟨_, rfl⟩
                have q3 : Upd [] wr v3 := by rw [← hv3]; exact (Upd.refl [] wr).alloc _
                have HSRC : Hid (Src v3 1 (some ⟨wr.heap.size, 0, none⟩) 1 (liVs ⟨.slice ao9 n9 cap9, L9⟩)) := by
                  unfold Hid; rw [← hv3]
                  exact one_src wr 52 (liVs ⟨.slice ao9 n9 cap9, L9⟩) (fun u hu => by simp only [liVs, List.mem_cons, List.not_mem_nil, or_false] at hu; subst hu; rfl) 1 rfl
                have HV : Hid (Upd [] wv v3) := HCL.out.up.trans q3
                have HQ3 := Lib.hid q3
                have HE3 := Lib.hid (HE.out.upd HV.out (S := []) (by simp))
                have HB63 := Lib.hid (HB6.out.upd HV.out (by simp))
                have hb6 := HB6.out.upd HCL.out.up (by simp)
                have z5 := hb6.cell (j := 5) rfl
                have lz := hb6.lt
                have HBD : Hid (i + 1 ≤ maxLen ∧ (i + 1) * 24 ≤ 140737488355328) := ⟨by unfold maxLen; omega, by omega⟩
                clear q3 hb6
                go_wp2_with (at_builtin; (refine wpList_app2 _ (by rfl) _ _ _ (by rfl) 52 i0 _ 1 24 underlyingLists_ hi0 hz0 hz1 hz2 rfl (by omega) ao i cap (E.flatMap liVs) (by rfl) HE3.out.row (some ⟨wr.heap.size, 0, none⟩) 1 1 (liVs ⟨.slice ao9 n9 cap9, L9⟩) (by rfl) HSRC.out HBD.out.1 HBD.out.2 ?_); (intro ao3 cap3 w7 hA3; have hb67 := HB63.out.upd hA3.upd (fun hm => by have h1 := HE3.out.new _ hm; have h2 := HSZ.out; omega); have c5 := hb67.cell (j := 5) rfl; have f5 := hb67.free 5; have l5 := hb67.lt; have HB67 := Lib.hid hb67; have HA3 := Lib.hid hA3; clear hA3 hb67))
                have hs1 := HU.out.size
                have hs2 := HV.out.size
                have hs3 := HA3.out.upd.size
                have hpush := HE3.out.push (e := ⟨.slice ao9 n9 cap9, L9⟩) (by omega) HA3.out (by have := (HCL.out.row.sl).upd HQ3.out; rw [← HCL.out.len] at this ⊢; exact this) (fun x hx => by
                  have hx2 : x ∈ blkO ao9 := by
                    cases ao9 with
                    | none => simp [lvB] at hx
                    | some a =>
                      cases n9 with
                      | zero => simp [lvB] at hx
                      | succ n => simpa [lvB, blkO] using hx
                  have h1 := HCL.out.new x hx2
                  have h2 := HCL.out.row.lt x hx2
                  have h3 := HQ3.out.size
                  exact ⟨fun hm => by have := HE.out.row.lt x hm; omega, by omega, by omega⟩)
                have hstore : Upd [bo] w7 (w7.setCell ⟨bo, 5, none⟩ (.slice ao3 (i + 1) cap3)) := (Upd.refl [bo] w7).setCell (.inl (by simp)) _
                have h1 : Upd [bo] w5 v3 := HU.out.trans (HV.out.nil)
                have h2 : Upd [bo] w5 w7 := h1.then HA3.out.upd (fun _ _ h => h) (fun k hk hm => by have := HE3.out.new k hm; omega)
                exact ⟨⟨i + 1, lf, ao3, cap3, _, by congr 1, rfl, by have := HLT.out; omega, hlf2, HB67.out.set 5 (.slice ao3 (i + 1) cap3), hpush.upd hstore (fun x hx => by have := HSZ.out; simp only [List.mem_cons, List.not_mem_nil, or_false] at hx; omega), h2.trans hstore⟩, by first | (simp [intOf]; done) | (simp [intOf]; omega)⟩
            · have t2 : decide (k < m) = false := by simp; omega
              obtain ⟨i0, hi0, hz0, hz1, hz2⟩ := info_parts infoCallS_
              obtain ⟨v3, hv3⟩ : ∃ y, wr.alloc (.cells #[.slice ao9 n9 cap9] 52) = y := ⟨_, rfl⟩
              have q3 : Upd [] wr v3 := by rw [← hv3]; exact (Upd.refl [] wr).alloc _
              have HSRC : Hid (Src v3 1 (some ⟨wr.heap.size, 0, none⟩) 1 (liVs ⟨.slice ao9 n9 cap9, L9⟩)) := by
                unfold Hid; rw [← hv3]
                exact one_src wr 52 (liVs ⟨.slice ao9 n9 cap9, L9⟩) (fun u hu => by simp only [liVs, List.mem_cons, List.not_mem_nil, or_false] at hu; subst hu; rfl) 1 rfl
              have HV : Hid (Upd [] wv v3) := HCL.out.up.trans q3
              have HQ3 := Lib.hid q3
              have HE3 := Lib.hid (HE.out.upd HV.out (S := []) (by simp))
              have HB63 := Lib.hid (HB6.out.upd HV.out (by simp))
              have hb6 := HB6.out.upd HCL.out.up (by simp)
              have z5 := hb6.cell (j := 5) rfl
              have lz := hb6.lt
              have HBD : Hid (i + 1 ≤ maxLen ∧ (i + 1) * 24 ≤ 140737488355328) := ⟨by unfold maxLen; omega, by omega⟩
              clear q3 hb6
              go_wp2_with (at_builtin; (refine wpList_app2 _ (by rfl) _ _ _ (by rfl) 52 i0 _ 1 24 underlyingLists_ hi0 hz0 hz1 hz2 rfl (by omega) ao i cap (E.flatMap liVs) (by rfl) HE3.out.row (some ⟨wr.heap.size, 0, none⟩) 1 1 (liVs ⟨.slice ao9 n9 cap9, L9⟩) (by rfl) HSRC.out HBD.out.1 HBD.out.2 ?_); (intro ao3 cap3 w7 hA3; have hb67 := HB63.out.upd hA3.upd (fun hm => by have h1 := HE3.out.new _ hm; have h2 := HSZ.out; omega); have c5 := hb67.cell (j := 5) rfl; have f5 := hb67.free 5; have l5 := hb67.lt; have HB67 := Lib.hid hb67; have HA3 := Lib.hid hA3; clear hA3 hb67))
              have hs1 := HU.out.size
              have hs2 := HV.out.size
              have hs3 := HA3.out.upd.size
              have hpush := HE3.out.push (e := ⟨.slice ao9 n9 cap9, L9⟩) (by omega) HA3.out (by have := (HCL.out.row.sl).upd HQ3.out; rw [← HCL.out.len] at this ⊢; exact this) (fun x hx => by
                have hx2 : x ∈ blkO ao9 := by
                  cases ao9 with
                  | none => simp [lvB] at hx
                  | some a =>
                    cases n9 with
                    | zero => simp [lvB] at hx
                    | succ n => simpa [lvB, blkO] using hx
                have h1 := HCL.out.new x hx2
                have h2 := HCL.out.row.lt x hx2
                have h3 := HQ3.out.size
                exact ⟨fun hm => by have := HE.out.row.lt x hm; omega, by omega, by omega⟩)
              have hstore : Upd [bo] w7 (w7.setCell ⟨bo, 5, none⟩ (.slice ao3 (i + 1) cap3)) := (Upd.refl [bo] w7).setCell (.inl (by simp)) _
              have h1 : Upd [bo] w5 v3 := HU.out.trans (HV.out.nil)
              have h2 : Upd [bo] w5 w7 := h1.then HA3.out.upd (fun _ _ h => h) (fun k hk hm => by have := HE3.out.new k hm; omega)
              exact ⟨⟨i + 1, lf, ao3, cap3, _, by congr 1, rfl, by have := HLT.out; omega, hlf2, HB67.out.set 5 (.slice ao3 (i + 1) cap3), hpush.upd hstore (fun x hx => by have := HSZ.out; simp only [List.mem_cons, List.not_mem_nil, or_false] at hx; omega), h2.trans hstore⟩, by first | (simp [intOf]; done) | (simp [intOf]; omega)⟩
          · have t1 : decide (i < n) = false := by simp; omega
            have t1' : decide (((i : Nat) : Int) < (n : Int)) = false := decide_eq_false (by omega)
            obtain ⟨i0, hi0, hz0, hz1, hz2⟩ := info_parts infoCallS_
            obtain ⟨v3, hv3⟩ : ∃ y, wr.alloc (.cells #[.slice ao9 n9 cap9] 52) = y := ⟨_, rfl⟩
            have q3 : Upd [] wr v3 := by rw [← hv3]; exact (Upd.refl [] wr).alloc _
            have HSRC : Hid (Src v3 1 (some ⟨wr.heap.size, 0, none⟩) 1 (liVs ⟨.slice ao9 n9 cap9, L9⟩)) := by
              unfold Hid; rw [← hv3]
              exact one_src wr 52 (liVs ⟨.slice ao9 n9 cap9, L9⟩) (fun u hu => by simp only [liVs, List.mem_cons, List.not_mem_nil, or_false] at hu; subst hu; rfl) 1 rfl
            have HV : Hid (Upd [] wv v3) := HCL.out.up.trans q3
            have HQ3 := Lib.hid q3
            have HE3 := Lib.hid (HE.out.upd HV.out (S := []) (by simp))
            have HB63 := Lib.hid (HB6.out.upd HV.out (by simp))
            have hb6 := HB6.out.upd HCL.out.up (by simp)
            have z5 := hb6.cell (j := 5) rfl
            have lz := hb6.lt
            have HBD : Hid (i + 1 ≤ maxLen ∧ (i + 1) * 24 ≤ 140737488355328) := ⟨by unfold maxLen; omega, by omega⟩
            clear q3 hb6
            go_wp2_with (at_builtin; (refine wpList_app2 _ (by rfl) _ _ _ (by rfl) 52 i0 _ 1 24 underlyingLists_ hi0 hz0 hz1 hz2 rfl (by omega) ao i cap (E.flatMap liVs) (by rfl) HE3.out.row (some ⟨wr.heap.size, 0, none⟩) 1 1 (liVs ⟨.slice ao9 n9 cap9, L9⟩) (by rfl) HSRC.out HBD.out.1 HBD.out.2 ?_); (intro ao3 cap3 w7 hA3; have hb67 := HB63.out.upd hA3.upd (fun hm => by have h1 := HE3.out.new _ hm; have h2 := HSZ.out; omega); have c5 := hb67.cell (j := 5) rfl; have f5 := hb67.free 5; have l5 := hb67.lt; have HB67 := Lib.hid hb67; have HA3 := Lib.hid hA3; clear hA3 hb67))
            have hs1 := HU.out.size
            have hs2 := HV.out.size
            have hs3 := HA3.out.upd.size
            have hpush := HE3.out.push (e := ⟨.slice ao9 n9 cap9, L9⟩) (by omega) HA3.out (by have := (HCL.out.row.sl).upd HQ3.out; rw [← HCL.out.len] at this ⊢; exact this) (fun x hx => by
              have hx2 : x ∈ blkO ao9 := by
                cases ao9 with
                | none => simp [lvB] at hx
                | some a =>
                  cases n9 with
                  | zero => simp [lvB] at hx
                  | succ n => simpa [lvB, blkO] using hx
              have h1 := HCL.out.new x hx2
              have h2 := HCL.out.row.lt x hx2
              have h3 := HQ3.out.size
              exact ⟨fun hm => by have := HE.out.row.lt x hm; omega, by omega, by omega⟩)
            have hstore : Upd [bo] w7 (w7.setCell ⟨bo, 5, none⟩ (.slice ao3 (i + 1) cap3)) := (Upd.refl [bo] w7).setCell (.inl (by simp)) _
            have h1 : Upd [bo] w5 v3 := HU.out.trans (HV.out.nil)
            have h2 : Upd [bo] w5 w7 := h1.then HA3.out.upd (fun _ _ h => h) (fun k hk hm => by have := HE3.out.new k hm; omega)
            exact ⟨⟨i + 1, lf, ao3, cap3, _, by congr 1, rfl, by have := HLT.out; omega, hlf2, HB67.out.set 5 (.slice ao3 (i + 1) cap3), hpush.upd hstore (fun x hx => by have := HSZ.out; simp only [List.mem_cons, List.not_mem_nil, or_false] at hx; omega), h2.trans hstore⟩, by first | (simp [intOf]; done) | (simp [intOf]; omega)⟩
    · have t1 : decide ((i : Int) < c) = false := by simp; omega
      have z0 := HB6.out.cell (j := 0) rfl
      have z1 := HB6.out.cell (j := 1) rfl
      have z2 := HB6.out.cell (j := 2) rfl
      have z3 := HB6.out.cell (j := 3) rfl
      have z4 := HB6.out.cell (j := 4) rfl
      have z5 := HB6.out.cell (j := 5) rfl
      have lz := HB6.out.lt
      have hbq := (HB2.out.upd HU.out (by have := HSZ.out; simp; omega))
      have q0 := hbq.cell (j := 0) rfl
      have q1 := hbq.cell (j := 1) rfl
      have q2 := hbq.cell (j := 2) rfl
      have q3 := hbq.cell (j := 3) rfl
      have q4 := hbq.cell (j := 4) rfl
      have q5 := hbq.cell (j := 5) rfl
      have f0 := hbq.free 0
      have f1 := hbq.free 1
      have f2 := hbq.free 2
      have f3 := hbq.free 3
      have f4 := hbq.free 4
      have f5 := hbq.free 5
      have lq := hbq.lt
      clear hbq
      go_wp2_with fail
      refine bodyPost_ret (v := .agg #[.int .i64 a, .int .i64 b, .int .i64 c, .int .i64 d, .int .u64 u, .slice ao i cap]) (by simp [results, Try.results5, go_sem, q0, q1, q2, q3, q4, q5]) rfl ?_
      have hlen := HE.out.len
      have hbw : w.heap.size ≤ bq := by have := HSZ.out; omega
      have hw5 := HU5.out.size
      refine ⟨a, b, c, d, u, ao, cap, E, by rw [hlen], ?_, by omega, ⟨fun x hx => Nat.le_trans hw5 (HE.out.new x hx), fun x hx y hy => Nat.le_trans hw5 ((HE.out.sl x hx).2 y hy).2.1⟩, HUW.out.then ((((((Upd.refl [bq] wr).setCell (.inl (by simp)) _).setCell (.inl (by simp)) _).setCell (.inl (by simp)) _).setCell (.inl (by simp)) _).setCell (.inl (by simp)) _ |>.setCell (.inl (by simp)) _) (fun _ _ h => h) (fun k hk hm => by simp only [List.mem_cons, List.not_mem_nil, or_false] at hm; omega)⟩
      have hfin := HE.out.upd (S := [bq]) (w' := (((((wr.setCell ⟨bq, 0, none⟩ (.int .i64 a)).setCell ⟨bq, 1, none⟩ (.int .i64 b)).setCell ⟨bq, 2, none⟩ (.int .i64 c)).setCell ⟨bq, 3, none⟩ (.int .i64 d)).setCell ⟨bq, 4, none⟩ (.int .u64 u)).setCell ⟨bq, 5, none⟩ (.slice ao i cap)) ((((((Upd.refl [bq] wr).setCell (.inl (by simp)) _).setCell (.inl (by simp)) _).setCell (.inl (by simp)) _).setCell (.inl (by simp)) _).setCell (.inl (by simp)) _ |>.setCell (.inl (by simp)) _) (fun k hk => by have := HSZ.out; simp only [List.mem_cons, List.not_mem_nil, or_false] at hk; omega)
      rw [hlen]
      exact ⟨by rw [hlen]; exact hfin.row.sl, fun x hx => (hfin.sl x hx).1⟩
end Go.Proofs.Ytfeobcmcellcpaa
