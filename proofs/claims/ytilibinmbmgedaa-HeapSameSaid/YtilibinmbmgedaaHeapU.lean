/-
  The walk of HeapSame. No condition.
-/
import Derived.Test.YtilibinmbmgedaaHeapT
import Derived.Test.YtilibinmbmgedaaHeapW
import Derived.Test.YtilibinmbmgedaaPlay
namespace Go.Proofs.Ytilibinmbmgedaa
open Go.RowKit

theorem num_cells {k : IntKind} {w : World} {v : Value} {n : Nat} {D : Nat → Nat → Int} (h : RowsAt w [k] v n D) : ∃ ao cap, v = .slice ao n cap ∧ n ≤ maxLen ∧ (n = 0 ∨ ∃ b off, ao = some ⟨b, off, none⟩ ∧ b < w.heap.size ∧
    ∀ i, i < n → w.cell? ⟨b, off + i, none⟩ = some (.int k (D i 0)) ∧ (Lit.int k (D i 0)).wf = true) := by
  obtain ⟨ao, cap, hv, hm, h | ⟨b, off, ha, hb, hc⟩⟩ := h
  · exact ⟨ao, cap, hv, hm, .inl h⟩
  · exact ⟨ao, cap, hv, hm, .inr ⟨b, off, ha, hb, fun i hi => by simpa using hc i hi 0 k rfl⟩⟩

theorem HH2.new (W w1 : World) (hb1 : Nat) (fp1 : List Nat) (h : HG W hb1 [] fp1 w1) : Calls Try.prog 7 #[] w1 (fun e w' => ∃ hb2, e = .returned (.pointer (some ⟨hb2, 0, none⟩)) ∧ HH2 W hb1 [] hb2 [] w') :=
  (heap_new w1).mono fun _ _ k => ⟨_, k.1, fp1, _, h.upd k.2.2, ⟨k.2.1, fun b hb => by have := h.2.2.size; simp at hb; omega, h.2.2.trans k.2.2⟩, fun b hb e => by have := h.1.lt b hb; simp at e; omega⟩

def SAt1 (W : World) (D : Nat → Int) (h1 h2 n : Nat) (iv : Value) (wr : World) : Prop := ∃ (i : Nat) (L : List It), iv = .int .i64 i ∧ i ≤ n ∧ HH2 W h1 L h2 [] wr ∧ In D (fun j => j < i) L ∧ L.length = i

def SAt2 (W : World) (D : Nat → Int) (h1 h2 n : Nat) (L1 : List It) (iv : Value) (wr : World) : Prop := ∃ (i : Nat) (L : List It) (P : Nat → Prop), iv = .int .i64 i ∧ i ≤ 60 ∧ HH2 W h2 L h1 L1 wr ∧ In D P L ∧ (∀ j, P j → j < n) ∧ L.length ≤ i

def SAt3 (W : World) (D : Nat → Int) (h1 h2 n : Nat) (L1 : List It) (iv : Value) (wr : World) : Prop := ∃ (i : Nat) (L : List It) (P : Nat → Prop), iv = .int .i64 ((i : Int) - 1) ∧ i ≤ n ∧ HH2 W h2 L h1 L1 wr ∧ In D P L ∧ (∀ j, P j → j < n) ∧ (∀ j, i ≤ j → j < n → P j) ∧ L.length + i ≤ 60 + n

def SAt4 (W : World) (h1 h2 n : Nat) (L : List It) (kv : Value) (wr : World) : Prop := ∃ k : Nat, kv = .int .i64 k ∧ k ≤ n + 1 ∧ HH2 W h1 (L.drop k) h2 (L.drop k) wr

theorem rem9 (d : Int) (h : (Lit.int .u64 d).wf = true) : d.tmod 9 = d % 9 := Int.tmod_eq_emod_of_nonneg (wf_u64_bd h).1


set_option maxRecDepth 100000 in
set_option maxHeartbeats 16000000 in
theorem hsame_walk (v1 : Value) (m1 : Nat) (D1 : Nat → Nat → Int) (v2 : Value) (m2 : Nat) (D2 : Nat → Nat → Int) (W : World) (hv1 : RowsAt W [.u64] v1 m1 D1) (hv2 : RowsAt W [.i64] v2 m2 D2) :
    Calls Try.prog 4 #[v1, v2] W (RetUpd [] W (.bool true)) := by
  obtain ⟨ao1, cap1, rfl, hm1, hD1⟩ := num_cells hv1
  obtain ⟨ao2, cap2, rfl, hm2, hD2⟩ := num_cells hv2
  unfold maxLen at hm1 hm2
  have HD1 := Lib.hid hD1
  have HD2 := Lib.hid hD2
  clear hD1 hv1 hD2 hv2
  obtain ⟨n, hn⟩ : ∃ n : Nat, min m1 60 = n := ⟨_, rfl⟩
  have hn1 : n ≤ m1 := by omega
  have hn60 : n ≤ 60 := by omega
  have HC : Hid ((n : Int) = min (m1 : Int) 60) := by unfold Hid; omega
  clear hn
  go_enter Try.func4, Try.ntmps4
  go_wp2_with fail
  refine (HG.new W).mono ?_
  rintro e1 w1 ⟨h1, fp0, rfl, hG, -⟩
  have HG0 := Lib.hid hG
  clear hG
  go_wp2_with fail
  refine (HH2.new W w1 h1 fp0 HG0.out).mono ?_
  rintro e w2 ⟨h2, rfl, hH⟩
  have HH := Lib.hid hH
  clear hH
  go_wp2_with fail
  refine (awake4_any w2).mono ?_
  rintro e w3 ⟨rfl, hU⟩
  have HH3 := Lib.hid (HH.out.upd hU)
  clear hU HH HG0
  go_wp2
  rw [← HC.out]
  go_loopw [8] (fun iv wr => SAt1 W (fun j => D1 j 0) h1 h2 n iv wr) (fun iv _ => n - (intOf iv).toNat)
  case atStart => exact ⟨0, [], rfl, by omega, HH3.out, (In.nil _).congr (fun j => by simp), rfl⟩
  case round =>
    clear HH3
    obtain ⟨i, L, rfl, hi, hH, hIn, hLl⟩ := hrel
    have HHr := Lib.hid hH
    have HIn := Lib.hid hIn
    have HLl := Lib.hid hLl
    clear hH hIn hLl
    by_cases hlt : i < n
    · have t1 : decide ((i : Int) < (n : Int)) = true := by simp [hlt]
      have t1' : decide (i < n) = true := by simp [hlt]
      rcases HD1.out with h0 | ⟨b, off, rfl, hb1, hcc⟩
      · omega
      obtain ⟨c0, hwf⟩ := hcc i (by omega)
      rw [← HHr.out.updW.cell hb1 (by simp)] at c0
      have b1 : (i : Int) < (m1 : Int) := by omega
      have hr9 := rem9 _ hwf
      obtain ⟨d, hd⟩ : ∃ d, D1 i 0 = d := ⟨_, rfl⟩
      rw [hd] at c0 hr9 hwf
      have hd9 := (wf_u64_bd hwf).1
      have HD := Lib.hid hd
      clear hcc hd
      go_wp2_with fail
      have hk : keyI (fun j => D1 j 0) i = (d % 9, (i : Int)) := by unfold keyI; simp only [HD.out]
      refine (HHr.out.push (d % 9, (i : Int)) (by rw [HLl.out]; omega)).mono ?_
      rintro e w4 ⟨rfl, hH4⟩
      have hno : hasI L (i : Int) = false := by
        cases hh : hasI L (i : Int) with
        | false => rfl
        | true => have := (HIn.out.has i).1 hh; omega
      have hIn4 := HIn.out.push i
      rw [hk] at hIn4
      have hl4 : (if hasI L (i : Int) = true then L else insI (d % 9, (i : Int)) L).length = i + 1 := by rw [if_neg (by rw [hno]; simp), (insI_perm _ L).length_eq]; simp [HLl.out]
      have HI4 := Lib.hid hIn4
      have HH4 := Lib.hid hH4
      have HL4 := Lib.hid hl4
      clear hIn4 hH4 hl4 hno hk
      go_wp2
      exact ⟨⟨i + 1, _, by congr 1, by omega, HH4.out, HI4.out.congr (fun j => by omega), HL4.out⟩, by first | (simp [intOf]; done) | (simp [intOf]; omega)⟩
    · have t1 : decide (i < n) = false := by simp [hlt]
      go_wp2_with fail
      have hi_n : Hid (i = n) := by unfold Hid; omega
      go_loopw [9] (fun iv wr => SAt2 W (fun j => D1 j 0) h1 h2 n L iv wr) (fun iv _ => 60 - (intOf iv).toNat)
      case atStart => exact ⟨0, [], fun _ => False, rfl, by omega, HHr.out.swap, In.nil _, fun j h => h.elim, by simp⟩
      case round =>
        clear HHr
        obtain ⟨i2, L2, P, rfl, hi2, hH, hIn, hPn, hL2⟩ := hrel
        have HH2r := Lib.hid hH
        have HIn2 := Lib.hid hIn
        have HPn := Lib.hid hPn
        have HL2 := Lib.hid hL2
        clear hH hIn hPn hL2
        by_cases hgo : i2 < m2 ∧ i2 < 60 ∧ 0 < n
        · have u1 : decide (i2 < m2) = true := by simp; omega
          have u2 : decide ((i2 : Int) < 60) = true := by simp; omega
          have u3 : decide ((0 : Int) < (n : Int)) = true := by simp; omega
          rcases HD1.out with h0 | ⟨b, off, rfl, hb1, hcc⟩
          · omega
          rcases HD2.out with h0 | ⟨b', off', rfl, hb2, hcc2⟩
          · omega
          obtain ⟨c2, _⟩ := hcc2 i2 (by omega)
          rw [← HH2r.out.updW.cell hb2 (by simp)] at c2
          have b2 : (i2 : Int) < (m2 : Int) := by omega
          have hmb := modI_bd (D2 i2 0) n (by omega) (by omega)
          go_wp2_with fail
          refine (mod_any (D2 i2 0) n (by omega) (by omega) wr).mono ?_
          rintro e w4 ⟨rfl, rfl⟩
          obtain ⟨k, hk⟩ : ∃ k : Nat, modI (D2 i2 0) n = k := ⟨(modI (D2 i2 0) n).toNat, by omega⟩
          rw [hk] at hmb ⊢
          have hkn : k < n := by omega
          obtain ⟨c0, hwf⟩ := hcc k (by omega)
          rw [← HH2r.out.updW.cell hb1 (by simp)] at c0
          have b1 : (k : Int) < (m1 : Int) := by omega
          have hr9 := rem9 _ hwf
          obtain ⟨d, hd⟩ : ∃ d, D1 k 0 = d := ⟨_, rfl⟩
          rw [hd] at c0 hr9 hwf
          have hd9 := (wf_u64_bd hwf).1
          have hky : keyI (fun j => D1 j 0) k = (d % 9, (k : Int)) := by unfold keyI; simp only [hd]
          have hIn4 := HIn2.out.push k
          rw [hky] at hIn4
          have HI4 := Lib.hid hIn4
          have HK := Lib.hid hkn
          clear hcc hcc2 hd hk hky hIn4 hmb
          go_wp2_with fail
          refine (HH2r.out.push (d % 9, (k : Int)) (by have := HL2.out; omega)).mono ?_
          rintro e w5 ⟨rfl, hH5⟩
          have HH5 := Lib.hid hH5
          have hl5 := len_push_le L2 (d % 9, (k : Int))
          have HL5 := Lib.hid hl5
          clear hH5 hl5
          go_wp2
          exact ⟨⟨i2 + 1, _, _, by congr 1, by omega, HH5.out, HI4.out, fun j hj => by rcases hj with hj | hj; exact HPn.out j hj; have := HK.out; omega, by have := HL5.out; have := HL2.out; omega⟩, by first | (simp [intOf]; done) | (simp [intOf]; omega)⟩
        · have u : Hid (decide (i2 < m2) = false ∨ (decide (i2 < m2) = true ∧ decide ((i2 : Int) < 60) = false) ∨ (decide (i2 < m2) = true ∧ decide ((i2 : Int) < 60) = true ∧ decide ((0 : Int) < (n : Int)) = false ∧ decide (0 < n) = false)) := by
            unfold Hid
            by_cases q1 : i2 < m2
            · by_cases q2 : i2 < 60
              · exact .inr (.inr ⟨by simp; omega, by simp; omega, by simp; omega, by simp; omega⟩)
              · exact .inr (.inl ⟨by simp; omega, by simp; omega⟩)
            · exact .inl (by simp; omega)
          clear hgo
          rcases u.out with u1 | ⟨u1, u2⟩ | ⟨u1, u2, u3, u4⟩
          all_goals
            go_wp2_with fail
            go_loopw [11] (fun iv wr => SAt3 W (fun j => D1 j 0) h1 h2 n L iv wr) (fun iv _ => (intOf iv + 1).toNat)
            case atStart => exact ⟨n, L2, P, rfl, by omega, HH2r.out, HIn2.out, HPn.out, fun j h1 h2 => by omega, by have := HL2.out; omega⟩
            case round =>
              clear HH2r HIn2 HPn HL2 u
              obtain ⟨i3, L3, P3, rfl, hi3, hH, hIn, hPn, hPi, hL3⟩ := hrel
              have HH3r := Lib.hid hH
              have HIn3 := Lib.hid hIn
              have HPn3 := Lib.hid hPn
              have HPi3 := Lib.hid hPi
              have HL3 := Lib.hid hL3
              clear hH hIn hPn hPi hL3
              by_cases hz : 0 < i3
              · obtain ⟨k, rfl⟩ : ∃ k, i3 = k + 1 := ⟨i3 - 1, by omega⟩
                have w1 : ((k + 1 : Nat) : Int) - 1 = (k : Int) := by omega
                rw [w1]
                rcases HD1.out with h0 | ⟨b, off, rfl, hb1, hcc⟩
                · omega
                obtain ⟨c0, hwf⟩ := hcc k (by omega)
                rw [← HH3r.out.updW.cell hb1 (by simp)] at c0
                have b1 : (k : Int) < (m1 : Int) := by omega
                have hr9 := rem9 _ hwf
                obtain ⟨d, hd⟩ : ∃ d, D1 k 0 = d := ⟨_, rfl⟩
                rw [hd] at c0 hr9 hwf
                have hd9 := (wf_u64_bd hwf).1
                have hky : keyI (fun j => D1 j 0) k = (d % 9, (k : Int)) := by unfold keyI; simp only [hd]
                have hIn4 := HIn3.out.push k
                rw [hky] at hIn4
                have HI4 := Lib.hid hIn4
                clear hcc hd hky hIn4
                go_wp2_with fail
                refine (HH3r.out.push (d % 9, (k : Int)) (by have := HL3.out; omega)).mono ?_
                rintro e w5 ⟨rfl, hH5⟩
                have HH5 := Lib.hid hH5
                have hl5 := len_push_le L3 (d % 9, (k : Int))
                have HL5 := Lib.hid hl5
                clear hH5 hl5
                go_wp2
                exact ⟨⟨k, _, _, rfl, by omega, HH5.out, HI4.out, fun j hj => by rcases hj with hj | hj; exact HPn3.out j hj; omega, fun j h1 h2 => by by_cases e : j = k; exact .inr e; exact .inl (HPi3.out j (by omega) h2), by have := HL5.out; have := HL3.out; omega⟩, by first | (simp [intOf]; done) | (simp [intOf]; omega)⟩
              · obtain rfl : i3 = 0 := by omega
                have hLL : Hid (L3 = L) := HIn3.out.eq HIn.out (fun j => ⟨fun h => by have := HPn3.out j h; have := hi_n.out; omega, fun h => HPi3.out j (by omega) (by have := hi_n.out; omega)⟩)
                have w1 : (((0 : Nat) : Int) - 1) = (-1 : Int) := by omega
                rw [w1]
                have HH5 : Hid (HH2 W h1 L h2 L wr) := by unfold Hid; have := HH3r.out; rw [hLL.out] at this; exact this.swap
                have HLn : Hid (L.length = n) := by unfold Hid; rw [HLl.out]; exact hi_n.out
                clear HH3r HIn3 HPn3 HPi3 HL3 hLL hz
                go_wp2_with fail
                refine (HH5.out.all (by have := HLn.out; omega)).mono ?_
                rintro e w6 ⟨⟨ao6, cap6, rfl, hR6, -, -⟩, hH6⟩
                rw [HLn.out] at hR6 ⊢
                have HR6 := Lib.hid hR6
                have HH6 := Lib.hid hH6
                clear hR6 hH6
                go_wp2_with fail
                refine (HH6.out.swap.all (by have := HLn.out; omega)).mono ?_
                rintro e w7 ⟨⟨ao7, cap7, rfl, hR7, -, hU7⟩, hH7⟩
                rw [HLn.out] at hR7 ⊢
                have HR7 := Lib.hid hR7
                have HH7 := Lib.hid hH7
                have HU7 := Lib.hid hU7
                clear hR7 hH7 hU7
                go_wp2_with fail
                refine (plain_any ao6 ao7 n cap6 cap7 L w7 HLn.out (by omega) (HR6.out.upd HU7.out (by simp)) HR7.out).mono ?_
                rintro e w8 ⟨rfl, hU8⟩
                have HH8 := Lib.hid (HH7.out.swap.upd hU8)
                clear hU8
                go_wp2
                go_loopw [12] (fun kv wr => SAt4 W h1 h2 n L kv wr) (fun kv _ => n + 1 - (intOf kv).toNat)
                case atStart => exact ⟨0, rfl, by omega, HH8.out⟩
                case round =>
                  clear HH8 HH7 HH6 HH5
                  obtain ⟨k, rfl, hk, hH⟩ := hrel
                  have HHk := Lib.hid hH
                  clear hH
                  by_cases hkn : k ≤ n
                  · have t1 : decide (k ≤ n) = true := by simp [hkn]
                    by_cases hlt : k < n
                    · have t2 : decide (k < n) = true := by simp [hlt]
                      obtain ⟨x, r, hxr, hr⟩ : ∃ x r, L.drop k = x :: r ∧ L.drop (k + 1) = r := by
                        have hkl : k < L.length := by rw [HLn.out]; exact hlt
                        exact ⟨_, _, List.drop_eq_getElem_cons hkl, rfl⟩
                      obtain ⟨fp1, fp2, hA, hB, hd⟩ := HHk.out
                      rw [hxr] at hA hB
                      have HA := Lib.hid hA
                      have HB := Lib.hid hB
                      have HD3 := Lib.hid hd
                      have HR := Lib.hid hr
                      clear hA hB hd hr hxr
                      go_wp2_with fail
                      refine HA.out.pop.mono ?_
                      rintro e w6 ⟨rfl, h6⟩
                      have HH6 : Hid (HH2 W h1 r h2 _ w6) := HH2.step HA.out HB.out HD3.out h6
                      obtain ⟨fp1', fp2', hA6, hB6, hd6⟩ := HH6.out
                      have hn6 : w6.heap.size ∉ fp2' := fun e => by have := hB6.1.lt _ e; omega
                      have HA6 := Lib.hid hA6
                      have HB6 := Lib.hid hB6
                      have HD6 := Lib.hid hd6
                      have hfv : (firstV (x :: r)) = .tuple #[.agg #[.int .u64 x.1, .int .i64 x.2], .bool true] := rfl
                      rw [hfv]
                      clear hA6 hB6 hd6 h6 hfv
                      go_wp2_with fail
                      refine ((HB6.out.upd ((Upd.refl [] w6).alloc (.cells #[.int .u64 x.1, .int .i64 x.2] 37))).pop).mono ?_
                      rintro e w7 ⟨rfl, h7⟩
                      have hfv : (firstV (x :: r)) = .tuple #[.agg #[.int .u64 x.1, .int .i64 x.2], .bool true] := rfl
                      rw [hfv]
                      have hBx := (Blk.new w6 37 [.int .u64 x.1, .int .i64 x.2]).upd h7.up hn6
                      have a0 := hBx.cell (j := 0) rfl
                      have a1 := hBx.cell (j := 1) rfl
                      have lax := hBx.lt
                      have HH7 : Hid (HH2 W h1 r h2 r w7) := (HH2.step (HB6.out.upd ((Upd.refl [] w6).alloc _)) (HA6.out.upd ((Upd.refl [] w6).alloc _)) (fun x h2 h1 => HD6.out x h1 h2) h7).swap
                      clear h7 hBx hfv
                      go_wp2
                      exact ⟨⟨k + 1, by congr 1, by omega, by rw [HR.out]; exact HH7.out.upd ((Upd.refl [] _).alloc _)⟩, by first | (simp [intOf]; done) | (simp [intOf]; omega)⟩
                    · have t2 : decide (k < n) = false := by simp [hlt]
                      have hxr : L.drop k = [] := List.drop_eq_nil_of_le (by have := HLn.out; omega)
                      have hr : L.drop (k + 1) = [] := List.drop_eq_nil_of_le (by have := HLn.out; omega)
                      obtain ⟨fp1, fp2, hA, hB, hd⟩ := HHk.out
                      rw [hxr] at hA hB
                      have HA := Lib.hid hA
                      have HB := Lib.hid hB
                      have HD3 := Lib.hid hd
                      have HR := Lib.hid hr
                      clear hA hB hd hr hxr
                      go_wp2_with fail
                      refine HA.out.pop.mono ?_
                      rintro e w6 ⟨rfl, h6⟩
                      have HH6 : Hid (HH2 W h1 [] h2 _ w6) := HH2.step HA.out HB.out HD3.out h6
                      obtain ⟨fp1', fp2', hA6, hB6, hd6⟩ := HH6.out
                      have hn6 : w6.heap.size ∉ fp2' := fun e => by have := hB6.1.lt _ e; omega
                      have HA6 := Lib.hid hA6
                      have HB6 := Lib.hid hB6
                      have HD6 := Lib.hid hd6
                      have hfv : (firstV []) = .tuple #[.agg #[.int .u64 zIt.1, .int .i64 zIt.2], .bool false] := rfl
                      rw [hfv]
                      clear hA6 hB6 hd6 h6 hfv
                      go_wp2_with fail
                      refine ((HB6.out.upd ((Upd.refl [] w6).alloc (.cells #[.int .u64 zIt.1, .int .i64 zIt.2] 37))).pop).mono ?_
                      rintro e w7 ⟨rfl, h7⟩
                      have hfv : (firstV []) = .tuple #[.agg #[.int .u64 zIt.1, .int .i64 zIt.2], .bool false] := rfl
                      rw [hfv]
                      have hBx := (Blk.new w6 37 [.int .u64 zIt.1, .int .i64 zIt.2]).upd h7.up hn6
                      have a0 := hBx.cell (j := 0) rfl
                      have a1 := hBx.cell (j := 1) rfl
                      have lax := hBx.lt
                      have HH7 : Hid (HH2 W h1 [] h2 [] w7) := (HH2.step (HB6.out.upd ((Upd.refl [] w6).alloc _)) (HA6.out.upd ((Upd.refl [] w6).alloc _)) (fun x h2 h1 => HD6.out x h1 h2) h7).swap
                      clear h7 hBx hfv
                      go_wp2
                      exact ⟨⟨k + 1, by congr 1, by omega, by rw [HR.out]; exact HH7.out.upd ((Upd.refl [] _).alloc _)⟩, by first | (simp [intOf]; done) | (simp [intOf]; omega)⟩
                  · have t1 : decide (k ≤ n) = false := by simp [hkn]
                    go_wp2
                    go_ret
                    exact ⟨rfl, HHk.out.updW⟩
end Go.Proofs.Ytilibinmbmgedaa
