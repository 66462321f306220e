/-
  Rows of Rets that grow; the walk of what the points of a call tell, one by one. No condition.
-/
import Derived.Test.YtmfndemnogpmcaaMk
set_option linter.unusedVariables false
set_option linter.unusedSimpArgs false
namespace Go.Proofs.Ytmfndemnogpmcaa
open Go.RowKit

/-- In which block a slice lies. -/
def lvB : Value → List Nat
  | .slice (some a) (_ + 1) _ => [a.block]
  | _ => []
theorem SlAt.lvB_lt {w : World} {size n : Nat} {v : Value} {xs : List Value} (h : SlAt w size v n xs) : ∀ c ∈ lvB v, c < w.heap.size := by
  intro c hc
  obtain ⟨ao, cap, rfl, h1, h2, h3⟩ := h
  rcases h3 with rfl | ⟨b, off, rfl, hb, -⟩
  · cases ao <;> simp [lvB] at hc
  · cases n with
    | zero => simp [lvB] at hc
    | succ n => simp [lvB] at hc; omega
theorem SlAt.updS {S : List Nat} {w w' : World} {size n : Nat} {v : Value} {xs : List Value} (h : SlAt w size v n xs) (hu : Upd S w w') (hs : ∀ c ∈ lvB v, c ∉ S) : SlAt w' size v n xs := by
  obtain ⟨ao, cap, rfl, h1, h2, h3⟩ := h
  refine ⟨ao, cap, rfl, h1, h2, ?_⟩
  rcases h3 with h3 | ⟨b, off, rfl, hb, hc⟩
  · exact .inl h3
  · cases n with
    | zero => exact .inl rfl
    | succ n => exact .inr ⟨b, off, rfl, Nat.lt_of_lt_of_le hb hu.size, fun j u hj => by rw [hu.cell hb (hs b (by simp [lvB]))]; exact hc j u hj⟩

/-- A row of Rets that has been built. -/
structure ReRow (w wr : World) (ao : Option Addr) (n cap : Nat) (E : List Re) : Prop where
  row : RowO wr 31 4 ao n cap (E.flatMap reVs)
  len : E.length = n
  new : ∀ c ∈ blkO ao, w.heap.size ≤ c
  sl : ∀ e ∈ E, SlAt wr 3 e.lv e.r.L.length (e.r.L.flatMap pkVs) ∧ ∀ c ∈ lvB e.lv, c ∉ blkO ao ∧ c < wr.heap.size
theorem ReRow.nil (w wr : World) : ReRow w wr none 0 0 [] := ⟨RowO.nil _ _ _, rfl, fun c hc => (by cases hc), fun e he => (by cases he)⟩
theorem ReRow.upd {w wr w' : World} {ao : Option Addr} {n cap : Nat} {E : List Re} (h : ReRow w wr ao n cap E) (hu : Upd [] wr w') : ReRow w w' ao n cap E :=
  ⟨h.row.upd hu (by simp), h.len, h.new, fun e he => ⟨(h.sl e he).1.upd hu, fun c hc => ⟨((h.sl e he).2 c hc).1, Nat.lt_of_lt_of_le ((h.sl e he).2 c hc).2 hu.size⟩⟩⟩
theorem ReRow.push {w wr w' : World} {ao ao' : Option Addr} {n cap cap' : Nat} {E : List Re} {e : Re} (h : ReRow w wr ao n cap E) (hU : Upd [] w wr) (hA : Apped wr 31 4 ao (n + 1) (E.flatMap reVs ++ reVs e) ao' cap' w') (he : SlAt wr 3 e.lv e.r.L.length (e.r.L.flatMap pkVs)) (hb : ∀ c ∈ lvB e.lv, c ∉ blkO ao ∧ c < wr.heap.size) :
    ReRow w w' ao' (n + 1) cap' (E ++ [e]) ∧ Upd [] w w' := by
  have hsz := hU.size
  have hkeep : ∀ v : Value, (∀ c ∈ lvB v, c ∉ blkO ao ∧ c < wr.heap.size) → ∀ c ∈ lvB v, c ∉ blkO ao' ∧ c < w'.heap.size := fun v hv c hc => by
    have := hv c hc
    have hs := hA.upd.size
    refine ⟨fun h2 => ?_, by omega⟩
    rcases hA.at_ c h2 with h3 | h3
    · exact this.1 h3
    · omega
  refine ⟨⟨by rw [List.flatMap_append]; simpa using hA.row, by rw [List.length_append, h.len]; rfl, fun c hc => ?_, fun x hx => ?_⟩, hU.then hA.upd (fun _ _ h => h) (fun i hi hm => by have := h.new i hm; omega)⟩
  · rcases hA.at_ c hc with h3 | h3
    · exact h.new c h3
    · omega
  · rcases List.mem_append.1 hx with hx | hx
    · have k := h.sl x hx
      exact ⟨k.1.updS hA.upd (fun c hc => (k.2 c hc).1), hkeep _ k.2⟩
    · simp only [List.mem_cons, List.not_mem_nil, or_false] at hx
      subst hx
      exact ⟨he.updS hA.upd (fun c hc => (hb c hc).1), hkeep _ hb⟩
theorem ReRow.at_ {w wr : World} {ao : Option Addr} {n cap : Nat} {E : List Re} (h : ReRow w wr ao n cap E) : RsAt wr (.slice ao n cap) E := ⟨by rw [h.len]; exact h.row.sl, fun e he => (h.sl e he).1⟩
theorem underlyingRets : Try.prog.underlying 82 = some (.slice 31) := by kernel_rfl
theorem infoRet : (Try.prog.info? 31).map (fun i => (i.zero, i.size, i.bytes)) = some (some (.agg #[.int .i64 0, .slice none 0 0, .int .i64 0, .int .u64 0]), 4, 48) := by kernel_rfl
theorem reVs_one {x : Re} {lo : Option Addr} {k c : Nat} (h : x.lv = .slice lo k c) : ∀ u ∈ reVs x, u.oneCell' = true := by
  intro u hu
  simp only [reVs, List.mem_cons, List.not_mem_nil, or_false, h] at hu
  rcases hu with rfl | rfl | rfl | rfl <;> rfl
def partsL (d : Dn) : List Rt := if d.c.op ≠ 5 ∨ (d.r.e ≠ 0 ∧ d.r.e ≠ 10) then [d.r] else d.r.L.map (fun p => (⟨0, [p], 0, 0⟩ : Rt)) ++ (if d.r.e = 10 then [rtE 10] else [])
def PartsTo (w : World) (d : Dn) (e : Ending) (w' : World) : Prop := ∃ v E, e = .returned v ∧ RsAt w' v E ∧ E.map (·.r) = partsL d ∧ Upd [] w w'
def PartAt (w : World) (L : List Pk) (lv iv : Value) (wr : World) : Prop := ∃ (i : Nat) (ao : Option Addr) (cap : Nat) (E : List Re), iv = .int .i64 i ∧ lv = .slice ao i cap ∧ i ≤ L.length ∧ ReRow w wr ao i cap E ∧ E.map (·.r) = (L.take i).map (fun p => (⟨0, [p], 0, 0⟩ : Rt)) ∧ Upd [] w wr

set_option maxHeartbeats 4000000 in
theorem wparts_any {w : World} (d : Dn) (hd : DneAt w d) (hlen : d.r.L.length ≤ 1099511627776) : Calls Try.prog 41 #[dnV d] w (PartsTo w d) := by
  have HD := Lib.hid hd
  obtain ⟨lo, lc, hlv, -⟩ := hd
  have hd2 := HD.out
  unfold DneAt at hd2
  rw [hlv] at hd2
  have HSL := Lib.hid hd2
  unfold dnV
  rw [hlv]
  obtain ⟨n, hn⟩ : ∃ n, d.r.L.length = n := ⟨_, rfl⟩
  have HN := Lib.hid hn
  have HLEN := Lib.hid hlen
  obtain ⟨w1, hw1⟩ : ∃ y, (w.alloc (.cells #[.int .i64 d.who, .int .i64 d.place, .int .i64 d.c.op, .int .i64 d.c.flow, .int .i64 d.c.a, .int .i64 d.c.b, .int .i64 d.r.e, .slice lo n lc, .int .i64 d.r.n, .int .u64 d.r.v, .int .i64 d.frm, .int .i64 d.til] 60)) = y := ⟨_, rfl⟩
  have u1 : Upd [] w w1 := by rw [← hw1]; exact (Upd.refl [] w).alloc _
  have b1 : Blk w1 w.heap.size 60 [.int .i64 d.who, .int .i64 d.place, .int .i64 d.c.op, .int .i64 d.c.flow, .int .i64 d.c.a, .int .i64 d.c.b, .int .i64 d.r.e, .slice lo n lc, .int .i64 d.r.n, .int .u64 d.r.v, .int .i64 d.frm, .int .i64 d.til] := by rw [← hw1]; exact Blk.new w 60 [.int .i64 d.who, .int .i64 d.place, .int .i64 d.c.op, .int .i64 d.c.flow, .int .i64 d.c.a, .int .i64 d.c.b, .int .i64 d.r.e, .slice lo n lc, .int .i64 d.r.n, .int .u64 d.r.v, .int .i64 d.frm, .int .i64 d.til]
  rw [hn]
  have HU1 := Lib.hid u1
  have HB1 := Lib.hid b1
  have x2 := b1.cell (j := 2) rfl
  have x6 := b1.cell (j := 6) rfl
  have x7 := b1.cell (j := 7) rfl
  have x8 := b1.cell (j := 8) rfl
  have x9 := b1.cell (j := 9) rfl
  have lx := b1.lt
  clear hd2 hlv u1 b1 hlen hn
  go_enter Try.func41, Try.ntmps41
  by_cases h1 : d.c.op = 5
  · have t1 : (d.c.op != 5) = false := by simp [h1]
    by_cases h2 : d.r.e = 0 ∨ d.r.e = 10
    · have HOP : Hid (partsL d = d.r.L.map (fun p => (⟨0, [p], 0, 0⟩ : Rt)) ++ (if d.r.e = 10 then [rtE 10] else [])) := by unfold Hid partsL; rw [if_neg (by omega)]
      by_cases h3 : d.r.e = 0
      · have t2 : (d.r.e != 0) = false := by simp [h3]
        have t4 : (d.r.e == 10) = false := by simp [h3]
        have HPL : Hid (partsL d = d.r.L.map (fun p => (⟨0, [p], 0, 0⟩ : Rt))) := by unfold Hid; rw [HOP.out, if_neg (by omega), List.append_nil]
        clear h1 h2 h3 HOP
        go_wp2_with fail
        clear x2 x6 x7 x8 x9 lx
        go_loopw [3, 29] (fun lv iv wr => PartAt w1 d.r.L lv iv wr) (fun _ iv _ => n - (intOf iv).toNat)
        case atStart => exact ⟨0, none, 0, [], rfl, rfl, Nat.zero_le _, ReRow.nil _ _, rfl, Upd.refl _ _⟩
        case round =>
          obtain ⟨i, ao, cap, E, rfl, rfl, hi, hrr, hmap, hU⟩ := hrel
          rw [HN.out] at hi
          have HU := Lib.hid hU
          have HRR := Lib.hid hrr
          have HMAP := Lib.hid hmap
          clear hU hrr hmap
          by_cases hlt : i < n
          · have t5 : decide (i < n) = true := by simp [hlt]
            have bi : (i : Int) < (n : Int) := by omega
            have hsl := HSL.out.upd (HU1.out.trans HU.out)
            rw [HN.out] at hsl
            obtain ⟨-, -, _, _, e1, k1⟩ := pk_at hsl
            cases e1
            obtain ⟨g, o, p, rfl, lg, hp, y0, y1, y2⟩ := k1 i hlt
            have hst : (d.r.L.take (i + 1)) = d.r.L.take i ++ [p] := by rw [List.take_add_one, hp]; rfl
            have HST := Lib.hid hst
            clear k1 hsl hp hst
            obtain ⟨i0, hi0, hz0, hz1, hz2⟩ := info_parts infoRet
            obtain ⟨v1, hv1⟩ : ∃ y, wr.alloc (.cells #[.int .i64 p.flow, .int .i64 p.len, .int .i64 p.mark] 94) = y := ⟨_, rfl⟩
            obtain ⟨v2, hv2⟩ : ∃ y, v1.alloc (.cells #[.int .i64 p.flow, .int .i64 p.len, .int .i64 p.mark] 94) = y := ⟨_, rfl⟩
            obtain ⟨v3, hv3⟩ : ∃ y, v2.alloc (.cells #[.int .i64 0, .slice (some ⟨v1.heap.size, 0, none⟩) 1 1, .int .i64 0, .int .u64 0] 31) = y := ⟨_, rfl⟩
            have q1 : Upd [] wr v1 := by rw [← hv1]; exact (Upd.refl [] wr).alloc _
            have q2 : Upd [] v1 v2 := by rw [← hv2]; exact (Upd.refl [] v1).alloc _
            have q3 : Upd [] v2 v3 := by rw [← hv3]; exact (Upd.refl [] v2).alloc _
            have b1 : Blk v1 wr.heap.size 94 [.int .i64 p.flow, .int .i64 p.len, .int .i64 p.mark] := by rw [← hv1]; exact Blk.new wr 94 [.int .i64 p.flow, .int .i64 p.len, .int .i64 p.mark]
            have b2 : Blk v2 v1.heap.size 94 [.int .i64 p.flow, .int .i64 p.len, .int .i64 p.mark] := by rw [← hv2]; exact Blk.new v1 94 [.int .i64 p.flow, .int .i64 p.len, .int .i64 p.mark]
            have HQ : Hid (Upd [] wr v3) := q1.trans (q2.trans q3)
            have HSRC : Hid (Src v3 4 (some ⟨v2.heap.size, 0, none⟩) 1 (reVs ⟨⟨0, [p], 0, 0⟩, .slice (some ⟨v1.heap.size, 0, none⟩) 1 1⟩)) := by
              unfold Hid; rw [← hv3]; exact one_src v2 31 (reVs ⟨⟨0, [p], 0, 0⟩, .slice (some ⟨v1.heap.size, 0, none⟩) 1 1⟩) (reVs_one rfl) 4 rfl
            have HE : Hid (SlAt v3 3 (.slice (some ⟨v1.heap.size, 0, none⟩) 1 1) 1 (pkVs p)) := ⟨_, _, rfl, by unfold maxLen; omega, rfl, .inr ⟨v1.heap.size, 0, rfl, by have := b2.lt; have := q3.size; omega, fun j u hj => by rw [Nat.zero_add]; exact (b2.upd q3 (by simp)).cell hj⟩⟩
            have HLT : Hid (wr.heap.size ≤ v1.heap.size ∧ v1.heap.size < v3.heap.size) := ⟨q1.size, by have := b2.lt; have := q3.size; omega⟩
            have HROW := Lib.hid (HRR.out.row.upd HQ.out (by simp))
            have HBD : Hid (i + 1 ≤ maxLen ∧ (i + 1) * 48 ≤ 140737488355328) := ⟨by unfold maxLen; have := HLEN.out; have := HN.out; omega, by have := HLEN.out; have := HN.out; omega⟩
            have z0 := b1.cell (j := 0) rfl
            have z1 := b1.cell (j := 1) rfl
            have z2 := b1.cell (j := 2) rfl
            have lz := b1.lt
            have fin : i + 1 ≤ 9223372036854775807 := by have := HLEN.out; have := HN.out; omega
            clear q1 q2 q3 b1 b2
            go_wp2_with (at_builtin; (refine wpList_app2 _ (by rfl) _ _ _ (by rfl) 31 i0 _ 4 48 underlyingRets hi0 hz0 hz1 hz2 rfl (by omega) ao i cap (E.flatMap reVs) (by rfl) HROW.out (some ⟨v2.heap.size, 0, none⟩) 1 1 (reVs ⟨⟨0, [p], 0, 0⟩, .slice (some ⟨v1.heap.size, 0, none⟩) 1 1⟩) (by rfl) HSRC.out HBD.out.1 HBD.out.2 ?_); (intro ao3 cap3 w3 hA3; have HA3 := Lib.hid hA3; clear hA3))
            have hp2 := ReRow.push (e := ⟨⟨0, [p], 0, 0⟩, .slice (some ⟨v1.heap.size, 0, none⟩) 1 1⟩) (HRR.out.upd HQ.out) (HU.out.trans HQ.out) HA3.out HE.out (fun c hc => by
              have := HLT.out
              simp only [lvB, List.mem_cons, List.not_mem_nil, or_false] at hc
              subst hc
              exact ⟨fun h => by have := HRR.out.row.lt _ h; omega, this.2⟩)
            exact ⟨⟨i + 1, ao3, cap3, _, by congr 1, rfl, by rw [HN.out]; omega, hp2.1, by rw [List.map_append, HMAP.out, HST.out, List.map_append]; rfl, hp2.2⟩, by first | (simp [intOf]; done) | (simp [intOf]; omega)⟩
          · have t5 : decide (i < n) = false := by simp; omega
            have HTK : Hid (E.map (·.r) = partsL d) := by unfold Hid; rw [HPL.out, HMAP.out, List.take_of_length_le (by rw [HN.out]; omega)]
            have hb1 := HB1.out.upd HU.out (by simp)
            have x6 := hb1.cell (j := 6) rfl
            have lx := hb1.lt
            clear hb1
            go_wp2_with fail
            go_ret
            exact ⟨_, E, rfl, HRR.out.at_, HTK.out, HU1.out.trans HU.out⟩
      · have h10 : d.r.e = 10 := by omega
        have t2 : (d.r.e != 0) = true := by simp [h3]
        have t3 : (d.r.e != 10) = false := by simp [h10]
        have t4 : (d.r.e == 10) = true := by simp [h10]
        have HPL : Hid (partsL d = d.r.L.map (fun p => (⟨0, [p], 0, 0⟩ : Rt)) ++ [rtE 10]) := by unfold Hid; rw [HOP.out, if_pos h10]
        clear h1 h2 h3 HOP h10
        go_wp2_with fail
        clear x2 x6 x7 x8 x9 lx
        go_loopw [3, 29] (fun lv iv wr => PartAt w1 d.r.L lv iv wr) (fun _ iv _ => n - (intOf iv).toNat)
        case atStart => exact ⟨0, none, 0, [], rfl, rfl, Nat.zero_le _, ReRow.nil _ _, rfl, Upd.refl _ _⟩
        case round =>
          obtain ⟨i, ao, cap, E, rfl, rfl, hi, hrr, hmap, hU⟩ := hrel
          rw [HN.out] at hi
          have HU := Lib.hid hU
          have HRR := Lib.hid hrr
          have HMAP := Lib.hid hmap
          clear hU hrr hmap
          by_cases hlt : i < n
          · have t5 : decide (i < n) = true := by simp [hlt]
            have bi : (i : Int) < (n : Int) := by omega
            have hsl := HSL.out.upd (HU1.out.trans HU.out)
            rw [HN.out] at hsl
            obtain ⟨-, -, _, _, e1, k1⟩ := pk_at hsl
            cases e1
            obtain ⟨g, o, p, rfl, lg, hp, y0, y1, y2⟩ := k1 i hlt
            have hst : (d.r.L.take (i + 1)) = d.r.L.take i ++ [p] := by rw [List.take_add_one, hp]; rfl
            have HST := Lib.hid hst
            clear k1 hsl hp hst
            obtain ⟨i0, hi0, hz0, hz1, hz2⟩ := info_parts infoRet
            obtain ⟨v1, hv1⟩ : ∃ y, wr.alloc (.cells #[.int .i64 p.flow, .int .i64 p.len, .int .i64 p.mark] 94) = y := ⟨_, rfl⟩
            obtain ⟨v2, hv2⟩ : ∃ y, v1.alloc (.cells #[.int .i64 p.flow, .int .i64 p.len, .int .i64 p.mark] 94) = y := ⟨_, rfl⟩
            obtain ⟨v3, hv3⟩ : ∃ y, v2.alloc (.cells #[.int .i64 0, .slice (some ⟨v1.heap.size, 0, none⟩) 1 1, .int .i64 0, .int .u64 0] 31) = y := ⟨_, rfl⟩
            have q1 : Upd [] wr v1 := by rw [← hv1]; exact (Upd.refl [] wr).alloc _
            have q2 : Upd [] v1 v2 := by rw [← hv2]; exact (Upd.refl [] v1).alloc _
            have q3 : Upd [] v2 v3 := by rw [← hv3]; exact (Upd.refl [] v2).alloc _
            have b1 : Blk v1 wr.heap.size 94 [.int .i64 p.flow, .int .i64 p.len, .int .i64 p.mark] := by rw [← hv1]; exact Blk.new wr 94 [.int .i64 p.flow, .int .i64 p.len, .int .i64 p.mark]
            have b2 : Blk v2 v1.heap.size 94 [.int .i64 p.flow, .int .i64 p.len, .int .i64 p.mark] := by rw [← hv2]; exact Blk.new v1 94 [.int .i64 p.flow, .int .i64 p.len, .int .i64 p.mark]
            have HQ : Hid (Upd [] wr v3) := q1.trans (q2.trans q3)
            have HSRC : Hid (Src v3 4 (some ⟨v2.heap.size, 0, none⟩) 1 (reVs ⟨⟨0, [p], 0, 0⟩, .slice (some ⟨v1.heap.size, 0, none⟩) 1 1⟩)) := by
              unfold Hid; rw [← hv3]; exact one_src v2 31 (reVs ⟨⟨0, [p], 0, 0⟩, .slice (some ⟨v1.heap.size, 0, none⟩) 1 1⟩) (reVs_one rfl) 4 rfl
            have HE : Hid (SlAt v3 3 (.slice (some ⟨v1.heap.size, 0, none⟩) 1 1) 1 (pkVs p)) := ⟨_, _, rfl, by unfold maxLen; omega, rfl, .inr ⟨v1.heap.size, 0, rfl, by have := b2.lt; have := q3.size; omega, fun j u hj => by rw [Nat.zero_add]; exact (b2.upd q3 (by simp)).cell hj⟩⟩
            have HLT : Hid (wr.heap.size ≤ v1.heap.size ∧ v1.heap.size < v3.heap.size) := ⟨q1.size, by have := b2.lt; have := q3.size; omega⟩
            have HROW := Lib.hid (HRR.out.row.upd HQ.out (by simp))
            have HBD : Hid (i + 1 ≤ maxLen ∧ (i + 1) * 48 ≤ 140737488355328) := ⟨by unfold maxLen; have := HLEN.out; have := HN.out; omega, by have := HLEN.out; have := HN.out; omega⟩
            have z0 := b1.cell (j := 0) rfl
            have z1 := b1.cell (j := 1) rfl
            have z2 := b1.cell (j := 2) rfl
            have lz := b1.lt
            have fin : i + 1 ≤ 9223372036854775807 := by have := HLEN.out; have := HN.out; omega
            clear q1 q2 q3 b1 b2
            go_wp2_with (at_builtin; (refine wpList_app2 _ (by rfl) _ _ _ (by rfl) 31 i0 _ 4 48 underlyingRets hi0 hz0 hz1 hz2 rfl (by omega) ao i cap (E.flatMap reVs) (by rfl) HROW.out (some ⟨v2.heap.size, 0, none⟩) 1 1 (reVs ⟨⟨0, [p], 0, 0⟩, .slice (some ⟨v1.heap.size, 0, none⟩) 1 1⟩) (by rfl) HSRC.out HBD.out.1 HBD.out.2 ?_); (intro ao3 cap3 w3 hA3; have HA3 := Lib.hid hA3; clear hA3))
            have hp2 := ReRow.push (e := ⟨⟨0, [p], 0, 0⟩, .slice (some ⟨v1.heap.size, 0, none⟩) 1 1⟩) (HRR.out.upd HQ.out) (HU.out.trans HQ.out) HA3.out HE.out (fun c hc => by
              have := HLT.out
              simp only [lvB, List.mem_cons, List.not_mem_nil, or_false] at hc
              subst hc
              exact ⟨fun h => by have := HRR.out.row.lt _ h; omega, this.2⟩)
            exact ⟨⟨i + 1, ao3, cap3, _, by congr 1, rfl, by rw [HN.out]; omega, hp2.1, by rw [List.map_append, HMAP.out, HST.out, List.map_append]; rfl, hp2.2⟩, by first | (simp [intOf]; done) | (simp [intOf]; omega)⟩
          · have t5 : decide (i < n) = false := by simp; omega
            have HTK : Hid (E.map (·.r) = d.r.L.map (fun p => (⟨0, [p], 0, 0⟩ : Rt))) := by unfold Hid; rw [HMAP.out, List.take_of_length_le (by rw [HN.out]; omega)]
            have hb1 := HB1.out.upd HU.out (by simp)
            have x6 := hb1.cell (j := 6) rfl
            have lx := hb1.lt
            obtain ⟨i0, hi0, hz0, hz1, hz2⟩ := info_parts infoRet
            have HROW := Lib.hid (HRR.out.row.upd ((Upd.refl [] wr).alloc (.cells #[.int .i64 10, .slice none 0 0, .int .i64 0, .int .u64 0] 31)) (by simp))
            have HSRC : Hid (Src (wr.alloc (.cells #[.int .i64 10, .slice none 0 0, .int .i64 0, .int .u64 0] 31)) 4 (some ⟨wr.heap.size, 0, none⟩) 1 (reVs ⟨rtE 10, .slice none 0 0⟩)) := one_src wr 31 (reVs ⟨rtE 10, .slice none 0 0⟩) (reVs_one rfl) 4 rfl
            have HBD : Hid (i + 1 ≤ maxLen ∧ (i + 1) * 48 ≤ 140737488355328) := ⟨by unfold maxLen; have := HLEN.out; have := HN.out; omega, by have := HLEN.out; have := HN.out; omega⟩
            clear hb1
            go_wp2_with (at_builtin; (refine wpList_app2 _ (by rfl) _ _ _ (by rfl) 31 i0 _ 4 48 underlyingRets hi0 hz0 hz1 hz2 rfl (by omega) ao i cap (E.flatMap reVs) (by rfl) HROW.out (some ⟨wr.heap.size, 0, none⟩) 1 1 (reVs ⟨rtE 10, .slice none 0 0⟩) (by rfl) HSRC.out HBD.out.1 HBD.out.2 ?_); (intro ao3 cap3 w3 hA3; have HA3 := Lib.hid hA3; clear hA3))
            go_ret
            have hp := ReRow.push (e := ⟨rtE 10, .slice none 0 0⟩) (HRR.out.upd ((Upd.refl [] wr).alloc (.cells #[.int .i64 10, .slice none 0 0, .int .i64 0, .int .u64 0] 31))) (HU.out.trans ((Upd.refl [] wr).alloc _)) HA3.out (SlAt.nil _ _) (fun c hc => by cases hc)
            exact ⟨_, _, rfl, hp.1.at_, by rw [List.map_append, HTK.out, HPL.out]; rfl, HU1.out.trans hp.2⟩
    · have t2 : (d.r.e != 0) = true := by simp; omega
      have t3 : (d.r.e != 10) = true := by simp; omega
      have HPL : Hid (partsL d = [d.r]) := by unfold Hid partsL; rw [if_pos (.inr (by omega))]
      clear h1 h2
      go_wp2_with fail
      go_ret
      exact ⟨_, [⟨d.r, .slice lo n lc⟩], rfl, ⟨⟨some ⟨w1.heap.size, 0, none⟩, 1, rfl, by simp [maxLen], rfl, .inr ⟨w1.heap.size, 0, rfl, by simp, fun j u hj => by rw [Nat.zero_add]; exact (Blk.new w1 31 [.int .i64 d.r.e, .slice lo n lc, .int .i64 d.r.n, .int .u64 d.r.v]).cell (by simpa [reVs] using hj)⟩⟩, fun x hx => by simp only [List.mem_cons, List.not_mem_nil, or_false] at hx; subst hx; have := (HSL.out.upd HU1.out).upd ((Upd.refl [] w1).alloc (.cells #[.int .i64 d.r.e, .slice lo n lc, .int .i64 d.r.n, .int .u64 d.r.v] 31)); rw [HN.out] at this; simp only [HN.out]; exact this⟩, by rw [HPL.out]; rfl, HU1.out.trans ((Upd.refl [] w1).alloc _)⟩
  · have t1 : (d.c.op != 5) = true := by simp [h1]
    have HPL : Hid (partsL d = [d.r]) := by unfold Hid partsL; rw [if_pos (.inl h1)]
    clear h1
    go_wp2_with fail
    go_ret
    exact ⟨_, [⟨d.r, .slice lo n lc⟩], rfl, ⟨⟨some ⟨w1.heap.size, 0, none⟩, 1, rfl, by simp [maxLen], rfl, .inr ⟨w1.heap.size, 0, rfl, by simp, fun j u hj => by rw [Nat.zero_add]; exact (Blk.new w1 31 [.int .i64 d.r.e, .slice lo n lc, .int .i64 d.r.n, .int .u64 d.r.v]).cell (by simpa [reVs] using hj)⟩⟩, fun x hx => by simp only [List.mem_cons, List.not_mem_nil, or_false] at hx; subst hx; have := (HSL.out.upd HU1.out).upd ((Upd.refl [] w1).alloc (.cells #[.int .i64 d.r.e, .slice lo n lc, .int .i64 d.r.n, .int .u64 d.r.v] 31)); rw [HN.out] at this; simp only [HN.out]; exact this⟩, by rw [HPL.out]; rfl, HU1.out.trans ((Upd.refl [] w1).alloc _)⟩
end Go.Proofs.Ytmfndemnogpmcaa
