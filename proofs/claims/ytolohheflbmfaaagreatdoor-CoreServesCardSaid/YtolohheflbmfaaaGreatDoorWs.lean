/-
  bits.All: the walk. Condition: where a table of the library's lies.
-/
import Derived.Test.YtolohheflbmfaaaGreatDoorPX
import Derived.Test.YtolohheflbmfaaaGreatDoorPI
set_option linter.unusedVariables false
set_option linter.unusedSimpArgs false
namespace Go.Proofs.YtolohheflbmfaaaGreatDoor
open Go.RowKit

theorem infoInt5 : (Tryz.prog.info? 3).map (fun i => (i.zero, i.size, i.bytes)) = some (some (.int .i64 0), 1, 8) := by kernel_rfl
theorem underlyingInts5 : Tryz.prog.underlying 89 = some (.slice 3) := by kernel_rfl


/-- The bits that are set below k, rising. -/
def bitsB (x k : Nat) : List Nat := (List.range k).filter (fun j => x.testBit j)
theorem bitsB_skip {x k m : Nat} (h : k ≤ m) (hz : ∀ j, k ≤ j → j < m → x.testBit j = false) : bitsB x m = bitsB x k := by
  induction h with
  | refl => rfl
  | step h ih =>
    rename_i n
    have h1 := ih (fun j a b => hz j a (by omega))
    unfold bitsB at *
    rw [List.range_succ, List.filter_append, h1]
    simp [hz n h (by omega)]
theorem bitsB_succ {x k : Nat} (h : x.testBit k = true) : bitsB x (k + 1) = bitsB x k ++ [k] := by
  unfold bitsB
  rw [List.range_succ, List.filter_append]
  simp [h]
theorem bitsB_len (x k : Nat) : (bitsB x k).length ≤ k := by
  unfold bitsB
  have := List.length_filter_le (fun j => x.testBit j) (List.range k)
  simpa using this
theorem bitsB_mem {x k j : Nat} : j ∈ bitsB x k ↔ j < k ∧ x.testBit j = true := by
  unfold bitsB; rw [List.mem_filter, List.mem_range]
def nVs (l : List Nat) : List Value := l.map (fun j : Nat => Value.int .i64 (j : Int))
theorem nVs_len (l : List Nat) : (nVs l).length = l.length := by simp [nVs]

def nxtK (x k : Nat) : Int := if 64 ≤ k then -1 else nxtB x k
theorem next_k (x k : Nat) (n : Int) (hn : n = k) (hx : x < 18446744073709551616) (w : World) (hT : TabAt 0 Lib.deBruijn64tab w) : Calls Tryz.prog 128 #[.int .u64 x, .int .i64 n] w (fun e w' => e = .returned (.int .i64 (nxtK x k)) ∧ w = w') := by
  subst hn
  unfold nxtK
  by_cases h : 64 ≤ k
  · rw [if_pos h]; exact next_out x k (by omega) w
  · rw [if_neg h]; exact next_any x k hx (by omega) w hT
theorem nxtK_cases {x k : Nat} (hx : x < 18446744073709551616) (hk : k ≤ 64) : (nxtK x k = -1 ∧ bitsB x 64 = bitsB x k) ∨ ∃ j : Nat, nxtK x k = j ∧ j < 64 ∧ k ≤ j ∧ bitsB x (j + 1) = bitsB x k ++ [j] := by
  unfold nxtK
  by_cases h : 64 ≤ k
  · obtain rfl : k = 64 := by omega
    exact .inl ⟨if_pos h, rfl⟩
  · rw [if_neg h]
    rcases nxtB_cases x k with h1 | ⟨j, h1⟩
    · exact .inl ⟨h1, bitsB_skip hk (fun j a _ => (nxtB_none hx).1 h1 j a)⟩
    · obtain ⟨a, b, c, d⟩ := nxtB_some hx h1
      exact .inr ⟨j, h1, c, b, by rw [bitsB_succ a, bitsB_skip b d]⟩

theorem one_news (w : World) (ty : TypeId) (v : Value) : ∀ t u, [v][t]? = some u → (w.alloc (.cells #[v] ty)).cell? ((⟨w.heap.size, 0, none⟩ : Addr).add t) = some u := by
  intro t u hu
  cases t with
  | zero =>
    simp at hu
    subst hu
    rw [add_none]
    exact (Blk.new w ty [v]).cell (j := 0) rfl
  | succ t => simp at hu
def bitsM (iv : Value) : Nat := if intOf iv < 0 then 0 else 64 - (intOf iv).toNat
theorem bitsM_at (j : Nat) : bitsM (.int .i64 (j : Int)) = 64 - j := by
  unfold bitsM
  have h : ¬ intOf (.int .i64 (j : Int)) < 0 := by show ¬ (j : Int) < 0; omega
  rw [if_neg h]
  show 64 - (j : Int).toNat = 64 - j
  omega
theorem bitsM_lt {x j : Nat} (hx : x < 18446744073709551616) (hj : j < 64) : bitsM (.int .i64 (nxtK x (j + 1))) < bitsM (.int .i64 (j : Int)) := by
  rw [bitsM_at]
  rcases nxtK_cases (x := x) (k := j + 1) hx (by omega) with ⟨h, _⟩ | ⟨i, h, h1, h2, _⟩
  · rw [h]; unfold bitsM; simp [intOf]; omega
  · rw [h]
    rw [bitsM_at]; omega
def BitsAt (W : World) (x : Nat) (lv iv : Value) (wr : World) : Prop :=
  ∃ (k : Nat) (ao : Option Addr) (cap : Nat), k ≤ 64 ∧ iv = .int .i64 (nxtK x k) ∧ lv = .slice ao (bitsB x k).length cap ∧ RowO wr 3 1 ao (bitsB x k).length cap (nVs (bitsB x k)) ∧ (∀ c ∈ blkO ao, W.heap.size ≤ c) ∧ Upd [] W wr
def BitsTo (x : Nat) (w : World) (e : Ending) (w' : World) : Prop :=
  ∃ ao cap, e = .returned (.slice ao (bitsB x 64).length cap) ∧ RowO w' 3 1 ao (bitsB x 64).length cap (nVs (bitsB x 64)) ∧ (∀ c ∈ blkO ao, w.heap.size ≤ c) ∧ Upd [] w w'

theorem bits_round {W wr w2 : World} {x k j : Nat} {ao ao' : Option Addr} {cap' n : Nat} (hj : bitsB x (j + 1) = bitsB x k ++ [j]) (hj64 : j < 64) (hn : (bitsB x k).length = n) (hf : ∀ c ∈ blkO ao, W.heap.size ≤ c) (hU : Upd [] W wr)
    (hA : Apped (wr.alloc (.cells #[.int .i64 j] 3)) 3 1 ao (n + 1) (nVs (bitsB x k) ++ [.int .i64 j]) ao' cap' w2) : BitsAt W x (.slice ao' (n + 1) cap') (.int .i64 (nxtK x (j + 1))) w2 := by
  have hs := hU.size
  have hs2 : (wr.alloc (.cells #[.int .i64 (j : Int)] 3)).heap.size = wr.heap.size + 1 := by simp
  refine ⟨j + 1, ao', cap', by omega, rfl, ?_, ?_, fun c hc => ?_, ?_⟩
  · rw [hj, List.length_append, hn]; rfl
  · rw [hj, List.length_append, hn]
    have := hA.row
    unfold nVs at this ⊢
    rw [List.map_append]
    exact this
  · rcases hA.at_ c hc with h | h
    · exact hf c h
    · omega
  · exact (hU.alloc _).then hA.upd (fun _ _ h => h) (fun i hi hm => by have := hf i hm; omega)


set_option maxRecDepth 100000 in
set_option maxHeartbeats 4000000 in
theorem bits_all (x : Nat) (hx : x < 18446744073709551616) (w : World) (hT : TabAt 0 Lib.deBruijn64tab w) : Calls Tryz.prog 110 #[.int .u64 x] w (BitsTo x w) := by
  obtain ⟨i0, hi0, hz0, hz1, hz2⟩ := info_parts infoInt5
  have HT := Lib.hid hT
  have HN := Lib.hid (fun (k : Nat) (n : Int) (hn : n = (k : Int)) (w : World) (hT : TabAt 0 Lib.deBruijn64tab w) => next_k x k n hn hx w hT)
  have HX := Lib.hid hx
  clear hT hx
  go_enter Tryz.func110, Tryz.ntmps110
  go_wp2_with fail
  refine (HN.out 0 _ rfl w HT.out).mono ?_
  rintro e w1 ⟨rfl, rfl⟩
  go_wp2_with fail
  go_loopw [3, 4] (fun lv iv wr => BitsAt w x lv iv wr) (fun _ iv _ => bitsM iv)
  case atStart => exact ⟨0, none, 0, by omega, rfl, rfl, RowO.nil _ _ _, fun c hc => (by cases hc), Upd.refl _ _⟩
  case round =>
    obtain ⟨k, ao, cap, hk, rfl, rfl, hR, hf, hU⟩ := hrel
    have HR := Lib.hid hR
    have HF := Lib.hid hf
    have HU := Lib.hid hU
    have hlen := bitsB_len x k
    obtain ⟨n, hn⟩ : ∃ n, (bitsB x k).length = n := ⟨_, rfl⟩
    rw [hn] at hlen ⊢
    have HNN := Lib.hid hn
    have hnx := nxtK_cases HX.out hk
    obtain ⟨i, hi⟩ : ∃ i, nxtK x k = i := ⟨_, rfl⟩
    rw [hi] at hnx ⊢
    clear hR hf hU hn hi
    rcases hnx with ⟨rfl, hend⟩ | ⟨j, rfl, hj, hkj, hsu⟩
    · have HE := Lib.hid hend
      clear hend
      go_wp2
      go_ret
      refine ⟨ao, cap, by rw [HE.out, HNN.out]; rfl, by rw [HE.out]; exact HR.out, HF.out, HU.out⟩
    · have t1 : decide ((0 : Int) ≤ (j : Int)) = true := by simp
      have HS := Lib.hid hsu
      have b1 : (j : Int) < 64 := by omega
      clear hsu
      have HRn : Hid (RowO wr 3 1 ao n cap (nVs (bitsB x k))) := by unfold Hid; rw [← HNN.out]; exact HR.out
      have hR2 := (HRn.out.upd ((Upd.refl [] wr).alloc (.cells #[.int .i64 (j : Int)] 3)) (by simp))
      have hn2 := one_news wr 3 (.int .i64 (j : Int))
      have HR2 := Lib.hid hR2
      have HN2 := Lib.hid hn2
      clear hR2 hn2
      have HG6 : Hid (∀ u ∈ [Value.int .i64 (j : Int)], u.oneCell' = true) := by unfold Hid; simp [Value.oneCell']
      have HG7 : Hid (n + 1 ≤ maxLen) := by unfold Hid maxLen; omega
      have HG8 : Hid ((n + 1) * 8 ≤ 140737488355328) := by unfold Hid; omega
      go_wp2_with (at_builtin; (refine wpList_app _ rfl _ _ _ rfl 3 i0 _ 1 8 underlyingInts5 hi0 hz0 hz1 hz2 rfl Nat.one_pos ao n cap (nVs (bitsB x k)) rfl HR2.out ⟨wr.heap.size, 0, none⟩ 1 1 [Value.int IntKind.i64 (j : Int)] rfl rfl HN2.out HG6.out HG7.out HG8.out ?_); (intro ao1 cap1 w3 hA; have HA := Lib.hid hA; clear hA))
      have HB := Lib.hid (bits_round HS.out hj HNN.out HF.out HU.out HA.out)
      have HT3 : Hid (TabAt 0 Lib.deBruijn64tab w3) := by
        obtain ⟨_, _, _, _, _, _, _, _, hU⟩ := HB.out
        exact tab_upd HT.out hU
      go_wp2_with fail
      refine (HN.out (j + 1) _ (by omega) w3 HT3.out).mono ?_
      rintro e w4 ⟨rfl, rfl⟩
      go_wp2
      exact ⟨HB.out, bitsM_lt HX.out hj⟩
end Go.Proofs.YtolohheflbmfaaaGreatDoor
