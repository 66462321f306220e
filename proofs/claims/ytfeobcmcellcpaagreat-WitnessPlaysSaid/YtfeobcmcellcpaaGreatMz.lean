/-
  Arguments that are slices of points, of lists: what they hold, and how long they are at most. No condition.
-/
import Derived.Test.YtfeobcmcellcpaaGreatMw
import Derived.Test.YtfeobcmcellcpaaGreatMi
import Derived.Test.YtfeobcmcellcpaaGreatPME
import Derived.SizedLaws
set_option linter.unusedVariables false
set_option linter.unusedSimpArgs false
namespace Go.Proofs.YtfeobcmcellcpaaGreat
open Go.ChangeShapes Go.WideShapes Go.ChangeAt Go.RowKit Go.Joins Go.Deep
set_option maxRecDepth 100000 in
theorem open_points' {H : Type} {enc : TypeId × Value → H} {w : World} {r : Reach} {b0 : Nat} {v : Value} {d : DataW H} {p : List MemPlace} (hv : Value.okWide Tryz.prog w r b0 31 v) (h : DataW.Trod enc Tryz.prog w 0 (fun _ => true) true 31 v d p) : ∃ l : List Pt, PtsAt' w v l := by
  obtain ⟨ao, len, cap, rfl⟩ := okWide_slice Tryz.underlying31 hv
  obtain ⟨fuel, hf⟩ := h
  obtain ⟨v', hv', l, hl, hQ⟩ := rows_trod ptVs 7 ptVs_len (by omega) (fun x => PtOk x ∧ PtAt w x) Tryz.underlying31 (by kernel_rfl) (fun n cs x hcs hx => by
    obtain ⟨y, h1, h2, h3⟩ := point_trod Tryz.underlying59 Tryz.underlying57 (by kernel_rfl) (by kernel_rfl) (by kernel_rfl) (by kernel_rfl) (by kernel_rfl) (by kernel_rfl) (by kernel_rfl) rfl rfl rfl rfl (by kernel_rfl) (by kernel_rfl) (by kernel_rfl) (by kernel_rfl) (by kernel_rfl) (by kernel_rfl) (by kernel_rfl) rfl rfl rfl rfl Tryz.underlying48 (by kernel_rfl) (by kernel_rfl) hcs hx
    exact ⟨y, h1, h2, h3⟩) hf
  simp [Value.cells] at hv'
  subst hv'
  exact ⟨l, hl, fun x hx => (hQ x hx).2⟩

/-- A slice that was trod: its length, by its weight. -/
theorem trod_few {H : Type} {enc : TypeId × Value → H} {P : Program} {w : World} {t e : TypeId} {fuel n : Nat} {ao : Option Addr} {cap : Nat} {x : DataW H × List MemPlace} (ht : P.underlying t = some (.slice e)) (hf : DataW.trod enc P w 0 (fun _ => true) true fuel t [.slice ao n cap] = some x) (hn : 0 < n) : ∃ k, n ≤ k ∧ k * P.bytesOf e ∈ x.1.weights P t := by
  rcases open_slice ht hf with ⟨hcs, _⟩ | ⟨a, len, cap', m, k, D, Pl, hcs, _, hlc, hcm, hm, hx, hi⟩
  · simp at hcs; omega
  · simp at hcs
    obtain ⟨_, rfl, rfl⟩ := hcs
    rw [hx]
    refine ⟨((List.range n).map D).length + ((List.range (m - n)).map fun j => D (n + j)).length, by simp, ?_⟩
    simp only [DataW.weights, ht]
    exact List.mem_cons_self

set_option maxRecDepth 100000 in
theorem pts_few {H : Type} {enc : TypeId × Value → H} {w : World} {v : Value} {l : List Pt} {d : DataW H} {p : List MemPlace} {ts : List TypeId} {ds : List (DataW H)} {j : Nat} (hl : PtsAt' w v l) (h : DataW.Trod enc Tryz.prog w 0 (fun _ => true) true 31 v d p)
    (hz : (DataW.weightsEach Tryz.prog ts ds).all (· ≤ reachBytes) = true) (ht : ts[j]? = some 31) (hd : ds[j]? = some d) : l.length ≤ 1954687338268 := by
  obtain ⟨-, ao, cap, rfl, -⟩ := pts_at hl
  rcases Nat.eq_zero_or_pos l.length with h0 | h0
  · omega
  obtain ⟨fuel, hf⟩ := h
  obtain ⟨k, hk, hm⟩ := trod_few Tryz.underlying31 (fuel := fuel) hf h0
  have h1 := List.all_eq_true.1 hz _ (DataW.weights_mem_each ht hd _ hm)
  have hb : Tryz.prog.bytesOf 59 = 72 := by kernel_rfl
  rw [hb] at h1
  have h2 := of_decide_eq_true h1
  unfold reachBytes at h2
  omega
theorem lists_fewG {H : Type} {enc : TypeId × Value → H} {P : Program} {w : World} {t e : TypeId} {f0 f1 : Field} {A B C D : Int} {U : Nat} {ao : Option Addr} {n cap : Nat} {d : DataW H} {p : List MemPlace} {ts : List TypeId} {ds : List (DataW H)} {j : Nat} (hu : P.underlying t = some (.struct #[f0, f1]))
    (h10 : f1.offset = 5) (h11 : P.cellsOf f1.type = 1) (hle : P.underlying f1.type = some (.slice e)) (hbe : P.bytesOf e = 24) (h : DataW.Trod enc P w 0 (fun _ => true) true t (.agg #[.int .i64 A, .int .i64 B, .int .i64 C, .int .i64 D, .int .u64 U, .slice ao n cap]) d p)
    (hz : (DataW.weightsEach P ts ds).all (· ≤ reachBytes) = true) (ht : ts[j]? = some t) (hd : ds[j]? = some d) : n ≤ 8796093022208 := by
  rcases Nat.eq_zero_or_pos n with h0 | h0
  · omega
  obtain ⟨fuel, hf⟩ := h
  cases fuel with
  | zero => cases hf
  | succ fuel =>
    obtain ⟨xs, m, _, hx, _, hlen, hff⟩ := DataW.trod_struct hu hf
    have hs2 : xs.length = 2 := by simpa using hlen
    have g1 := (hff 1 f1 rfl).trans (List.getElem?_eq_getElem (by omega))
    rw [h10, h11] at g1
    simp only [Value.cells, List.drop_succ_cons, List.drop_zero, List.take_succ_cons, List.take_zero] at g1
    obtain ⟨k, hk, hm⟩ := trod_few hle g1 h0
    have hd2 : d = .agg (xs.map (·.1)) := congrArg Prod.fst hx
    have hw : k * P.bytesOf e ∈ d.weights P t := by
      rw [hd2]
      simp only [DataW.weights, hu]
      exact DataW.weights_mem_each (j := 1) (t := f1.type) (d := xs[1].1) rfl (by rw [List.getElem?_map, List.getElem?_eq_getElem (by omega)]; rfl) _ hm
    have h1 := List.all_eq_true.1 hz _ (DataW.weights_mem_each ht hd _ hw)
    rw [hbe] at h1
    have h2 := of_decide_eq_true h1
    unfold reachBytes at h2
    omega

set_option maxRecDepth 100000 in
theorem lists_few {H : Type} {enc : TypeId × Value → H} {w : World} {v : Value} {pl : Pl} {d : DataW H} {p : List MemPlace} {ts : List TypeId} {ds : List (DataW H)} {j : Nat} (hp : PlanAt w v pl) (h : DataW.Trod enc Tryz.prog w 0 (fun _ => true) true 29 v d p)
    (hz : (DataW.weightsEach Tryz.prog ts ds).all (· ≤ reachBytes) = true) (ht : ts[j]? = some 29) (hd : ds[j]? = some d) : pl.L.length ≤ 8796093022208 := by
  obtain ⟨lv, rfl, hL⟩ := hp
  obtain ⟨-, ao, cap, rfl, -⟩ := lists_at hL
  exact lists_fewG (e := 26) Tryz.underlying29 rfl (by kernel_rfl) (by kernel_rfl) (by kernel_rfl) h hz ht hd

set_option maxRecDepth 100000 in
theorem open_lists {H : Type} {enc : TypeId × Value → H} {w : World} {r : Reach} {b0 : Nat} {v : Value} {d : DataW H} {p : List MemPlace} (hv : Value.okWide Tryz.prog w r b0 27 v) (h : DataW.Trod enc Tryz.prog w 0 (fun _ => true) true 27 v d p) : ∃ L : List Li, ListsAt w v L := by
  obtain ⟨ao, len, cap, rfl⟩ := okWide_slice Tryz.underlying27 hv
  obtain ⟨fuel, hf⟩ := h
  obtain ⟨v', n, V, hv', hg⟩ := grid_trod (ks := [some .i64, some .i64, some .i64, some .i64]) Tryz.underlying27 Tryz.underlying26 (by kernel_rfl) (by kernel_rfl) (by kernel_rfl) (by decide) hf
  simp [Value.cells] at hv'
  subst hv'
  obtain ⟨L, _, hl, _⟩ := grid_lists hg
  exact ⟨L, hl⟩
end Go.Proofs.YtfeobcmcellcpaaGreat
