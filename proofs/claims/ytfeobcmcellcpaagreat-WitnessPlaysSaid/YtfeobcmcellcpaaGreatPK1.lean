/-
  Texts of this claim, joined: Ka, Kb, Kc, Kd. No condition.
-/
import Derived.Test.YtfeobcmcellcpaaGreatPN
import Derived.Test.YtfeobcmcellcpaaGreatMn
import Derived.Test.YtfeobcmcellcpaaGreatLaysE
import Derived.Shelf.SlIterI.Nil
import Derived.Shelf.SortM.Plain
import Derived.Shelf.SortM.SortNone
import Derived.Test.YtfeobcmcellcpaaGreatPOD
import Derived.Test.YtfeobcmcellcpaaGreatPDA
set_option linter.unusedVariables false
set_option linter.unusedSimpArgs false
/-! Ka -/
namespace Go.Proofs.YtfeobcmcellcpaaGreat
open Go.RowKit Go.Maps Go.Sort Go.Shelf

def litI : Lit → Int
  | .int _ a => a
  | _ => 0
def valI : Value → Int
  | .int _ a => a
  | _ => 0
def unitR : Value → Option (DataW Unit × List MemPlace) := fun _ => some (.nil, [])
theorem underlyingInt_ : Tryz.prog.underlying 3 = some (.int .i64) := by kernel_rfl
theorem imap_keys {es : List MapEntry} {M : AL} (hm : es.map (fun e => (e.key, e.val)) = M.map (fun p => (Value.int .i64 p.1, p.2))) : es.map (·.key) = M.map (fun p => Value.int .i64 p.1) := by
  have := congrArg (List.map Prod.fst) hm
  simpa [List.map_map, Function.comp_def] using this
theorem nodup_int {l : List Int} (h : l.Nodup) : (l.map (Value.int .i64)).Nodup := by
  unfold List.Nodup at *
  rw [List.pairwise_map]
  exact h.imp (fun hne e => hne (by cases e; rfl))
theorem imap_owns {w : World} {b : Nat} {M : AL} (h : IMap w b M) (hnd : (M.map (·.1)).Nodup) (hwf : ∀ p ∈ M, (Lit.int .i64 p.1).wf = true) (hlen : M.length ≤ maxLen) :
    ∃ D0 : DataW Unit, w.ownsMap Tryz.prog 3 unitR b M.length D0 ∧ (intKeys D0).Perm (M.map (·.1)) ∧ Maps.size D0 = M.length := by
  obtain ⟨es, clock, hb, hm, hs⟩ := h
  have hlen2 : es.toList.length = M.length := by have := congrArg List.length hm; simpa using this
  have hk := imap_keys hm
  have hkey : ∀ x ∈ es.toList, ∃ p ∈ M, x.key = .int .i64 p.1 := fun x hx => by
    have h1 : x.key ∈ es.toList.map (·.key) := List.mem_map_of_mem hx
    rw [hk] at h1
    obtain ⟨p, hp, e⟩ := List.mem_map.1 h1
    exact ⟨p, hp, e.symm⟩
  have hrd : ∀ x ∈ es.toList, ∃ k, x.key = .int .i64 k ∧ Go.WideElems.rd Tryz.prog 3 unitR x = some (.int .i64 k, .nil) := fun x hx => by
    obtain ⟨p, hp, e⟩ := hkey x hx
    refine ⟨p.1, e, ?_⟩
    have := keyOf_int_mk underlyingInt_ (hwf p hp)
    simp [Go.WideElems.rd, e, this, unitR]
  refine ⟨_, ⟨es, clock, hb, ⟨by simpa using (by omega : es.toList.length ≤ maxLen), ⟨hs.2, hs.1, ?_⟩, fun x hx => by obtain ⟨k, -, h2⟩ := hrd x hx; exact ⟨_, h2⟩⟩, by simpa using Nat.le_of_eq hlen2, rfl⟩, ?_, ?_⟩
  · rw [hk]
    have := nodup_int hnd
    rw [List.map_map] at this
    exact this
  · have h1 := (Go.WideShapes.sorted_perm (es.toList.map (Go.WideElems.rg Tryz.prog 3 unitR))).map (fun p : Lit × DataW Unit => litI p.1)
    have h2 : (es.toList.map (Go.WideElems.rg Tryz.prog 3 unitR)).map (fun p : Lit × DataW Unit => litI p.1) = M.map (·.1) := by
      rw [List.map_map]
      have h3 : es.toList.map ((fun p : Lit × DataW Unit => litI p.1) ∘ Go.WideElems.rg Tryz.prog 3 unitR) = (es.toList.map (·.key)).map valI := by
        rw [List.map_map]
        refine List.map_congr_left (fun x hx => ?_)
        obtain ⟨k, h4, h5⟩ := hrd x hx
        simp only [Function.comp_apply, Go.WideElems.rg_of h5, h4]
        rfl
      rw [h3, hk, List.map_map]
      refine List.map_congr_left (fun p _ => rfl)
    rw [h2] at h1
    exact h1
  · have h1 := (Go.WideShapes.sorted_perm (es.toList.map (Go.WideElems.rg Tryz.prog 3 unitR))).length_eq
    rw [List.length_map] at h1
    rw [← hlen2]
    exact h1

/-- slices.Sort's two contracts at this dump, at the fence that asks nothing. -/
theorem sorts_wide (m : Nat) : AnyZI.SortsIn Tryz.prog Tryz.laysSo_ren Fence.wide m :=
  ⟨fun blk off cap ss W hH hblk hsz => callsIn_wide.2 (AnyM.slices_Sort_int Tryz.laysSt blk off cap ss W hH hblk hsz),
   fun p cap W => callsIn_wide.2 (AnyM.slices_Sort_int_none Tryz.laysSt p cap W)⟩
def SortedTo (w : World) (L : List Int) (e : Ending) (w' : World) : Prop := ∃ ao cap, e = .returned (.slice ao L.length cap) ∧ RowO w' 3 1 ao L.length cap (L.flatMap iVs) ∧ (∀ c ∈ blkO ao, w.heap.size ≤ c) ∧ Upd [] w w'
theorem iVs_map (L : List Int) : L.flatMap iVs = L.map encZ := by
  induction L with
  | nil => rfl
  | cons x L ih => rw [List.flatMap_cons, List.map_cons, ← ih]; rfl

/-- A list that rises is what its elements are sorted. -/
theorem sorted_unique {ss L : List Int} (hp : ss.Perm L) (hr : L.Pairwise (fun a b => a < b)) : ss.mergeSort (fun x y => decide (x ≤ y)) = L := by
  have h1 := List.pairwise_mergeSort (le := fun x y : Int => decide (x ≤ y)) (fun a b c h1 h2 => by simp at *; omega) (fun a b => by simp; omega) ss
  have h2 : (ss.mergeSort (fun x y => decide (x ≤ y))).Perm L := (List.mergeSort_perm ss _).trans hp
  refine List.Perm.eq_of_pairwise (le := fun x y : Int => x ≤ y) (fun a b _ _ h1 h2 => by omega) (h1.imp (fun h => by simpa using h)) (hr.imp (fun h => by omega)) h2

set_option maxHeartbeats 1000000 in
theorem sorted_keysF {w : World} {b : Nat} {M : AL} {L : List Int} (h : IMap w b M) (hperm : (M.map (·.1)).Perm L) (hr : L.Pairwise (fun a b => a < b)) (hwf : ∀ x ∈ L, (Lit.int .i64 x).wf = true) (hlen : L.length ≤ 1000) :
    Calls Tryz.prog 83 #[.func (.func 130) #[] #[.pointer (some ⟨w.heap.size, 0, none⟩)]] (w.alloc (.cells #[.map (some b)] 158)) (SortedTo w L) := by
  have hnd : (M.map (·.1)).Nodup := hperm.nodup_iff.2 (hr.imp (fun h => by omega))
  have hml : M.length = L.length := by have := hperm.length_eq; simpa using this
  obtain ⟨D0, hown, hk, hsz⟩ := imap_owns h hnd (fun p hp => hwf p.1 (hperm.mem_iff.1 (List.mem_map_of_mem hp))) (by unfold maxLen; omega)
  have hbl := hown.lt
  have hseq : SeqGives Fence.wide 2 Tryz.prog 130 #[.pointer (some ⟨w.heap.size, 0, none⟩)] encZ (fun ss => ss.Perm (intKeys D0)) (Maps.size D0) (w.alloc (.cells #[.map (some b)] 158)) :=
    AnyZI.keys_gives (ρ := Tryz.laysKf_ren) { Tryz.laysKf with } Fence.wide _ trivial rfl (by omega) w.heap.size b M.length D0 _ (by simp) (by simp) (by
      obtain ⟨es, clock, hb, Ft, hs, hD⟩ := hown
      exact ⟨es, clock, (Below.heap_alloc _ _ b hbl).trans hb, Ft, hs, hD⟩)
  have cS := AnyZI.sorted_in Tryz.laysSo Fence.wide 5 trivial trivial trivial trivial rfl (by omega) (sorts_wide _) (enters_of Tryz.func118 (by kernel_rfl) rfl) 130 #[.pointer (some ⟨w.heap.size, 0, none⟩)] trivial (enters_of Tryz.func130 (by kernel_rfl) rfl) _ _ (by rw [hsz]; unfold maxLen; omega) (by rw [hsz]; omega) _ hseq
  have cS' := callsIn_wide.1 cS
  refine Calls.mono cS' (fun e w' hx => ?_)
  obtain ⟨v, ss, rfl, hS, hrow, hnil, hb⟩ := hx
  have hsrt : ss.mergeSort (fun x y => decide (x ≤ y)) = L := sorted_unique (hS.trans (hk.trans hperm)) hr
  have hls : ss.length = L.length := (hS.trans (hk.trans hperm)).length_eq
  have hub : Upd [] w w' := ((Upd.refl [] w).alloc _).trans (Upd.of_below hb)
  rw [hsrt, hls, ← iVs_map] at hrow
  rcases hrow.2 with ⟨rfl, h0⟩ | ⟨g, cap, cur, rfl, hg, hgb, r1, r2, r3, r4⟩
  · have hL : L = [] := List.eq_nil_of_length_eq_zero h0
    subst hL
    exact ⟨none, 0, rfl, RowO.nil _ _ _, (fun c hc => (by cases hc)), hub⟩
  · refine ⟨some ⟨g, 0, none⟩, cap, rfl, ⟨hrow.1, .inr ⟨g, cap, cur, rfl, Nat.zero_le _, hgb, r1, r2, r3, r4⟩⟩, fun c hc => ?_, hub⟩
    simp only [blkO, List.mem_cons, List.not_mem_nil, or_false] at hc
    subst hc
    simp at hg
    omega

set_option maxHeartbeats 1000000 in
theorem sorted_keysA {w : World} {b : Nat} {M : AL} {L : List Int} (h : IMap w b M) (hperm : (M.map (·.1)).Perm L) (hr : L.Pairwise (fun a b => a < b)) (hwf : ∀ x ∈ L, (Lit.int .i64 x).wf = true) (hlen : L.length ≤ 1000) :
    Calls Tryz.prog 83 #[.func (.func 119) #[] #[.pointer (some ⟨w.heap.size, 0, none⟩)]] (w.alloc (.cells #[.map (some b)] 87)) (SortedTo w L) := by
  have hnd : (M.map (·.1)).Nodup := hperm.nodup_iff.2 (hr.imp (fun h => by omega))
  have hml : M.length = L.length := by have := hperm.length_eq; simpa using this
  obtain ⟨D0, hown, hk, hsz⟩ := imap_owns h hnd (fun p hp => hwf p.1 (hperm.mem_iff.1 (List.mem_map_of_mem hp))) (by unfold maxLen; omega)
  have hbl := hown.lt
  have hseq : SeqGives Fence.wide 2 Tryz.prog 119 #[.pointer (some ⟨w.heap.size, 0, none⟩)] encZ (fun ss => ss.Perm (intKeys D0)) (Maps.size D0) (w.alloc (.cells #[.map (some b)] 87)) :=
    AnyZI.keys_gives (ρ := Tryz.laysKa_ren) { Tryz.laysKa with } Fence.wide _ trivial rfl (by omega) w.heap.size b M.length D0 _ (by simp) (by simp) (by
      obtain ⟨es, clock, hb, Ft, hs, hD⟩ := hown
      exact ⟨es, clock, (Below.heap_alloc _ _ b hbl).trans hb, Ft, hs, hD⟩)
  have cS := AnyZI.sorted_in Tryz.laysSo Fence.wide 5 trivial trivial trivial trivial rfl (by omega) (sorts_wide _) (enters_of Tryz.func118 (by kernel_rfl) rfl) 119 #[.pointer (some ⟨w.heap.size, 0, none⟩)] trivial (enters_of Tryz.func119 (by kernel_rfl) rfl) _ _ (by rw [hsz]; unfold maxLen; omega) (by rw [hsz]; omega) _ hseq
  have cS' := callsIn_wide.1 cS
  refine Calls.mono cS' (fun e w' hx => ?_)
  obtain ⟨v, ss, rfl, hS, hrow, hnil, hb⟩ := hx
  have hsrt : ss.mergeSort (fun x y => decide (x ≤ y)) = L := sorted_unique (hS.trans (hk.trans hperm)) hr
  have hls : ss.length = L.length := (hS.trans (hk.trans hperm)).length_eq
  have hub : Upd [] w w' := ((Upd.refl [] w).alloc _).trans (Upd.of_below hb)
  rw [hsrt, hls, ← iVs_map] at hrow
  rcases hrow.2 with ⟨rfl, h0⟩ | ⟨g, cap, cur, rfl, hg, hgb, r1, r2, r3, r4⟩
  · have hL : L = [] := List.eq_nil_of_length_eq_zero h0
    subst hL
    exact ⟨none, 0, rfl, RowO.nil _ _ _, (fun c hc => (by cases hc)), hub⟩
  · refine ⟨some ⟨g, 0, none⟩, cap, rfl, ⟨hrow.1, .inr ⟨g, cap, cur, rfl, Nat.zero_le _, hgb, r1, r2, r3, r4⟩⟩, fun c hc => ?_, hub⟩
    simp only [blkO, List.mem_cons, List.not_mem_nil, or_false] at hc
    subst hc
    simp at hg
    omega
end Go.Proofs.YtfeobcmcellcpaaGreat

/-! Kb -/
namespace Go.Proofs.YtfeobcmcellcpaaGreat
open Go.RowKit

/-- How many packets a flow has; -1: it is not there. -/
def lenP (F : List Fl) (id : Int) : Int := if posF F id < 0 then -1 else ((flAt F (posF F id)).L.length : Int)
def idsP (F : List Fl) : List Int := F.map (·.id)
theorem mserved_any {W w : World} {mb : Nat} {c : Cf} {m : Ms} {G : List Nat} (h : MG W mb c m G w) : Calls Tryz.prog 33 #[.pointer (some ⟨mb, 0, none⟩)] w (fun e w' => e = .returned (.int .i64 m.n) ∧ w = w') := by
  obtain ⟨sb, lb, M, GS, h, -⟩ := h
  obtain ⟨-, -, -, -, -, c7, lm⟩ := h.cells
  clear h
  go_enter Tryz.func33, Tryz.ntmps33
  go_wp2
  go_ret
  exact ⟨rfl, rfl⟩
theorem mv_any {W w : World} {mb : Nat} {c : Cf} {m : Ms} {G : List Nat} (h : MG W mb c m G w) : Calls Tryz.prog 32 #[.pointer (some ⟨mb, 0, none⟩)] w (fun e w' => e = .returned (.int .u64 m.S.v) ∧ w = w') := by
  obtain ⟨sb, lb, M, GS, h, -⟩ := h
  obtain ⟨-, -, -, c5, -, -, lm⟩ := h.cells
  have HSV : Hid (Calls Tryz.prog 65 #[.pointer (some ⟨sb, 0, none⟩)] w (fun e w' => e = .returned (.int .u64 m.S.v) ∧ w = w')) := h.s.v_
  clear h
  go_enter Tryz.func32, Tryz.ntmps32
  go_wp2_with fail
  refine HSV.out.mono ?_
  rintro e w2 ⟨rfl, rfl⟩
  go_wp2
  go_ret
  exact ⟨rfl, rfl⟩
theorem ids_wf {F : List Fl} (h : ∀ f ∈ F, 0 ≤ f.id ∧ f.id ≤ 1048576) : ∀ x ∈ idsP F, (Lit.int .i64 x).wf = true := fun x hx => by
  obtain ⟨f, hf, rfl⟩ := List.mem_map.1 hx
  have := h f hf
  have e1 : IntKind.i64.min = -9223372036854775808 := rfl
  have e2 : IntKind.i64.max = 9223372036854775807 := rfl
  simp only [Lit.wf, Bool.and_eq_true, decide_eq_true_eq]
  omega

set_option maxHeartbeats 1000000 in
theorem sflows_any {W w : World} {sb : Nat} {S : Sf} {G : List Nat} (h : PG W sb S G w) (hb : ∀ f ∈ S.F, 0 ≤ f.id ∧ f.id ≤ 1048576) (hlen : S.F.length ≤ 1000) : Calls Tryz.prog 72 #[.pointer (some ⟨sb, 0, none⟩)] w (SortedTo w (idsP S.F)) := by
  obtain ⟨fb, Z, hp, hperm, hsrt, -⟩ := h
  have c0 := hp.blk.cell (j := 0) rfl
  have lb := hp.blk.lt
  have hk : ((flM Z).map (·.1)).Perm (idsP S.F) := by
    have := hperm.map (fun f : Fl => f.id)
    rw [List.map_map] at this
    unfold flM
    rw [List.map_map]
    exact this
  have HSO : Hid (Calls Tryz.prog 83 #[.func (.func 130) #[] #[.pointer (some ⟨w.heap.size, 0, none⟩)]] (w.alloc (.cells #[.map (some fb)] 158)) (SortedTo w (idsP S.F))) := sorted_keysF hp.map hk (by unfold idsP; rw [List.pairwise_map]; exact hsrt) (ids_wf hb) (by unfold idsP; rw [List.length_map]; exact hlen)
  have HKY : Hid (Calls Tryz.prog 109 #[.map (some fb)] w (fun e w' => e = .returned (.func (.func 130) #[] #[.pointer (some ⟨w.heap.size, 0, none⟩)]) ∧ w' = w.alloc (.cells #[.map (some fb)] 158))) := callsIn_wide.1 (AnyZI.keys_in Tryz.laysKf Fence.wide 5 trivial rfl (some fb) w)
  clear hp hperm hsrt hb hlen hk
  go_enter Tryz.func72, Tryz.ntmps72
  go_wp2_with fail
  refine HKY.out.mono ?_
  rintro e w2 ⟨rfl, rfl⟩
  go_wp2_with fail
  refine HSO.out.mono ?_
  rintro e w3 ⟨ao, cap, rfl, h1, h2, h3⟩
  have HSO2 := Lib.hid (show SortedTo w (idsP S.F) (.returned (.slice ao (idsP S.F).length cap)) w3 from ⟨ao, cap, rfl, h1, h2, h3⟩)
  clear h1 h2 h3
  go_wp2_with fail
  go_ret
  exact HSO2.out
theorem mflows_any {W w : World} {mb : Nat} {c : Cf} {m : Ms} {G : List Nat} (h : MG W mb c m G w) : Calls Tryz.prog 38 #[.pointer (some ⟨mb, 0, none⟩)] w (SortedTo w (idsP m.S.F)) := by
  have hok := h.ok
  obtain ⟨sb, lb, M, GS, h, -⟩ := h
  obtain ⟨-, -, -, c5, -, -, lm⟩ := h.cells
  have HS : Hid (Calls Tryz.prog 72 #[.pointer (some ⟨sb, 0, none⟩)] w (SortedTo w (idsP m.S.F))) := sflows_any h.s hok.ids (Nat.le_trans hok.small (by decide))
  clear h hok
  go_enter Tryz.func38, Tryz.ntmps38
  go_wp2_with fail
  refine HS.out.mono ?_
  rintro e w3 ⟨ao, cap, rfl, h1, h2, h3⟩
  have HSO2 := Lib.hid (show SortedTo w (idsP m.S.F) (.returned (.slice ao (idsP m.S.F).length cap)) w3 from ⟨ao, cap, rfl, h1, h2, h3⟩)
  clear h1 h2 h3
  go_wp2_with fail
  go_ret
  exact HSO2.out
end Go.Proofs.YtfeobcmcellcpaaGreat

/-! Kc -/
namespace Go.Proofs.YtfeobcmcellcpaaGreat
open Go.RowKit

set_option maxHeartbeats 1000000 in
theorem mlen_any {W w : World} {mb : Nat} {c : Cf} {m : Ms} {G : List Nat} (h : MG W mb c m G w) (id : Int) : Calls Tryz.prog 30 #[.pointer (some ⟨mb, 0, none⟩), .int .i64 id] w (fun e w' => e = .returned (.int .i64 (lenP m.S.F id)) ∧ w = w') := by
  obtain ⟨sb, lb, M, GS, h, -⟩ := h
  obtain ⟨-, -, -, -, c6, -, lm⟩ := h.cells
  have hsrt : m.S.F.Pairwise (fun a b => a.id < b.id) := by obtain ⟨_, _, _, _, hs, _⟩ := h.s; exact hs
  have hlk := lookLen2 h.lens id
  rcases posF_cases m.S.F id with ⟨hpos, hno⟩ | ⟨i, f, hpos, hf, hid⟩
  · have hl := lenM_no h.lm hno
    have e0 : lenP m.S.F id = -1 := by unfold lenP; rw [hpos]; rfl
    rw [hl] at hlk
    rw [e0]
    have hlk2 : (Instr.lookup 119 (.map (some lb)) (.int .i64 id) true).run Tryz.prog w = .ok (.tuple #[.int .i64 0, .bool false]) w := hlk
    clear h hlk hl hno hpos hsrt e0
    go_enter Tryz.func30, Tryz.ntmps30
    go_wp2
    go_ret
    exact ⟨rfl, rfl⟩
  · have hl := lenM_look hsrt h.lm hf
    rw [hid] at hl
    have e0 : lenP m.S.F id = (f.L.length : Int) := by
      unfold lenP
      rw [hpos, if_neg (by omega)]
      unfold flAt
      simp [hf]
    rw [hl] at hlk
    rw [e0]
    obtain ⟨n, hn⟩ : ∃ y, f.L.length = y := ⟨_, rfl⟩
    rw [hn] at hlk ⊢
    have hlk2 : (Instr.lookup 119 (.map (some lb)) (.int .i64 id) true).run Tryz.prog w = .ok (.tuple #[.int .i64 n, .bool true]) w := hlk
    clear h hlk hl hf hid hpos hsrt e0 hn
    go_enter Tryz.func30, Tryz.ntmps30
    go_wp2
    go_ret
    exact ⟨rfl, rfl⟩

set_option maxHeartbeats 1000000 in
theorem dlen_any {W w : World} {mb : Nat} {c : Cf} {m : Ms} {G : List Nat} (h : DG W mb c m G w) (id : Int) : Calls Tryz.prog 31 #[.pointer (some ⟨mb, 0, none⟩), .int .i64 id] w (fun e w' => e = .returned (.int .i64 (lenP m.S.F id)) ∧ w = w') := by
  obtain ⟨sb, GS, hd, -, -⟩ := h
  obtain ⟨-, -, -, c5, -, lm⟩ := hd.cells
  have HAT : Hid (Calls Tryz.prog 64 #[.pointer (some ⟨sb, 0, none⟩), .int .i64 id] w (fun e w' => e = .returned (.int .i64 (posF m.S.F id)) ∧ w = w')) := hd.s.at_ id
  have HS := Lib.hid hd.s
  clear hd
  rcases posF_cases m.S.F id with ⟨hpos, hno⟩ | ⟨i, f, hpos, hf, hid⟩
  · have e0 : lenP m.S.F id = -1 := by unfold lenP; rw [hpos]; rfl
    rw [e0]
    rw [hpos] at HAT
    clear hno hpos e0
    go_enter Tryz.func31, Tryz.ntmps31
    go_wp2_with fail
    refine HAT.out.mono ?_
    rintro e w2 ⟨rfl, rfl⟩
    go_wp2
    go_ret
    exact ⟨rfl, rfl⟩
  · have e0 : lenP m.S.F id = (f.L.length : Int) := by
      unfold lenP
      rw [hpos, if_neg (by omega)]
      unfold flAt
      simp [hf]
    rw [e0]
    rw [hpos] at HAT
    obtain ⟨ao, cap, Z, hz, hF, -⟩ := HS.out
    obtain ⟨z0, -, -, lz⟩ := hz.cells
    obtain ⟨e, he⟩ : ∃ e, Z[i]? = some e := by
      rw [← hF, List.getElem?_map] at hf
      cases h : Z[i]? with
      | none => rw [h] at hf; cases hf
      | some e => exact ⟨e, rfl⟩
    have hef : e.f = f := by
      rw [← hF, List.getElem?_map, he] at hf
      simpa using hf
    obtain ⟨g, rfl, r0, lg, hent, hil⟩ := hz.at_ he
    obtain ⟨-, -, -, y3, -, -, ly⟩ := hent.cells
    rw [hef] at y3
    obtain ⟨n, hn⟩ : ∃ y, f.L.length = y := ⟨_, rfl⟩
    rw [hn] at y3 ⊢
    have t1 : decide ((i : Int) < 0) = false := by simp
    have b1 : (i : Int) < (Z.length : Int) := by omega
    obtain ⟨zl, hzl⟩ : ∃ y, Z.length = y := ⟨_, rfl⟩
    rw [hzl] at z0 b1 hil
    clear hz hF hf hid hpos he hef hent e0 hn hzl
    go_enter Tryz.func31, Tryz.ntmps31
    go_wp2_with fail
    refine HAT.out.mono ?_
    rintro e w2 ⟨rfl, rfl⟩
    go_wp2
    go_ret
    exact ⟨rfl, rfl⟩
end Go.Proofs.YtfeobcmcellcpaaGreat

/-! Kd -/
namespace Go.Proofs.YtfeobcmcellcpaaGreat
open Go.RowKit

def DfAt (w : World) (L : List Int) (ov iv : Value) (wr : World) : Prop := ∃ (i : Nat) (ao : Option Addr) (cap : Nat), iv = .int .i64 i ∧ ov = .slice ao i cap ∧ i ≤ L.length ∧ RowO wr 3 1 ao i cap ((L.take i).flatMap iVs) ∧ (∀ c ∈ blkO ao, w.heap.size ≤ c) ∧ Upd [] w wr
theorem df_step {w wr v3 w7 : World} {L : List Int} {i : Nat} {ao ao' : Option Addr} {cap' : Nat} {x : Int} (hx : L[i]? = some x) (hn : ∀ c ∈ blkO ao, w.heap.size ≤ c) (hU : Upd [] w wr) (hQ : Upd [] wr v3) (hA : Apped v3 3 1 ao (i + 1) ((L.take i).flatMap iVs ++ iVs x) ao' cap' w7) :
    DfAt w L (.slice ao' (i + 1) cap') (.int .i64 ((i : Int) + 1)) w7 := by
  have h1 := hU.size
  have h2 := hQ.size
  refine ⟨i + 1, ao', cap', by congr 1, rfl, (List.getElem?_eq_some_iff.1 hx).1, ?_, fun c hc => ?_, (hU.trans hQ).then hA.upd (fun _ _ h => h) (fun a ha hm => by have := hn a hm; omega)⟩
  · have := hA.row
    rw [List.take_add_one, hx, List.flatMap_append]
    simpa using this
  · rcases hA.at_ c hc with h | h
    · exact hn c h
    · omega
theorem df_bd {i n : Nat} (h : i < n) (hn : n ≤ 1000) : i + 1 ≤ maxLen ∧ (i + 1) * 8 ≤ 140737488355328 := ⟨by unfold maxLen; omega, by omega⟩

set_option maxRecDepth 100000 in
set_option maxHeartbeats 4000000 in
theorem dsflows_any {W w : World} {sb : Nat} {S : Sf} {G : List Nat} (h : SfG W sb S G w) (hlen : S.F.length ≤ 1000) : Calls Tryz.prog 39 #[.pointer (some ⟨sb, 0, none⟩)] w (SortedTo w (idsP S.F)) := by
  have HS := Lib.hid h
  obtain ⟨ao0, cap0, Z, hz, hF, -⟩ := h
  have HZ := Lib.hid hz
  have HF := Lib.hid hF
  obtain ⟨n, hn⟩ : ∃ y, Z.length = y := ⟨_, rfl⟩
  have HN := Lib.hid hn
  have HLN : Hid ((idsP S.F).length = n) := by unfold Hid idsP; rw [List.length_map, ← hF, List.length_map, hn]
  have hn1000 : n ≤ 1000 := by rw [← hF, List.length_map, hn] at hlen; exact hlen
  clear hz hF hn hlen
  go_enter Tryz.func39, Tryz.ntmps39
  go_wp2_with fail
  go_loopw [3, 4] (fun ov iv wr => DfAt w (idsP S.F) ov iv wr) (fun _ iv _ => n - (intOf iv).toNat)
  case atStart => exact ⟨0, none, 0, rfl, rfl, Nat.zero_le _, by rw [List.take_zero]; exact RowO.nil _ _ _, fun c hc => (by cases hc), Upd.refl _ _⟩
  case round =>
    obtain ⟨i, ao, cap, rfl, rfl, hi, hrow, hnew, hU⟩ := hrel
    rw [HLN.out] at hi
    have hzr := HZ.out.updS hU (by simp)
    obtain ⟨z0, -, -, lz⟩ := hzr.cells
    rw [HN.out] at z0
    have HROW := Lib.hid hrow
    have HNEW := Lib.hid hnew
    have HU := Lib.hid hU
    have HZR := Lib.hid hzr
    clear hrow hnew hU hzr
    by_cases hlt : i < n
    · have t1 : decide (i < n) = true := by simp [hlt]
      have b1 : (i : Int) < (n : Int) := by omega
      have fin : i + 1 ≤ 9223372036854775807 := by omega
      obtain ⟨e, he⟩ : ∃ e, Z[i]? = some e := ⟨_, List.getElem?_eq_getElem (by rw [HN.out]; exact hlt)⟩
      obtain ⟨g, rfl, r0, lg, hent, -⟩ := HZR.out.at_ he
      obtain ⟨y0, -, -, -, -, -, ly⟩ := hent.cells
      obtain ⟨x, hx⟩ : ∃ y, e.f.id = y := ⟨_, rfl⟩
      rw [hx] at y0
      have HX : Hid ((idsP S.F)[i]? = some x) := by unfold Hid idsP; rw [← HF.out, List.map_map, List.getElem?_map, he]; simp [hx]
      have HLT := Lib.hid hlt
      clear he hent hx
      obtain ⟨i0, hi0, hz0, hz1, hz2⟩ := info_parts infoInt_
      obtain ⟨v3, hv3⟩ : ∃ y, wr.alloc (.cells #[.int .i64 x] 3) = y := ⟨_, rfl⟩
      have q3 : Upd [] wr v3 := by rw [← hv3]; exact (Upd.refl [] wr).alloc _
      have HQ := Lib.hid q3
      have HSRC : Hid (Src v3 1 (some ⟨wr.heap.size, 0, none⟩) 1 (iVs x)) := by unfold Hid; rw [← hv3]; exact one_src wr 3 (iVs x) (iVs_one _) 1 rfl
      have HRW := Lib.hid (HROW.out.upd q3 (by simp))
      have HBD : Hid (i + 1 ≤ maxLen ∧ (i + 1) * 8 ≤ 140737488355328) := df_bd hlt hn1000
      have HMS : Hid (n - (intOf (.int .i64 ((i : Int) + 1))).toNat < n - (intOf (.int .i64 (i : Int))).toNat) := by unfold Hid; simp [intOf]; omega
      clear q3
      go_wp2_with (at_builtin; (refine wpList_app2 _ (by rfl) _ _ _ (by rfl) 3 i0 _ 1 8 underlyingInts_ hi0 hz0 hz1 hz2 rfl (by omega) ao i cap (((idsP S.F).take i).flatMap iVs) (by rfl) HRW.out (some ⟨wr.heap.size, 0, none⟩) 1 1 (iVs x) (by rfl) HSRC.out HBD.out.1 HBD.out.2 ?_); (intro ao3 cap3 w7 hA3; have HA3 := Lib.hid hA3; clear hA3))
      exact ⟨df_step HX.out HNEW.out HU.out HQ.out HA3.out, HMS.out⟩
    · have t1 : decide (i < n) = false := by simp; omega
      have hin : i = n := by omega
      subst hin
      go_wp2
      go_ret
      refine ⟨ao, cap, by rw [HLN.out]; rfl, ?_, HNEW.out, HU.out⟩
      have := HROW.out
      rw [List.take_of_length_le (by rw [HLN.out]; exact Nat.le_refl _)] at this
      rw [HLN.out]
      exact this
end Go.Proofs.YtfeobcmcellcpaaGreat
