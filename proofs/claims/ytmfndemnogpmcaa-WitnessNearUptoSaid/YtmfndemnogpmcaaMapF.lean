/-
  A map's entry, there or not yet, and a store into it. No condition.
-/
import Derived.Test.YtmfndemnogpmcaaPB
set_option linter.unusedVariables false
set_option linter.unusedSimpArgs false
namespace Go.Proofs.Ytmfndemnogpmcaa
open Go.RowKit

theorem idx_snoc {k : Int} {v : Value} : ∀ (M : AL) (i0 : Nat), idxM M k i0 = none → idxM (M ++ [(k, v)]) k i0 = some (i0 + M.length, v)
  | [], i0, _ => by simp [idxM]
  | (a, u) :: M, i0, h => by
    simp only [List.cons_append, idxM] at h ⊢
    split at h
    · cases h
    · rename_i hn
      rw [if_neg hn, idx_snoc M (i0 + 1) h]
      simp only [List.length_cons]
      congr 2; omega
section
variable {P : Program} {w : World} {b : Nat} {M : AL} {T K E : TypeId}
theorem MapTo.refl (h : IMap w b M) : MapTo w b M w := ⟨h, Upd.refl _ _, rfl, fun _ => rfl, fun _ => rfl⟩
theorem IMap.entry (h : IMap w b M) (hT : P.underlying T = some (.map K E)) (hk : P.underlying K = some (.int .i64)) {z : Value} (hz : ∀ w, (zeroValue E).run P w = .ok z w) (k : Int) :
    ∃ (s : Nat) (w' : World) (v : Value) (M' : AL), (Instr.mapEntry T (.map (some b)) (.int .i64 k)).run P w = .ok (.tuple #[v, .int .i64 s]) w' ∧ MapTo w b M' w' ∧ HasEnt w' b k s ∧ ∀ u j, lookM (putM M' k u) j = if j = k then some u else lookM M j := by
  have h0 := h
  obtain ⟨es, clock, hb, hM, hS⟩ := h
  have hg : (getObj b).run P w = .ok (.map es clock) w := by simp [getObj, Sem.run, hb]
  have hss : ∀ o, (setObj b o).run P w = .ok () (setObjW w b o) := fun o => by simp [setObj, Sem.run, hb, setObjW]
  have hlen : es.toList.length = M.length := by simpa using congrArg List.length hM
  cases hi : idxM M k 0 with
  | none =>
    have hto : MapTo w b (putM M k z) (setObjW w b (.map (es.push { key := .int .i64 k, val := z, born := clock }) (clock + 1))) :=
      h0.to _ _ (by rw [push_eq k M 0 z hi]; simp [hM]) (by rw [Array.toList_push]; exact hS.push _)
    refine ⟨clock, _, z, putM M k z, ?_, hto, ?_, fun u j => ?_⟩
    · simp [Instr.mapEntry, run_underlying hT, hg, run_checkKey_int hk, run_findKey_int hk hM, hi, hss, hz, goInt]
    · refine ⟨es.push { key := .int .i64 k, val := z, born := clock }, clock + 1, putM M k z, M.length, z, setObjW_at h0.lt _, by rw [push_eq k M 0 z hi]; simp [hM], by rw [Array.toList_push]; exact hS.push _, by rw [push_eq k M 0 z hi, idx_snoc M 0 hi, Nat.zero_add], ?_⟩
      rw [Array.toList_push, List.getElem?_append_right (by omega), hlen, Nat.sub_self]; rfl
    · rw [lookM_put, lookM_put]; split <;> rfl
  | some p =>
    obtain ⟨i, x⟩ := p
    obtain ⟨_, e, he, _, _⟩ := idx_get hM hi
    rw [Nat.sub_zero] at he
    have hE : HasEnt w b k e.born := ⟨es, clock, M, i, x, hb, hM, hS, hi, by rw [he]; rfl⟩
    exact ⟨e.born, w, _, M, hE.entry hT hk, MapTo.refl h0, hE, fun u j => lookM_put M k j u⟩
end
end Go.Proofs.Ytmfndemnogpmcaa
