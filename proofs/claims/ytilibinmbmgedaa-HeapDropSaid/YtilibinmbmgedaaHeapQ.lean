/-
  The library's sort at items, by the shelf's contract. No condition.
-/
import Derived.Test.YtilibinmbmgedaaHeapO
import Derived.Test.YtilibinmbmgedaaLays
namespace Go.Proofs.Ytilibinmbmgedaa
open Go.RowKit Go.Lib Go.Sort

theorem flatK_list (D : List It) : flatK itVs 2 D.toArray = (D.flatMap itVs).toArray := by
  have hl := flat_len itVs 2 itVs_len D
  apply Array.ext
  · simp [hl]
  · intro t h1 h2
    have ht : t < D.length * 2 := by simpa using h1
    have hd : t / 2 < D.length := by omega
    have hg := flat_get itVs 2 itVs_len D (t / 2) (t % 2) (by omega) _ (List.getElem?_eq_getElem hd)
    have e : t / 2 * 2 + t % 2 = t := by omega
    rw [e] at hg
    have h3 : (D.flatMap itVs)[t]? = some ((D.flatMap itVs)[t]'(by rw [hl]; exact ht)) := List.getElem?_eq_getElem _
    rw [h3] at hg
    have h4 : t % 2 < (itVs D[t / 2]).length := by rw [itVs_len]; omega
    rw [List.getElem?_eq_getElem h4, Option.some.injEq] at hg
    simp only [List.getElem_toArray]
    rw [hg]
    simp [flatK, hd, h4]

theorem row_holds {w : World} {g n cap : Nat} {D : List It} (h : Row w 37 2 g n cap (D.flatMap itVs)) : HoldsK itVs 2 w g 0 D.toArray := by
  unfold HoldsK
  rw [flatK_list]
  intro j hj
  have hj2 : j < (D.flatMap itVs).length := by simpa using hj
  refine ⟨?_, by rw [Nat.zero_add]; exact h.free j⟩
  rw [Nat.zero_add, h.cell (List.getElem?_eq_getElem hj2)]
  simp
  rw [List.getElem?_eq_getElem hj2]; rfl

theorem row_put {w : World} {g n cap : Nat} {A D : List It} (h : Row w 37 2 g n cap (A.flatMap itVs)) (hl : D.length = n) (m : Nat) (os : Array Obj) :
    Row (sortWorldK itVs 2 w g 0 m D.toArray os) 37 2 g n cap (D.flatMap itVs) ∧ Upd [g] w (sortWorldK itVs 2 w g 0 m D.toArray os) := by
  have hlt := h.lt
  obtain ⟨h1, cur, hg, h2, h3, h4, h5⟩ := h.parts
  have hfl := flat_len itVs 2 itVs_len D
  have hu1 : Upd [g] w (putRowK itVs 2 (Go.Sort.ahead w m) g 0 D.toArray) := by
    unfold putRowK
    refine ⟨rfl, rfl, rfl, by simp [Go.Sort.ahead], fun k hk hn => ?_⟩
    simp at hn
    simp [putRow, mapBlock, Go.Sort.ahead, Array.getElem?_modify]
    intro e; exact absurd e.symm hn
  have hu2 := grow_upd (putRowK itVs 2 (Go.Sort.ahead w m) g 0 D.toArray) os
  refine ⟨?_, hu1.trans hu2.nil⟩
  unfold sortWorldK
  refine Row.upd ?_ hu2 (by simp)
  have hb : (putRowK itVs 2 (Go.Sort.ahead w m) g 0 D.toArray).heap[g]? = some (.cells (putCells id 0 (flatK itVs 2 D.toArray) cur) 37 (0, 0)) := by
    unfold putRowK putRow mapBlock
    simp [Go.Sort.ahead, Array.getElem?_modify, hg, onCells]
  refine Row.mk' (by rw [hfl, hl]) hb h2 h3 (by simp [putCells, h4]) ?_
  rw [flatK_list]
  have hcn : n * 2 ≤ cap * 2 := by omega
  apply List.ext_getElem
  · simp [putCells, h4, hfl, hl]; omega
  · intro t g1 g2
    have g3 : t < D.length * 2 := by rw [← hfl]; exact g2
    simp [putCells, hfl, g3]
    done

theorem cmpLays (blk off size : Nat) (w : World) : CmpLays Try.prog 32 #[] itVs 2 cmpI blk off size w :=
  fun _ _ _ _ x y => order_grow x y _

set_option maxHeartbeats 1000000 in
theorem sort_items (g cap : Nat) (A : List It) (w : World) (h : Row w 37 2 g A.length cap (A.flatMap itVs)) (hsm : A.length ≤ 1000) :
    Calls Try.prog 31 #[.slice (some ⟨g, 0, none⟩) A.length cap, .func (.func 32) #[] #[]] w (fun e w' => e = .returned (.tuple #[]) ∧ ∃ D : List It, D.Perm A ∧ (∀ i j, i < j → j < D.length → Proofs.Ytilibinmbmgedaa.ahead (atI D j) (atI D i) = false) ∧ Row w' 37 2 g A.length cap (D.flatMap itVs) ∧ Upd [g] w w') := by
  have eg : ∀ args w, (callFunc 32 args).run Try.prog w = .ok (.enter 32 args) w := enters_of Try.func32 (by kernel_rfl) rfl
  have hcon := AnyQ.slices_SortFunc Try.laysSort 2 Try.isAgg37 Try.sizeOf37 itVs itVs_len (fun x v hv => by simp [itVs] at hv; rcases hv with rfl | rfl <;> rfl) cmpI swo_cmpI 32 #[] g 0 cap A.toArray w eg (cmpLays g 0 _ w) (row_holds h) h.lt (by simp; omega)
  change Calls Try.prog 31 _ _ _ at hcon
  refine hcon.mono ?_
  rintro e w' ⟨rfl, d', m, os, hp, hs, rfl⟩
  have hsz : d'.size = A.length := by have := hp.1; simpa using this
  have hD : d'.toList.length = A.length := by simpa using hsz
  have hput := row_put h hD m os
  refine ⟨rfl, d'.toList, ?_, ?_, hput.1, hput.2⟩
  · have := hp.2.2
    simpa [Array.extract_eq_self_of_le (Nat.le_of_eq hsz)] using this
  · intro i j hij hj
    have hj2 : j < d'.size := by simpa using hj
    have := hs i j (Nat.zero_le _) hij (by simpa [hsz] using hj2)
    rw [ltOf_cmpI] at this
    rw [atI_get _ j hj, atI_get _ i (by omega)]
    simpa [hj2, show i < d'.size by omega] using this
end Go.Proofs.Ytilibinmbmgedaa
