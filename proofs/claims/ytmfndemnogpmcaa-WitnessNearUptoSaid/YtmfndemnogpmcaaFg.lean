/-
  The document's Sfq: Add. No condition.
-/
import Derived.Test.YtmfndemnogpmcaaFf
set_option linter.unusedVariables false
set_option linter.unusedSimpArgs false
namespace Go.Proofs.Ytmfndemnogpmcaa
open Go.RowKit

theorem entVs_len (e : Ent) : ([entV e] : List Value).length = 1 := rfl
theorem entVs_one (e : Ent) : ∀ u ∈ ([entV e] : List Value), u.oneCell' = true := by
  intro u hu; simp only [List.mem_cons, List.not_mem_nil, or_false] at hu; rw [hu]; rfl
theorem entVs_map (Z : List Ent) : Z.map entV = Z.flatMap (fun e => [entV e]) := by
  induction Z with
  | nil => rfl
  | cons e Z ih => rw [List.map_cons, List.flatMap_cons, ih]; rfl
theorem underlyingFlows : Try.prog.underlying 87 = some (.slice 115) := by kernel_rfl
theorem infoFlowP : (Try.prog.info? 115).map (fun i => (i.zero, i.size, i.bytes)) = some (some (.pointer none), 1, 8) := by kernel_rfl
def insZ (Z : List Ent) (k : Nat) (e : Ent) : List Ent := Z.take k ++ e :: Z.drop k
theorem mem_insZ {Z : List Ent} {k : Nat} {e x : Ent} (h : x ∈ insZ Z k e) : x = e ∨ x ∈ Z := by
  unfold insZ at h
  rcases List.mem_append.1 h with h | h
  · exact .inr (List.mem_of_mem_take h)
  · rcases List.mem_cons.1 h with h | h
    · exact .inl h
    · exact .inr (List.mem_of_mem_drop h)
theorem insZ_len {Z : List Ent} {k : Nat} (e : Ent) (hk : k ≤ Z.length) : (insZ Z k e).length = Z.length + 1 := by
  unfold insZ; rw [List.length_append, List.length_cons, List.length_take, List.length_drop]; omega
theorem insZ_pair {R : Ent → Ent → Prop} {Z : List Ent} {k : Nat} {e : Ent} (h : Z.Pairwise R) (h1 : ∀ x ∈ Z.take k, R x e) (h2 : ∀ x ∈ Z.drop k, R e x) : (insZ Z k e).Pairwise R := by
  rw [← List.take_append_drop k Z, List.pairwise_append] at h
  unfold insZ
  rw [List.pairwise_append, List.pairwise_cons]
  refine ⟨h.1, ⟨h2, h.2.1⟩, fun a ha b hb => ?_⟩
  rcases List.mem_cons.1 hb with rfl | hb
  · exact h1 a ha
  · exact h.2.2 a ha b hb
section
variable {W w w6 w7 : World} {sb : Nat} {ao : Option Addr} {cap : Nat} {Z : List Ent} {v most : Nat}
theorem SfAt.ins {k n' : Nat} {e : Ent} {ao' : Option Addr} {cap' : Nat} (h : SfAt W w sb ao cap Z v most) (hk : k ≤ Z.length) (hU : Upd [] w w6) (hE : EntAt w6 e) (hnew : ∀ c ∈ entB e, w.heap.size ≤ c)
    (hrow : RowO w6 115 1 ao' n' cap' ((insZ Z k e).map entV)) (hn : n' = Z.length + 1) (hao : ∀ c ∈ blkO ao', w.heap.size ≤ c) (hdis : ∀ c ∈ entB e, c ∉ blkO ao')
    (hlo : ∀ x ∈ Z.take k, x.f.id < e.f.id) (hhi : ∀ x ∈ Z.drop k, e.f.id < x.f.id) (hsm : Z.length < 1000) (h7 : Upd [] (w6.setCell ⟨sb, 0, none⟩ (.slice ao' n' cap')) w7) :
    SfAt W w7 sb ao' cap' (insZ Z k e) v most ∧ Fr (sfB sb ao Z) (sfB sb ao' (insZ Z k e)) w w7 := by
  have hW : W.heap.size ≤ w.heap.size := by have := h.new sb (by simp); have := h.blk.lt; omega
  have hsw := h.blk.lt
  have u1 : Upd [sb] w6 (w6.setCell ⟨sb, 0, none⟩ (.slice ao' n' cap')) := (Upd.refl [sb] w6).setCell (.inl (by simp)) _
  have u2 : Upd [sb] w6 w7 := u1.trans h7.nil
  have hlen := insZ_len e hk
  have notsb : ∀ c, w.heap.size ≤ c → c ∉ [sb] := fun c hc e2 => by simp only [List.mem_cons, List.not_mem_nil, or_false] at e2; omega
  refine ⟨{ h with
    blk := by
      rw [hlen, ← hn]
      exact ((h.blk.upd hU (by simp)).set 0 (.slice ao' n' cap')).upd h7 (by simp)
    row := by rw [hlen, ← hn]; exact hrow.upd u2 (fun c hc => notsb c (hao c hc))
    ents := fun x hx => by
      rcases mem_insZ hx with rfl | hx
      · exact hE.upd u2 (fun c hc => notsb c (hnew c hc))
      · exact ((h.ents x hx).upd hU (by simp)).upd u2 (fun c hc e2 => by simp only [List.mem_cons, List.not_mem_nil, or_false] at e2; exact (h.own x hx c hc).1 e2)
    dis := insZ_pair h.dis (fun x hx c hc hc2 => by have := (h.ents x (List.mem_of_mem_take hx)).lt c hc; have := hnew c hc2; omega) (fun x hx c hc hc2 => by have := (h.ents x (List.mem_of_mem_drop hx)).lt c hc2; have := hnew c hc; omega)
    own := fun x hx c hc => by
      rcases mem_insZ hx with rfl | hx
      · exact ⟨fun e2 => by have := hnew c hc; omega, hdis c hc⟩
      · exact ⟨(h.own x hx c hc).1, fun e2 => by have := (h.ents x hx).lt c hc; have := hao c e2; omega⟩
    d := fun hc => by have := hao sb hc; omega
    new := fun c hc => by
      rcases List.mem_cons.1 hc with rfl | hc
      · exact h.new _ (by simp)
      · have := hao c hc; omega
    newE := fun x hx c hc => by
      rcases mem_insZ hx with rfl | hx
      · have := hnew c hc; omega
      · exact h.newE x hx c hc
    srt := insZ_pair h.srt hlo hhi
    small := by rw [hlen]; omega }, fun c hc => ?_, hU.nil.trans (u2.mono (fun c _ hc => by simp only [List.mem_cons, List.not_mem_nil, or_false] at hc; subst hc; simp [sfB]))⟩
  simp only [sfB, List.mem_cons, List.mem_append, List.mem_flatMap] at hc
  rcases hc with rfl | hc | ⟨x, hx, hc⟩
  · left; simp [sfB]
  · right; exact hao c hc
  · rcases mem_insZ hx with rfl | hx
    · right; exact hnew c hc
    · left; exact sfB_ent hx hc
end
def insF (F : List Fl) (f : Fl) : List Fl := F.filter (fun g => decide (g.id < f.id)) ++ f :: F.filter (fun g => decide (f.id < g.id))
def addSf (S : Sf) (id : Int) (r : Nat) (most : Int) : Sf := if posF S.F id < 0 then { S with F := insF S.F (flNew id r most) } else S
theorem insF_at {F : List Fl} {f : Fl} {k : Nat} (hlo : ∀ x ∈ F.take k, x.id < f.id) (hhi : ∀ x ∈ F.drop k, f.id < x.id) : insF F f = F.take k ++ f :: F.drop k := by
  unfold insF
  have h1 : F.filter (fun g => decide (g.id < f.id)) = F.take k := by
    conv => lhs; rw [← List.take_append_drop k F]
    rw [List.filter_append, List.filter_eq_self.2 (fun x hx => by simpa using hlo x hx), List.filter_eq_nil_iff.2 (fun x hx => by have := hhi x hx; simp; omega), List.append_nil]
  have h2 : F.filter (fun g => decide (f.id < g.id)) = F.drop k := by
    conv => lhs; rw [← List.take_append_drop k F]
    rw [List.filter_append, List.filter_eq_nil_iff.2 (fun x hx => by have := hlo x hx; simp; omega), List.filter_eq_self.2 (fun x hx => by simpa using hhi x hx), List.nil_append]
  rw [h1, h2]
end Go.Proofs.Ytmfndemnogpmcaa
