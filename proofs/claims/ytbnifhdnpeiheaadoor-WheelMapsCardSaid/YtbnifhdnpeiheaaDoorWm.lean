/-
  A wheel inside a law: its items in order, its base, its width. No condition.
-/
import Derived.Test.YtbnifhdnpeiheaaDoorWl
import Derived.Test.YtbnifhdnpeiheaaDoorWg
set_option linter.unusedVariables false
set_option linter.unusedSimpArgs false
namespace Go.Proofs.YtbnifhdnpeiheaaDoor
open Go.RowKit

def fitsB (base wd k : Nat) : Bool := decide (base ≤ k) && decide (lev3 wd base k < 3)
theorem findI_ins {L : List It} {x : It} (h : NdI L) (hx : hasI L x.2 = false) (id : Int) : findI (insI x L) id = if x.2 = id then some x else findI L id := by
  rw [findI_perm (insI_nd h hx) (insI_perm x L)]
  unfold findI
  rw [List.find?_cons]
  by_cases e : x.2 = id
  · simp [e]
  · have : (x.2 == id) = false := by simp [e]
    rw [this, if_neg e]
theorem wok_new (wd : Int) (mb : Nat) : WOk (newWS wd mb) [] := by
  have hall : allB (newWS wd mb) = [] := by
    rw [List.eq_nil_iff_forall_not_mem]
    intro x hx
    obtain ⟨q, hq, h⟩ := mem_allB.1 hx
    cases h
  exact { srt := List.Pairwise.nil, nd := by simp [NdI], len := by simp, perm := by rw [hall], key := fun x hx => (by cases hx), pl := fun q hq x hx => (by cases hx), bits := fun l hl b hb => by simp [newWS, Buc.z], keys := fun id => rfl, mlen := rfl }
theorem wok_has {s : WS} {L : List It} (h : WOk s L) (id : Int) : (lookM s.M id).isSome = hasI L id := by
  rw [h.keys]
  cases hx : hasI L id with
  | false => rw [findI_none.2 hx]; rfl
  | true =>
    cases hf : findI L id with
    | none => rw [findI_none] at hf; rw [hf] at hx; cases hx
    | some x => rfl
theorem wok_push {s : WS} {L : List It} {k : Nat} {x : Int} {l : Nat} {ao : Option Addr} {cap : Nat} (h : WOk s L) (hk : k < 18446744073709551616) (hb : s.base ≤ k) (hl : lev3 s.wd s.base k = l) (h3 : l < 3) (hx : hasI L x = false) (hlen : L.length < 1000) :
    WOk (putS { s with M := putM s.M x (.int .u64 k) } l (bucN s.wd k l) ((k : Int), x) ao cap) (insI ((k : Int), x) L) := by
  have hbl := bucN_lt s.wd k l
  have hkn : kn ((k : Int), x) = k := by unfold kn; simp
  have e1 : (l * 64 + bucN s.wd k l) / 64 = l := by omega
  have e2 : (l * 64 + bucN s.wd k l) % 64 = bucN s.wd k l := by omega
  have hlk : lookM s.M x = none := by
    rw [h.keys, findI_none.2 hx]; rfl
  refine { srt := insI_srt h.srt ((hasI_no _ _).1 hx), nd := insI_nd h.nd hx, len := by rw [(insI_perm _ L).length_eq, List.length_cons]; omega, perm := ?_, key := fun y hy => ?_, pl := fun q hq y hy => ?_, bits := bits_put (s := { s with M := putM s.M x (.int .u64 k) }) h3 hbl h.bits, keys := fun id => ?_, mlen := ?_ }
  · have h1 := flat_upd (fun q => (s.bk q).L) (fun q => ((putS { s with M := putM s.M x (.int .u64 k) } l (bucN s.wd k l) ((k : Int), x) ao cap).bk q).L) (n := 192) (q0 := l * 64 + bucN s.wd k l) (by omega) (fun q hq => by simp only [putS]; rw [if_neg hq]) (A := []) (B := [((k : Int), x)]) (by simp [putS])
    rw [List.append_nil] at h1
    exact h1.trans ((List.perm_append_comm).trans ((List.Perm.cons _ h.perm).trans (insI_perm _ L).symm))
  · rcases List.mem_cons.1 ((insI_perm _ L).mem_iff.1 hy) with rfl | hy
    · exact ⟨⟨by simp, by simp; omega⟩, by rw [hkn]; exact hb⟩
    · exact h.key y hy
  · simp only [putS] at hy ⊢
    split at hy
    · rename_i e
      rw [List.mem_append] at hy
      rcases hy with hy | hy
      · subst e; exact h.pl _ hq y hy
      · simp at hy
        subst hy
        subst e
        unfold okP
        rw [e1, e2, hkn]
        exact ⟨hl, rfl⟩
    · exact h.pl q hq y hy
  · simp only [putS]
    rw [lookM_put, findI_ins h.nd hx, h.keys]
    by_cases e : id = x
    · subst e; simp
    · rw [if_neg e, if_neg (fun e' => e e'.symm)]
  · simp only [putS]
    rw [putM_len hlk, h.mlen, (insI_perm _ L).length_eq]
    rfl

/-- A wheel in blocks that are new since W. -/
def WG (W : World) (wb base wd : Nat) (L : List It) (fp : List Nat) (w : World) : Prop :=
  ∃ s, WhAt w wb s ∧ WOk s L ∧ s.base = base ∧ s.wd = wd ∧ fp = s.fp wb ∧ (∀ c ∈ fp, W.heap.size ≤ c) ∧ Upd [] W w ∧ TabAt 0 Lib.deBruijn64tab W
def WGTo (W : World) (wb base wd : Nat) (L : List It) (fp : List Nat) (w w' : World) : Prop := ∃ fp', WG W wb base wd L fp' w' ∧ Fr fp fp' w w'
theorem WG.updW {W w : World} {wb base wd : Nat} {L : List It} {fp : List Nat} (h : WG W wb base wd L fp w) : Upd [] W w := by obtain ⟨s, _, _, _, _, _, _, h, _⟩ := h; exact h
theorem WG.tab {W w : World} {wb base wd : Nat} {L : List It} {fp : List Nat} (h : WG W wb base wd L fp w) : TabAt 0 Lib.deBruijn64tab W := by obtain ⟨s, _, _, _, _, _, _, _, h⟩ := h; exact h
theorem WG.newB {W w : World} {wb base wd : Nat} {L : List It} {fp : List Nat} (h : WG W wb base wd L fp w) : ∀ c ∈ fp, W.heap.size ≤ c := by obtain ⟨s, _, _, _, _, _, h, _⟩ := h; exact h
theorem WG.lt {W w : World} {wb base wd : Nat} {L : List It} {fp : List Nat} (h : WG W wb base wd L fp w) : ∀ c ∈ fp, c < w.heap.size := by
  obtain ⟨s, h1, _, _, _, rfl, _⟩ := h; exact h1.lt
theorem WG.mem {W w : World} {wb base wd : Nat} {L : List It} {fp : List Nat} (h : WG W wb base wd L fp w) : wb ∈ fp := by
  obtain ⟨s, h1, _, _, _, rfl, _⟩ := h; exact WS.mem_fp.2 (.inl rfl)
theorem WG.nd {W w : World} {wb base wd : Nat} {L : List It} {fp : List Nat} (h : WG W wb base wd L fp w) : NdI L := by obtain ⟨s, _, h, _⟩ := h; exact h.nd
theorem WG.srt {W w : World} {wb base wd : Nat} {L : List It} {fp : List Nat} (h : WG W wb base wd L fp w) : Srt L := by obtain ⟨s, _, h, _⟩ := h; exact h.srt
theorem WG.updS {W w w' : World} {wb base wd : Nat} {L : List It} {fp S : List Nat} (h : WG W wb base wd L fp w) (hu : Upd S w w') (hs : ∀ c ∈ fp, c ∉ S) (hw : ∀ c ∈ S, W.heap.size ≤ c) : WG W wb base wd L fp w' := by
  obtain ⟨s, h1, h2, h3, h4, rfl, h5, h6, h7⟩ := h
  exact ⟨s, h1.upd hu hs, h2, h3, h4, rfl, h5, h6.then hu (by simp) (fun i hi hm => by have := hw i hm; omega), h7⟩
theorem WG.upd {W w w' : World} {wb base wd : Nat} {L : List It} {fp : List Nat} (h : WG W wb base wd L fp w) (hu : Upd [] w w') : WG W wb base wd L fp w' := h.updS hu (by simp) (by simp)
theorem WG.new {W w : World} (hU : Upd [] W w) (hT : TabAt 0 Lib.deBruijn64tab W) (wd : Int) : Calls Tryd.prog 63 #[.int .i64 wd] w (fun e w' => ∃ wb fp, e = .returned (.pointer (some ⟨wb, 0, none⟩)) ∧ WG W wb 0 (heldN wd) [] fp w' ∧ Upd [] w w' ∧ ∀ c ∈ fp, w.heap.size ≤ c) := by
  refine (wnew_any wd w).mono ?_
  rintro e w' ⟨rfl, h1, hU1⟩
  have hfp : ∀ c ∈ (newWS wd w.heap.size).fp (w.heap.size + 1), w.heap.size ≤ c := fun c hc => by
    rcases WS.mem_fp.1 hc with e | e | ⟨q, hq, e⟩
    · omega
    · simp only [newWS] at e; omega
    · cases e
  exact ⟨_, _, rfl, ⟨_, h1, wok_new wd _, rfl, rfl, rfl, fun c hc => Nat.le_trans hU.size (hfp c hc), hU.trans hU1, hT⟩, hU1, hfp⟩

/-- What a step leaves of the state. -/
theorem WG.step {W w w' : World} {wb base wd : Nat} {L : List It} {fp : List Nat} (h : WG W wb base wd L fp w) {s' : WS} {base' : Nat} {L' : List It} (h1 : WhAt w' wb s') (h2 : WOk s' L') (h3 : s'.base = base') (h4 : s'.wd = wd) (h5 : Fr fp (s'.fp wb) w w') : WGTo W wb base' wd L' fp w w' := by
  have hW := h.updW
  refine ⟨_, ⟨s', h1, h2, h3, h4, rfl, fun c hc => ?_, hW.then h5.2 (by simp) (fun i hi hm => by have := h.newB i hm; omega), h.tab⟩, h5⟩
  rcases h5.1 c hc with e | e
  · exact h.newB c e
  · exact Nat.le_trans hW.size e

theorem WG.push {W w : World} {wb base wd : Nat} {L : List It} {fp : List Nat} (h : WG W wb base wd L fp w) (k : Nat) (hk : k < 18446744073709551616) (x : Int) (hsm : L.length < 1000) :
    Calls Tryd.prog 65 #[.pointer (some ⟨wb, 0, none⟩), .agg #[.int .u64 k, .int .i64 x]] w (fun e w' => e = .returned (.bool (fitsB base wd k && !hasI L x)) ∧ WGTo W wb base wd (if (fitsB base wd k && !hasI L x) = true then insI ((k : Int), x) L else L) fp w w') := by
  have h0 := h
  obtain ⟨s, h1, h2, rfl, rfl, rfl, h3, h4, h5⟩ := h
  by_cases hc : (fitsB s.base s.wd k && !hasI L x) = true
  · rw [if_pos hc]
    have hc' := hc
    rw [Bool.and_eq_true] at hc'
    have hf := hc'.1
    unfold fitsB at hf
    simp at hf
    have hx : hasI L x = false := by simpa using hc'.2
    obtain ⟨l, hl⟩ : ∃ l, lev3 s.wd s.base k = l := ⟨_, rfl⟩
    rw [hl] at hf
    have hno : lookM s.M x = none := by rw [h2.keys, findI_none.2 hx]; rfl
    have hbl := bucN_lt s.wd k l
    have hq : l * 64 + bucN s.wd k l < 192 := by omega
    have hlen : (s.bk (l * 64 + bucN s.wd k l)).L.length < 1000 := by
      have a := len_le_flat (fun q => (s.bk q).L) hq
      have b := h2.perm.length_eq
      unfold allB at b
      omega
    refine (wpush_yes wb l k x hk s w h1 hf.1 hl hf.2 hno hlen (by rw [h2.mlen]; exact hsm)).mono ?_
    rintro e w' ⟨rfl, ao, cap, k1, k2, k3⟩
    refine ⟨by rw [hc], h0.step k1 (wok_push h2 hk hf.1 hl hf.2 hx hsm) rfl rfl ⟨fun c hc => ?_, k3.mono (fun i _ hm => ?_)⟩⟩
    · rcases WS.mem_fp.1 hc with e | e | ⟨q, hq', e⟩
      · exact .inl (WS.mem_fp.2 (.inl e))
      · exact .inl (WS.mem_fp.2 (.inr (.inl e)))
      · simp only [putS] at e
        split at e
        · rcases k2 c e with e | e
          · exact .inl (WS.mem_fp.2 (.inr (.inr ⟨_, hq, e⟩)))
          · exact .inr e
        · exact .inl (WS.mem_fp.2 (.inr (.inr ⟨q, hq', e⟩)))
    · rcases List.mem_cons.1 hm with e | e
      · exact WS.mem_fp.2 (.inl e)
      · rcases List.mem_cons.1 e with e | e
        · exact WS.mem_fp.2 (.inr (.inl e))
        · exact WS.mem_fp.2 (.inr (.inr ⟨_, hq, e⟩))
  · rw [if_neg hc]
    have hcf : (fitsB s.base s.wd k && !hasI L x) = false := by simpa using hc
    have hor : fits s k = false ∨ (lookM s.M x).isSome = true := by
      rw [wok_has h2]
      unfold fitsB at hcf
      unfold fits
      cases hd : (decide (s.base ≤ k) && decide (lev3 s.wd s.base k < 3)) with
      | false => exact .inl rfl
      | true => rw [hd] at hcf; right; simpa using hcf
    refine (wpush_no wb k x hk s w h1 hor).mono ?_
    rintro e w' ⟨rfl, hU⟩
    exact ⟨by rw [hcf], h0.step (h1.up hU) h2 rfl rfl (Fr.of hU)⟩
theorem WG.min {W w : World} {wb base wd : Nat} {L : List It} {fp : List Nat} (h : WG W wb base wd L fp w) :
    Calls Tryd.prog 66 #[.pointer (some ⟨wb, 0, none⟩)] w (RetUpd [] w (firstV L)) := by
  obtain ⟨s, h1, h2, rfl, rfl, rfl, h3, h4, h5⟩ := h
  refine (wmin_any wb s w h1 (tab_upd h5 h4) (wok_ne h2 h1)).mono ?_
  rintro e w' ⟨v, rfl, hv, hU⟩
  exact ⟨by rw [wok_min h2 h1 hv], hU⟩
theorem WG.has {W w : World} {wb base wd : Nat} {L : List It} {fp : List Nat} (h : WG W wb base wd L fp w) (id : Int) :
    Calls Tryd.prog 71 #[.pointer (some ⟨wb, 0, none⟩), .int .i64 id] w (fun e w' => e = .returned (.bool (hasI L id)) ∧ w = w') := by
  obtain ⟨s, h1, h2, rfl, rfl, rfl, h3, h4, h5⟩ := h
  rw [← wok_has h2]
  exact whas_any wb s id w h1
theorem WG.len {W w : World} {wb base wd : Nat} {L : List It} {fp : List Nat} (h : WG W wb base wd L fp w) :
    Calls Tryd.prog 39 #[.pointer (some ⟨wb, 0, none⟩)] w (fun e w' => e = .returned (.int .i64 L.length) ∧ w = w') := by
  obtain ⟨s, h1, h2, rfl, rfl, rfl, h3, h4, h5⟩ := h
  rw [← h2.mlen]
  exact wlen_any wb s w h1
theorem WG.base {W w : World} {wb base wd : Nat} {L : List It} {fp : List Nat} (h : WG W wb base wd L fp w) :
    Calls Tryd.prog 35 #[.pointer (some ⟨wb, 0, none⟩)] w (fun e w' => e = .returned (.int .u64 base) ∧ w = w') := by
  obtain ⟨s, h1, h2, rfl, rfl, rfl, h3, h4, h5⟩ := h
  exact wbase_any wb s w h1
def movB (base : Nat) (L : List It) (t0 : Nat) : Bool := decide (base ≤ t0) && L.all (fun x => decide (t0 ≤ kn x))
theorem WG.move {W w : World} {wb base wd : Nat} {L : List It} {fp : List Nat} (h : WG W wb base wd L fp w) (t0 : Nat) (ht : t0 < 18446744073709551616) :
    Calls Tryd.prog 38 #[.pointer (some ⟨wb, 0, none⟩), .int .u64 t0] w (fun e w' => e = .returned (.bool (movB base L t0)) ∧ WGTo W wb (if movB base L t0 = true then t0 else base) wd L fp w w') := by
  have h0 := h
  obtain ⟨s, h1, h2, rfl, rfl, rfl, h3, h4, h5⟩ := h
  by_cases hc : movB s.base L t0 = true
  · rw [if_pos hc, hc]
    unfold movB at hc
    simp at hc
    refine (wmove_yes wb s L t0 ht w h1 (tab_upd h5 h4) h2 hc.1 (fun x hx => hc.2 x.1 x.2 hx)).mono ?_
    rintro e w' ⟨rfl, s', k1, k2, k3, k4, k5⟩
    exact ⟨rfl, h0.step k1 k2 k3 k4 k5⟩
  · rw [if_neg hc]
    have hcf : movB s.base L t0 = false := by simpa using hc
    rw [hcf]
    have hor : t0 < s.base ∨ ∃ x ∈ L, kn x < t0 := by
      unfold movB at hcf
      by_cases hb : t0 < s.base
      · exact .inl hb
      · right
        have hd : decide (s.base ≤ t0) = true := by simp; omega
        rw [hd, Bool.true_and, List.all_eq_false] at hcf
        obtain ⟨x, hx, hn⟩ := hcf
        exact ⟨x, hx, by simpa using hn⟩
    refine (wmove_no wb s L t0 w h1 (tab_upd h5 h4) h2 hor).mono ?_
    rintro e w' ⟨rfl, hU⟩
    exact ⟨rfl, h0.step (h1.up hU) h2 rfl rfl (Fr.of hU)⟩
end Go.Proofs.YtbnifhdnpeiheaaDoor
