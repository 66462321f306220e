/-
  The one who serves beside the document's: that they hold the same. No condition.
-/
import Derived.Test.YtolohheflbmfaaaGreatDoorCk
set_option linter.unusedVariables false
set_option linter.unusedSimpArgs false
namespace Go.Proofs.YtolohheflbmfaaaGreatDoor
open Go.RowKit

theorem RG16To.up {W w w' : World} {kb wd n : Nat} {s : CS} {G : List Nat} (h : RG16To W kb wd n s G w w') : Upd G w w' := by obtain ⟨_, _, h⟩ := h; exact h.2
theorem RG16.wake {W w : World} {xb wd n : Nat} {s : CS} {G : List Nat} (h : RG16 W xb wd n s G w) (hci : CI s n) (hn : n < 900) (obj flow most : Int) (r : Nat) (hr : r < 18446744073709551616) :
    Calls Tryz.prog 18 #[.pointer (some ⟨xb, 0, none⟩), .int .i64 obj, .agg #[.int .i64 flow, .int .i64 most, .int .u64 r]] w (fun e w' => e = .returned (.bool (wakeB s obj flow)) ∧ RG16To W xb wd (n + 1) (wakeC s obj flow r) G w w') := by
  obtain ⟨rb, aoL, aoP, cL, cP, R, P, at_, key, fq, h, rfl, h1, h2⟩ := h
  exact h.wake hci hn h1 h2 obj flow most r hr
theorem RG16.done {W w : World} {xb wd n : Nat} {s : CS} {G : List Nat} (h : RG16 W xb wd n s G w) (hci : CI s n) (hn : n < 900) (size : Int) (hs : size < 9223372036854775808) (more : Bool) :
    Calls Tryz.prog 21 #[.pointer (some ⟨xb, 0, none⟩), .int .i64 size, .bool more] w (fun e w' => e = .returned (.bool s.is) ∧ RG16To W xb wd (n + 1) (doneC s size more) G w w') := by
  obtain ⟨rb, aoL, aoP, cL, cP, R, P, at_, key, fq, h, rfl, h1, h2⟩ := h
  exact h.done hci hn h1 h2 size hs more

/-- The keys of a queue's shards are numbers. -/
def KeysOk (s : CS) : Prop := ∀ i, i < s.M.length → ∀ x ∈ (shAt s.M i).2, x.1 = (kn x : Int) ∧ kn x < 18446744073709551616
theorem KG.keys {W w : World} {kb wd : Nat} {s : CS} {F : List Nat} (h : KG W kb wd s F w) : KeysOk s := by
  obtain ⟨_, _, _, _, _, _, h, _⟩ := h
  intro i hi x hx
  exact ⟨(h.q.keys i hi x hx).1, (h.q.keys i hi x hx).2.1⟩
theorem KG.keysL {W w : World} {kb wd : Nat} {s : CS} {F : List Nat} (h : KG W kb wd s F w) : ∀ x ∈ s.L, x.1 = (kn x : Int) ∧ kn x < 18446744073709551616 := by
  obtain ⟨_, _, _, _, _, _, h, _⟩ := h
  exact h.q.keysL
theorem RG16.pick {W w : World} {xb wd n : Nat} {s : CS} {G : List Nat} (h : RG16 W xb wd n s G w) (hci : CI s n) (hk : KeysOk s) (hn : n < 900) :
    Calls Tryz.prog 19 #[.pointer (some ⟨xb, 0, none⟩)] w (fun e w' => e = .returned (pickV s) ∧ RG16To W xb wd (n + 1) (pickC s) G w w') := by
  obtain ⟨rb, aoL, aoP, cL, cP, R, P, at_, key, fq, h, rfl, h1, h2⟩ := h
  exact h.pick hci hk h1 h2 hn


/-- Both, apart from each other. -/
def KP (W : World) (kb xb wd n : Nat) (s : CS) (F G : List Nat) (w : World) : Prop := KG W kb wd s F w ∧ RG16 W xb wd n s G w ∧ CI s n ∧ ∀ c ∈ F, c ∉ G
section
variable {W w w' : World} {kb xb wd n : Nat} {s s' : CS} {F G : List Nat}
theorem KP.updS {S : List Nat} (h : KP W kb xb wd n s F G w) (hu : Upd S w w') (h1 : ∀ c ∈ F, c ∉ S) (h2 : ∀ c ∈ G, c ∉ S) (hS : ∀ c ∈ S, W.heap.size ≤ c) : KP W kb xb wd n s F G w' := ⟨h.1.updS hu h1 hS, h.2.1.updS hu h2, h.2.2⟩
theorem KP.upd (h : KP W kb xb wd n s F G w) (hu : Upd [] w w') : KP W kb xb wd n s F G w' := ⟨h.1.upd hu, h.2.1.upd hu, h.2.2⟩
theorem KP.lt (h : KP W kb xb wd n s F G w) : ∀ c ∈ F ++ G, c < w.heap.size := by
  intro c hc
  rcases List.mem_append.1 hc with hc | hc
  · exact h.1.lt c hc
  · exact h.2.1.lt c hc
theorem KP.newB (h : KP W kb xb wd n s F G w) : ∀ c ∈ F ++ G, W.heap.size ≤ c := by
  intro c hc
  rcases List.mem_append.1 hc with hc | hc
  · exact h.1.newB c hc
  · exact h.2.1.newB c hc
theorem KP.mono (h : KP W kb xb wd n s F G w) {m : Nat} (hm : n ≤ m) : KP W kb xb wd m s F G w := ⟨h.1, h.2.1.mono hm, h.2.2.1.mono hm, h.2.2.2⟩

/-- The document's behind a deed done to the other one. -/
theorem KP.after (h : KP W kb xb wd n s F G w) (k : KGTo W kb wd s' F w w') : RG16 W xb wd n s G w' := h.2.1.updS k.up (fun c hc e => h.2.2.2 c e hc)

/-- What a deed done to both leaves. -/
def KPTo (W : World) (kb xb wd n : Nat) (s : CS) (F G : List Nat) (w w' : World) : Prop :=
  ∃ F' G', KP W kb xb wd n s F' G' w' ∧ (∀ c ∈ F', c ∈ F ∨ w.heap.size ≤ c) ∧ (∀ c ∈ G', c ∈ G ∨ w.heap.size ≤ c) ∧ Upd (F ++ G) w w'
theorem KP.both {w4 w5 w6 w7 w8 : World} (hp0 : KP W kb xb wd n s F G w) (hU : Upd [] w w4) (h5 : KGTo W kb wd s' F w4 w5) (g : Upd [] w5 w6) (h7 : RG16To W xb wd (n + 1) s' G w6 w7) (g2 : Upd [] w7 w8) (hci : CI s' (n + 1)) :
    KPTo W kb xb wd (n + 1) s' F G w w8 := by
  obtain ⟨F', k1, k2, k3⟩ := h5
  obtain ⟨G', j1, j2, j3⟩ := h7
  have hs4 := hU.size
  have hs5 := k3.size
  have hs6 := g.size
  have hp := hp0.upd hU
  have hq0 : ∀ c ∈ G, c < w.heap.size := hp0.2.1.lt
  refine ⟨F', G', ⟨((k1.upd g).updS j3 (fun c hc e => ?_) (fun c hc => ?_)).upd g2, j1.upd g2, hci, fun c hc e => ?_⟩, fun c hc => ?_, fun c hc => ?_, ?_⟩
  · rcases k2 c hc with h | h
    · exact hp.2.2.2 c h e
    · have := hq0 c e; omega
  · exact hp.2.1.newB c hc
  · rcases j2 c e with h | h
    · rcases k2 c hc with h' | h'
      · exact hp.2.2.2 c h' h
      · have := hq0 c h; omega
    · have := k1.lt c hc; omega
  · rcases k2 c hc with h | h
    · exact .inl h
    · right; omega
  · rcases j2 c hc with h | h
    · exact .inl h
    · right; omega
  · refine Upd.trans ?_ g2.nil
    refine Upd.trans ?_ (j3.mono (fun i _ hm => by simp [hm]))
    refine Upd.trans ?_ g.nil
    exact hU.nil.trans (k3.mono (fun i _ hm => by simp [hm]))
theorem KPTo.refl (h : KP W kb xb wd n s F G w) (hU : Upd [] w w') : KPTo W kb xb wd n s F G w w' := ⟨F, G, h.upd hU, fun _ h => .inl h, fun _ h => .inl h, hU.nil⟩
theorem KPTo.updR {w2 : World} (h : KPTo W kb xb wd n s F G w w2) (hU : Upd [] w2 w') : KPTo W kb xb wd n s F G w w' := by
  obtain ⟨F', G', h1, h2, h3, h4⟩ := h
  exact ⟨F', G', h1.upd hU, h2, h3, h4.trans hU.nil⟩
theorem KPTo.trans {w2 : World} {s2 : CS} {n2 : Nat} (h : KPTo W kb xb wd n s F G w w2) (k : ∀ F' G', KP W kb xb wd n s F' G' w2 → KPTo W kb xb wd n2 s2 F' G' w2 w') : KPTo W kb xb wd n2 s2 F G w w' := by
  obtain ⟨F', G', h1, h2, h3, h4⟩ := h
  obtain ⟨F2, G2, k1, k2, k3, k4⟩ := k F' G' h1
  have hs := h4.size
  refine ⟨F2, G2, k1, fun c hc => ?_, fun c hc => ?_, h4.then k4 (fun _ _ e => e) (fun i hi e => ?_)⟩
  · rcases k2 c hc with h | h
    · exact h2 c h
    · right; omega
  · rcases k3 c hc with h | h
    · exact h3 c h
    · right; omega
  · rcases List.mem_append.1 e with h | h
    · rcases h2 i h with h | h
      · simp [h]
      · omega
    · rcases h3 i h with h | h
      · simp [h]
      · omega
end
end Go.Proofs.YtolohheflbmfaaaGreatDoor
