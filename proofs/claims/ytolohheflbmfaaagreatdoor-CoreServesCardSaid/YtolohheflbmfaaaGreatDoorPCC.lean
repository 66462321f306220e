/-
  Texts of this claim, joined: Cl, Cq, Cr, Cs, Ct, Cu. No condition.
-/
import Derived.Test.YtolohheflbmfaaaGreatDoorCk
import Derived.Test.YtolohheflbmfaaaGreatDoorAct
import Derived.Test.YtolohheflbmfaaaGreatDoorConf
import Derived.Test.YtolohheflbmfaaaGreatDoorPS
import Derived.Test.YtolohheflbmfaaaGreatDoorHeld
set_option linter.unusedVariables false
set_option linter.unusedSimpArgs false
/-! Cl -/
namespace Go.Proofs.YtolohheflbmfaaaGreatDoor
open Go.RowKit

theorem RG16To.up {W w w' : World} {kb wd n : Nat} {s : CS} {G : List Nat} (h : RG16To W kb wd n s G w w') : Upd G w w' := by obtain ⟨_, _, h⟩ := h; exact h.2
theorem RG16.wake {W w : World} {xb wd n : Nat} {s : CS} {G : List Nat} (h : RG16 W xb wd n s G w) (hci : CI s n) (hn : n < 900) (obj flow most : Int) (r : Nat) (hr : r < 18446744073709551616) :
    Calls Tryz.prog 18 #[.pointer (some ⟨xb, 0, none⟩), .int .i64 obj, .agg #[.int .i64 flow, .int .i64 most, .int .u64 r]] w (fun e w' => e = .returned (.bool (wakeB s obj flow)) ∧ RG16To W xb wd (n + 1) (wakeC s obj flow r) G w w') := by
  obtain ⟨rb, aoL, aoP, cL, cP, R, P, at_, key, fq, h, rfl, h1, h2⟩ := h
  exact h.wake hci hn h1 h2 obj flow most r hr
theorem RG16.done {W w : World} {xb wd n : Nat} {s : CS} {G : List Nat} (h : RG16 W xb wd n s G w) (hci : CI s n) (hn : n < 900) (size : Int) (hs : size < 9223372036854775808) (more : Bool) :
    Calls Tryz.prog 21 #[.pointer (some ⟨xb, 0, none⟩), .int .i64 size, .bool more] w (fun e w' => e = .returned (.bool s.is) ∧ RG16To W xb wd (n + 1) (doneC s size more) G w w') := by
  obtain ⟨rb, aoL, aoP, cL, cP, R, P, at_, key, fq, h, rfl, h1, h2⟩ := h
  exact h.done hci hn h1 h2 size hs more

/-- The keys of a queue's shards are numbers. -/
def KeysOk (s : CS) : Prop := ∀ i, i < s.M.length → ∀ x ∈ (shAt s.M i).2, x.1 = (kn x : Int) ∧ kn x < 18446744073709551616
theorem KG.keys {W w : World} {kb wd : Nat} {s : CS} {F : List Nat} (h : KG W kb wd s F w) : KeysOk s := by
  obtain ⟨_, _, _, _, _, _, h, _⟩ := h
  intro i hi x hx
  exact ⟨(h.q.keys i hi x hx).1, (h.q.keys i hi x hx).2.1⟩
theorem KG.keysL {W w : World} {kb wd : Nat} {s : CS} {F : List Nat} (h : KG W kb wd s F w) : ∀ x ∈ s.L, x.1 = (kn x : Int) ∧ kn x < 18446744073709551616 := by
  obtain ⟨_, _, _, _, _, _, h, _⟩ := h
  exact h.q.keysL
theorem RG16.pick {W w : World} {xb wd n : Nat} {s : CS} {G : List Nat} (h : RG16 W xb wd n s G w) (hci : CI s n) (hk : KeysOk s) (hn : n < 900) :
    Calls Tryz.prog 19 #[.pointer (some ⟨xb, 0, none⟩)] w (fun e w' => e = .returned (pickV s) ∧ RG16To W xb wd (n + 1) (pickC s) G w w') := by
  obtain ⟨rb, aoL, aoP, cL, cP, R, P, at_, key, fq, h, rfl, h1, h2⟩ := h
  exact h.pick hci hk h1 h2 hn


/-- Both, apart from each other. -/
def KP (W : World) (kb xb wd n : Nat) (s : CS) (F G : List Nat) (w : World) : Prop := KG W kb wd s F w ∧ RG16 W xb wd n s G w ∧ CI s n ∧ ∀ c ∈ F, c ∉ G
section
variable {W w w' : World} {kb xb wd n : Nat} {s s' : CS} {F G : List Nat}
theorem KP.updS {S : List Nat} (h : KP W kb xb wd n s F G w) (hu : Upd S w w') (h1 : ∀ c ∈ F, c ∉ S) (h2 : ∀ c ∈ G, c ∉ S) (hS : ∀ c ∈ S, W.heap.size ≤ c) : KP W kb xb wd n s F G w' := ⟨h.1.updS hu h1 hS, h.2.1.updS hu h2, h.2.2⟩
theorem KP.upd (h : KP W kb xb wd n s F G w) (hu : Upd [] w w') : KP W kb xb wd n s F G w' := ⟨h.1.upd hu, h.2.1.upd hu, h.2.2⟩
theorem KP.lt (h : KP W kb xb wd n s F G w) : ∀ c ∈ F ++ G, c < w.heap.size := by
  intro c hc
  rcases List.mem_append.1 hc with hc | hc
  · exact h.1.lt c hc
  · exact h.2.1.lt c hc
theorem KP.newB (h : KP W kb xb wd n s F G w) : ∀ c ∈ F ++ G, W.heap.size ≤ c := by
  intro c hc
  rcases List.mem_append.1 hc with hc | hc
  · exact h.1.newB c hc
  · exact h.2.1.newB c hc
theorem KP.mono (h : KP W kb xb wd n s F G w) {m : Nat} (hm : n ≤ m) : KP W kb xb wd m s F G w := ⟨h.1, h.2.1.mono hm, h.2.2.1.mono hm, h.2.2.2⟩

/-- The document's behind a deed done to the other one. -/
theorem KP.after (h : KP W kb xb wd n s F G w) (k : KGTo W kb wd s' F w w') : RG16 W xb wd n s G w' := h.2.1.updS k.up (fun c hc e => h.2.2.2 c e hc)

/-- What a deed done to both leaves. -/
def KPTo (W : World) (kb xb wd n : Nat) (s : CS) (F G : List Nat) (w w' : World) : Prop :=
  ∃ F' G', KP W kb xb wd n s F' G' w' ∧ (∀ c ∈ F', c ∈ F ∨ w.heap.size ≤ c) ∧ (∀ c ∈ G', c ∈ G ∨ w.heap.size ≤ c) ∧ Upd (F ++ G) w w'
theorem KP.both {w4 w5 w6 w7 w8 : World} (hp0 : KP W kb xb wd n s F G w) (hU : Upd [] w w4) (h5 : KGTo W kb wd s' F w4 w5) (g : Upd [] w5 w6) (h7 : RG16To W xb wd (n + 1) s' G w6 w7) (g2 : Upd [] w7 w8) (hci : CI s' (n + 1)) :
    KPTo W kb xb wd (n + 1) s' F G w w8 := by
  obtain ⟨F', k1, k2, k3⟩ := h5
  obtain ⟨G', j1, j2, j3⟩ := h7
  have hs4 := hU.size
  have hs5 := k3.size
  have hs6 := g.size
  have hp := hp0.upd hU
  have hq0 : ∀ c ∈ G, c < w.heap.size := hp0.2.1.lt
  refine ⟨F', G', ⟨((k1.upd g).updS j3 (fun c hc e => ?_) (fun c hc => ?_)).upd g2, j1.upd g2, hci, fun c hc e => ?_⟩, fun c hc => ?_, fun c hc => ?_, ?_⟩
  · rcases k2 c hc with h | h
    · exact hp.2.2.2 c h e
    · have := hq0 c e; omega
  · exact hp.2.1.newB c hc
  · rcases j2 c e with h | h
    · rcases k2 c hc with h' | h'
      · exact hp.2.2.2 c h' h
      · have := hq0 c h; omega
    · have := k1.lt c hc; omega
  · rcases k2 c hc with h | h
    · exact .inl h
    · right; omega
  · rcases j2 c hc with h | h
    · exact .inl h
    · right; omega
  · refine Upd.trans ?_ g2.nil
    refine Upd.trans ?_ (j3.mono (fun i _ hm => by simp [hm]))
    refine Upd.trans ?_ g.nil
    exact hU.nil.trans (k3.mono (fun i _ hm => by simp [hm]))
theorem KPTo.refl (h : KP W kb xb wd n s F G w) (hU : Upd [] w w') : KPTo W kb xb wd n s F G w w' := ⟨F, G, h.upd hU, fun _ h => .inl h, fun _ h => .inl h, hU.nil⟩
theorem KPTo.updR {w2 : World} (h : KPTo W kb xb wd n s F G w w2) (hU : Upd [] w2 w') : KPTo W kb xb wd n s F G w w' := by
  obtain ⟨F', G', h1, h2, h3, h4⟩ := h
  exact ⟨F', G', h1.upd hU, h2, h3, h4.trans hU.nil⟩
theorem KPTo.trans {w2 : World} {s2 : CS} {n2 : Nat} (h : KPTo W kb xb wd n s F G w w2) (k : ∀ F' G', KP W kb xb wd n s F' G' w2 → KPTo W kb xb wd n2 s2 F' G' w2 w') : KPTo W kb xb wd n2 s2 F G w w' := by
  obtain ⟨F', G', h1, h2, h3, h4⟩ := h
  obtain ⟨F2, G2, k1, k2, k3, k4⟩ := k F' G' h1
  have hs := h4.size
  refine ⟨F2, G2, k1, fun c hc => ?_, fun c hc => ?_, h4.then k4 (fun _ _ e => e) (fun i hi e => ?_)⟩
  · rcases k2 c hc with h | h
    · exact h2 c h
    · right; omega
  · rcases k3 c hc with h | h
    · exact h3 c h
    · right; omega
  · rcases List.mem_append.1 e with h | h
    · rcases h2 i h with h | h
      · simp [h]
      · omega
    · rcases h3 i h with h | h
      · simp [h]
      · omega
end
end Go.Proofs.YtolohheflbmfaaaGreatDoor

/-! Cq -/
namespace Go.Proofs.YtolohheflbmfaaaGreatDoor
open Go.RowKit

theorem KG.qok {W w : World} {kb wd : Nat} {s : CS} {F : List Nat} (h : KG W kb wd s F w) : QOk s.M s.L := by obtain ⟨_, _, _, _, _, _, h, _⟩ := h; exact h.q.ok
def KMadeTo (W w : World) (e : Ending) (w' : World) : Prop :=
  ∃ kb xb V m F G, e = .returned (.tuple #[.pointer (some ⟨kb, 0, none⟩), .pointer (some ⟨xb, 0, none⟩)]) ∧ KP W kb xb V 0 (newC m) F G w' ∧ Upd [] w w' ∧ ∀ c ∈ F ++ G, w.heap.size ≤ c
theorem kmade_done {W w w3 w4 w5 w6 : World} {kb xb V m : Nat} {F G : List Nat} (h3 : Upd [] w w3) (hK : KG W kb V (newC m) F w4) (h4 : Upd [] w3 w4) (hF : ∀ c ∈ F, w3.heap.size ≤ c) (h5 : Upd [] w4 w5) (hR : RG16 W xb V 0 (newC m) G w6) (h6 : Upd [] w5 w6) (hG : ∀ c ∈ G, w5.heap.size ≤ c) {w7 : World} (h7 : Upd [] w6 w7) :
    KMadeTo W w (.returned (.tuple #[.pointer (some ⟨kb, 0, none⟩), .pointer (some ⟨xb, 0, none⟩)])) w7 := by
  have s3 := h3.size
  have s4 := h4.size
  have s5 := h5.size
  refine ⟨kb, xb, V, m, F, G, rfl, ⟨(hK.upd (h5.trans h6)).upd h7, hR.upd h7, CI.new hK.qok, fun c hc e => ?_⟩, ((h3.trans h4).trans (h5.trans h6)).trans h7, fun c hc => ?_⟩
  · have := hK.lt c hc; have := hG c e; omega
  · rcases List.mem_append.1 hc with h | h
    · have := hF c h; omega
    · have := hG c h; omega

set_option maxRecDepth 100000 in
set_option maxHeartbeats 8000000 in
theorem made21_any (W : World) (sh sl wo wd : Int) (un : Nat) (w : World) (hU : Upd [] W w) (hT : TabAt 0 Lib.deBruijn64tab W) :
    Calls Tryz.prog 9 #[.agg #[.int .i64 sh, .int .i64 sl, .int .i64 wo, .int .i64 wd, .int .u64 un]] w (KMadeTo W w) := by
  have HN : Hid (∀ (w' : World) (a b c d : Int) (u : Nat), Upd [] W w' → Calls Tryz.prog 33 #[.agg #[.int .i64 a, .int .i64 b, .int .i64 c, .int .i64 d, .int .u64 u]] w' (NewK W w' a d)) := fun w' a b c d u h => KG.new h hT a b c d u
  have HR : Hid (∀ (w' : World) (a b c d : Int) (u : Nat), Upd [] W w' → Calls Tryz.prog 34 #[.agg #[.int .i64 a, .int .i64 b, .int .i64 c, .int .i64 d, .int .u64 u]] w' (NewRC W w' a d)) := fun w' a b c d u h => RG16.new h a b c d u
  have HU := Lib.hid hU
  clear hU hT
  go_enter Tryz.func9, Tryz.ntmps9
  go_wp2_with fail
  refine (conf_any sh sl wo wd un _).mono ?_
  rintro e w2 ⟨a, b, c, d, u, rfl, -, -, -, -, -, hU2⟩
  have hB := (Blk.new w 24 [.int .i64 sh, .int .i64 sl, .int .i64 wo, .int .i64 wd, .int .u64 un]).upd hU2 (by simp)
  have hU1 : Upd [] w w2 := ((Upd.refl [] w).alloc (.cells #[.int .i64 sh, .int .i64 sl, .int .i64 wo, .int .i64 wd, .int .u64 un] 24)).trans hU2
  obtain ⟨cb, hcb⟩ : ∃ x, w.heap.size = x := ⟨_, rfl⟩
  have HCB : Hid (w.heap.size ≤ cb) := by unfold Hid; omega
  rw [hcb] at hB ⊢
  have HB := Lib.hid hB
  have b0 := hB.cell (j := 0) rfl
  have b1 := hB.cell (j := 1) rfl
  have b2 := hB.cell (j := 2) rfl
  have b3 := hB.cell (j := 3) rfl
  have b4 := hB.cell (j := 4) rfl
  have f0 := hB.free 0
  have f1 := hB.free 1
  have f2 := hB.free 2
  have f3 := hB.free 3
  have f4 := hB.free 4
  have lb := hB.lt
  have HU1 := Lib.hid hU1
  clear hcb hB hU1 hU2
  go_wp2_with fail
  obtain ⟨w3, hw3⟩ : ∃ x, ((((w2.setCell ⟨cb, 0, none⟩ (.int .i64 a)).setCell ⟨cb, 1, none⟩ (.int .i64 b)).setCell ⟨cb, 2, none⟩ (.int .i64 c)).setCell ⟨cb, 3, none⟩ (.int .i64 d)).setCell ⟨cb, 4, none⟩ (.int .u64 u) = x := ⟨_, rfl⟩
  rw [hw3]
  have hB3 : Blk w3 cb 24 [.int .i64 a, .int .i64 b, .int .i64 c, .int .i64 d, .int .u64 u] := by rw [← hw3]; exact ((((HB.out.set 0 (.int .i64 a)).set 1 (.int .i64 b)).set 2 (.int .i64 c)).set 3 (.int .i64 d)).set 4 (.int .u64 u)
  have hU3 : Upd [] w w3 := by rw [← hw3]; exact ((((HU1.out.setCell (.inr HCB.out) _).setCell (.inr HCB.out) _).setCell (.inr HCB.out) _).setCell (.inr HCB.out) _).setCell (.inr HCB.out) _
  have HU3 := Lib.hid hU3
  clear b0 b1 b2 b3 b4 f0 f1 f2 f3 f4 lb
  have b0 := hB3.cell (j := 0) rfl
  have b1 := hB3.cell (j := 1) rfl
  have b2 := hB3.cell (j := 2) rfl
  have b3 := hB3.cell (j := 3) rfl
  have b4 := hB3.cell (j := 4) rfl
  have lb := hB3.lt
  clear hw3 hB3 hU3
  go_region_held3 (fun w2 => Upd [] w3 w2 ∧ ∀ (b o : Nat), b < w3.heap.size → b ∉ ([] : List Nat) → w2.cell? ⟨b, o, none⟩ = w3.cell? ⟨b, o, none⟩)
    (first | exact Held.init _ _ | exact Held.step (by assumption) hBb | exact Held.step (by assumption) hBa)
    (first | (go_at_call 33; refine (HN.out _ a b c d u ((HU.out.trans HU3.out).drew)).mono ?_; rintro e w4 ⟨kb, F, rfl, hK, hBa, hF⟩; have H4 := Lib.hid hBa; have HK := Lib.hid hK; have HF := Lib.hid hF; clear hK hF) | (go_at_call 34; refine (HR.out _ a b c d u (((HU.out.trans HU3.out).drew).trans H4.out)).mono ?_; rintro e w5 ⟨xb, G, rfl, hR, hBb, hG⟩; have H5 := Lib.hid hBb; have HRR := Lib.hid hR; have HG := Lib.hid hG; clear hR hG))
  go_wp2
  go_ret2
  exact kmade_done (HU3.out.drew) HK.out H4.out HF.out (Upd.refl _ _) HRR.out H5.out HG.out (Upd.refl _ _)
end Go.Proofs.YtolohheflbmfaaaGreatDoor

/-! Cr -/
namespace Go.Proofs.YtolohheflbmfaaaGreatDoor
open Go.RowKit

def Step21To (W : World) (kb xb wd n : Nat) (F G : List Nat) (w : World) (e : Ending) (w' : World) : Prop := e = .returned (.bool true) ∧ ∃ s', KPTo W kb xb wd n s' F G w w'
theorem pickV_is (s : CS) : ∃ (o : Int) (p : Nat) (ok : Bool), pickV s = .tuple #[.int .i64 o, .int .u64 p, .bool ok] := by
  unfold pickV; split
  · exact ⟨0, 0, false, rfl⟩
  · exact ⟨_, _, _, rfl⟩

set_option maxRecDepth 100000 in
set_option maxHeartbeats 64000000 in
theorem step21_any {W w : World} {kb xb wd n : Nat} {s : CS} {F G : List Nat} (h : KP W kb xb wd n s F G w) (hn : n < 900) (kind obj z flow most : Int) (r : Nat) (more : Bool) (hz : z < 9223372036854775808) (hr : r < 18446744073709551616) :
    Calls Tryz.prog 15 #[.pointer (some ⟨kb, 0, none⟩), .pointer (some ⟨xb, 0, none⟩), .agg #[.int .i64 kind, .int .i64 obj, .int .i64 z, .int .i64 flow, .int .i64 most, .int .u64 r, .bool more]] w (Step21To W kb xb wd (n + 1) F G w) := by
  have HP := Lib.hid h
  have HNN := Lib.hid hn
  have HR := Lib.hid hr
  have HZ := Lib.hid (sizeI_bd hz)
  obtain ⟨m, hm⟩ : ∃ m, modI kind 6 = m := ⟨_, rfl⟩
  have hmb := modI_bd kind 6 (by omega) (by omega)
  rw [hm] at hmb
  have HM := Lib.hid hm
  have hc : m = 0 ∨ m = 1 ∨ m = 2 ∨ m = 3 ∨ (m = 4 ∨ m = 5) := by omega
  clear h hn hr hz hm hmb
  rcases hc with rfl | rfl | rfl | rfl | hc
  · skip
    go_enter Tryz.func15, Tryz.ntmps15
    go_wp2_with fail
    refine (mod_any kind 6 (by omega) (by omega) _).mono ?_
    rintro e w2 ⟨rfl, rfl⟩
    rw [HM.out]
    go_wp2_with fail
    refine (object21_any kind obj z flow most r more HR.out _).mono ?_
    rintro e w2 ⟨ob, fl, mo, rr, rfl, hrr, hU2⟩
    have HU2 := Lib.hid (((Upd.refl [] w).alloc (.cells #[.int .i64 kind, .int .i64 obj, .int .i64 z, .int .i64 flow, .int .i64 most, .int .u64 r, .bool more] 37)).trans hU2)
    have HRR := Lib.hid hrr
    clear hU2 hrr
    go_wp2_with fail
    obtain ⟨w3, hw3⟩ : ∃ x, w2.alloc (.cells #[.int .i64 fl, .int .i64 mo, .int .u64 rr] 35) = x := ⟨_, rfl⟩
    have hB3 : Blk w3 w2.heap.size 35 [.int .i64 fl, .int .i64 mo, .int .u64 rr] := by rw [← hw3]; exact Blk.new w2 35 _
    have hU3 : Upd [] w w3 := by rw [← hw3]; exact HU2.out.alloc _
    rw [hw3]
    have hK3 := HP.out.upd hU3
    have n4 : w2.heap.size ∉ F ++ G := fun e => by have := HP.out.lt _ e; have := HU2.out.size; omega
    obtain ⟨bo, hbo⟩ : ∃ x, w2.heap.size = x := ⟨_, rfl⟩
    rw [hbo] at hB3 n4 ⊢
    have b0 := hB3.cell (j := 0) rfl
    have b1 := hB3.cell (j := 1) rfl
    have b2 := hB3.cell (j := 2) rfl
    have lb := hB3.lt
    have HK3 := Lib.hid hK3
    have HU3 := Lib.hid hU3
    clear hw3 hB3 hU3 hK3 hbo
    obtain ⟨bw, hbw⟩ : ∃ x, wakeB s ob fl = x := ⟨_, rfl⟩
    have HWK : Hid (∀ w', Upd [] w3 w' → Calls Tryz.prog 12 #[.pointer (some ⟨kb, 0, none⟩), .int .i64 ob, .agg #[.int .i64 fl, .int .i64 mo, .int .u64 rr]] w' (fun e w'' => e = .returned (.bool bw) ∧ KGTo W kb wd (wakeC s ob fl rr) F w' w'')) := fun w' hu => by
      rw [← hbw]; exact (HK3.out.upd hu).1.wake HK3.out.2.2.1 HNN.out ob fl mo rr HRR.out
    have HWR : Hid (∀ w' w'', Upd [] w3 w' → KGTo W kb wd (wakeC s ob fl rr) F w' w'' → Calls Tryz.prog 18 #[.pointer (some ⟨xb, 0, none⟩), .int .i64 ob, .agg #[.int .i64 fl, .int .i64 mo, .int .u64 rr]] w'' (fun e w4 => e = .returned (.bool bw) ∧ RG16To W xb wd (n + 1) (wakeC s ob fl rr) G w'' w4)) := fun w' w'' hu hk => by
      rw [← hbw]; exact ((HK3.out.upd hu).after hk).wake HK3.out.2.2.1 HNN.out ob fl mo rr HRR.out
    have HFF := Lib.hid (List.subset_append_left F G)
    clear hbw
    go_region_held3 (fun w2 => Upd (F ++ G) w3 w2 ∧ ∀ (b o : Nat), b < w3.heap.size → b ∉ (F ++ G) → w2.cell? ⟨b, o, none⟩ = w3.cell? ⟨b, o, none⟩)
      (first | exact Held.init _ _ | exact Held.step (by assumption) hBb | exact Held.step (by assumption) hBa)
      (first | (go_at_call 12; refine (HWK.out _ (Upd.refl [] w3).drew).mono ?_; rintro e w6 ⟨rfl, h6⟩; have H6 := Lib.hid h6; have hBa := h6.up.mono (T := F ++ G) (fun i _ hm => by simp [hm]); clear h6) | (go_at_call 18; refine (HWR.out _ _ (Upd.refl [] w3).drew H6.out).mono ?_; rintro e w7 ⟨rfl, h7⟩; have H7 := Lib.hid h7; have hBb := h7.up.mono (T := F ++ G) (fun i _ hm => by simp [hm]); clear h7))
    go_wp2
    go_ret
    exact ⟨rfl, _, HP.out.both HU3.out.drew H6.out (Upd.refl _ _) H7.out (Upd.refl _ _) (HP.out.2.2.1.wake ob fl HRR.out)⟩
  · skip
    go_enter Tryz.func15, Tryz.ntmps15
    go_wp2_with fail
    refine (mod_any kind 6 (by omega) (by omega) _).mono ?_
    rintro e w2 ⟨rfl, rfl⟩
    rw [HM.out]
    go_wp2_with fail
    refine (object21_any kind obj z flow most r more HR.out _).mono ?_
    rintro e w2 ⟨ob, fl, mo, rr, rfl, hrr, hU2⟩
    have HU2 := Lib.hid (((Upd.refl [] w).alloc (.cells #[.int .i64 kind, .int .i64 obj, .int .i64 z, .int .i64 flow, .int .i64 most, .int .u64 r, .bool more] 37)).trans hU2)
    have HRR := Lib.hid hrr
    clear hU2 hrr
    go_wp2_with fail
    obtain ⟨w3, hw3⟩ : ∃ x, w2.alloc (.cells #[.int .i64 fl, .int .i64 mo, .int .u64 rr] 35) = x := ⟨_, rfl⟩
    have hB3 : Blk w3 w2.heap.size 35 [.int .i64 fl, .int .i64 mo, .int .u64 rr] := by rw [← hw3]; exact Blk.new w2 35 _
    have hU3 : Upd [] w w3 := by rw [← hw3]; exact HU2.out.alloc _
    rw [hw3]
    have hK3 := HP.out.upd hU3
    have n4 : w2.heap.size ∉ F ++ G := fun e => by have := HP.out.lt _ e; have := HU2.out.size; omega
    obtain ⟨bo, hbo⟩ : ∃ x, w2.heap.size = x := ⟨_, rfl⟩
    rw [hbo] at hB3 n4 ⊢
    have b0 := hB3.cell (j := 0) rfl
    have b1 := hB3.cell (j := 1) rfl
    have b2 := hB3.cell (j := 2) rfl
    have lb := hB3.lt
    have HK3 := Lib.hid hK3
    have HU3 := Lib.hid hU3
    clear hw3 hB3 hU3 hK3 hbo
    obtain ⟨bw, hbw⟩ : ∃ x, wakeB s ob fl = x := ⟨_, rfl⟩
    have HWK : Hid (∀ w', Upd [] w3 w' → Calls Tryz.prog 12 #[.pointer (some ⟨kb, 0, none⟩), .int .i64 ob, .agg #[.int .i64 fl, .int .i64 mo, .int .u64 rr]] w' (fun e w'' => e = .returned (.bool bw) ∧ KGTo W kb wd (wakeC s ob fl rr) F w' w'')) := fun w' hu => by
      rw [← hbw]; exact (HK3.out.upd hu).1.wake HK3.out.2.2.1 HNN.out ob fl mo rr HRR.out
    have HWR : Hid (∀ w' w'', Upd [] w3 w' → KGTo W kb wd (wakeC s ob fl rr) F w' w'' → Calls Tryz.prog 18 #[.pointer (some ⟨xb, 0, none⟩), .int .i64 ob, .agg #[.int .i64 fl, .int .i64 mo, .int .u64 rr]] w'' (fun e w4 => e = .returned (.bool bw) ∧ RG16To W xb wd (n + 1) (wakeC s ob fl rr) G w'' w4)) := fun w' w'' hu hk => by
      rw [← hbw]; exact ((HK3.out.upd hu).after hk).wake HK3.out.2.2.1 HNN.out ob fl mo rr HRR.out
    have HFF := Lib.hid (List.subset_append_left F G)
    clear hbw
    go_region_held3 (fun w2 => Upd (F ++ G) w3 w2 ∧ ∀ (b o : Nat), b < w3.heap.size → b ∉ (F ++ G) → w2.cell? ⟨b, o, none⟩ = w3.cell? ⟨b, o, none⟩)
      (first | exact Held.init _ _ | exact Held.step (by assumption) hBb | exact Held.step (by assumption) hBa)
      (first | (go_at_call 12; refine (HWK.out _ (Upd.refl [] w3).drew).mono ?_; rintro e w6 ⟨rfl, h6⟩; have H6 := Lib.hid h6; have hBa := h6.up.mono (T := F ++ G) (fun i _ hm => by simp [hm]); clear h6) | (go_at_call 18; refine (HWR.out _ _ (Upd.refl [] w3).drew H6.out).mono ?_; rintro e w7 ⟨rfl, h7⟩; have H7 := Lib.hid h7; have hBb := h7.up.mono (T := F ++ G) (fun i _ hm => by simp [hm]); clear h7))
    go_wp2
    go_ret
    exact ⟨rfl, _, HP.out.both HU3.out.drew H6.out (Upd.refl _ _) H7.out (Upd.refl _ _) (HP.out.2.2.1.wake ob fl HRR.out)⟩
  · skip
    go_enter Tryz.func15, Tryz.ntmps15
    go_wp2_with fail
    refine (mod_any kind 6 (by omega) (by omega) _).mono ?_
    rintro e w2 ⟨rfl, rfl⟩
    rw [HM.out]
    go_wp2_with fail
    refine (object21_any kind obj z flow most r more HR.out _).mono ?_
    rintro e w2 ⟨ob, fl, mo, rr, rfl, hrr, hU2⟩
    have HU2 := Lib.hid (((Upd.refl [] w).alloc (.cells #[.int .i64 kind, .int .i64 obj, .int .i64 z, .int .i64 flow, .int .i64 most, .int .u64 r, .bool more] 37)).trans hU2)
    have HRR := Lib.hid hrr
    clear hU2 hrr
    go_wp2_with fail
    obtain ⟨w3, hw3⟩ : ∃ x, w2.alloc (.cells #[.int .i64 fl, .int .i64 mo, .int .u64 rr] 35) = x := ⟨_, rfl⟩
    have hB3 : Blk w3 w2.heap.size 35 [.int .i64 fl, .int .i64 mo, .int .u64 rr] := by rw [← hw3]; exact Blk.new w2 35 _
    have hU3 : Upd [] w w3 := by rw [← hw3]; exact HU2.out.alloc _
    rw [hw3]
    have hK3 := HP.out.upd hU3
    have n4 : w2.heap.size ∉ F ++ G := fun e => by have := HP.out.lt _ e; have := HU2.out.size; omega
    obtain ⟨bo, hbo⟩ : ∃ x, w2.heap.size = x := ⟨_, rfl⟩
    rw [hbo] at hB3 n4 ⊢
    have b0 := hB3.cell (j := 0) rfl
    have b1 := hB3.cell (j := 1) rfl
    have b2 := hB3.cell (j := 2) rfl
    have lb := hB3.lt
    have HK3 := Lib.hid hK3
    have HU3 := Lib.hid hU3
    clear hw3 hB3 hU3 hK3 hbo
    obtain ⟨bw, hbw⟩ : ∃ x, wakeB s ob fl = x := ⟨_, rfl⟩
    have HWK : Hid (∀ w', Upd [] w3 w' → Calls Tryz.prog 12 #[.pointer (some ⟨kb, 0, none⟩), .int .i64 ob, .agg #[.int .i64 fl, .int .i64 mo, .int .u64 rr]] w' (fun e w'' => e = .returned (.bool bw) ∧ KGTo W kb wd (wakeC s ob fl rr) F w' w'')) := fun w' hu => by
      rw [← hbw]; exact (HK3.out.upd hu).1.wake HK3.out.2.2.1 HNN.out ob fl mo rr HRR.out
    have HWR : Hid (∀ w' w'', Upd [] w3 w' → KGTo W kb wd (wakeC s ob fl rr) F w' w'' → Calls Tryz.prog 18 #[.pointer (some ⟨xb, 0, none⟩), .int .i64 ob, .agg #[.int .i64 fl, .int .i64 mo, .int .u64 rr]] w'' (fun e w4 => e = .returned (.bool bw) ∧ RG16To W xb wd (n + 1) (wakeC s ob fl rr) G w'' w4)) := fun w' w'' hu hk => by
      rw [← hbw]; exact ((HK3.out.upd hu).after hk).wake HK3.out.2.2.1 HNN.out ob fl mo rr HRR.out
    have HFF := Lib.hid (List.subset_append_left F G)
    clear hbw
    go_region_held3 (fun w2 => Upd (F ++ G) w3 w2 ∧ ∀ (b o : Nat), b < w3.heap.size → b ∉ (F ++ G) → w2.cell? ⟨b, o, none⟩ = w3.cell? ⟨b, o, none⟩)
      (first | exact Held.init _ _ | exact Held.step (by assumption) hBb | exact Held.step (by assumption) hBa)
      (first | (go_at_call 12; refine (HWK.out _ (Upd.refl [] w3).drew).mono ?_; rintro e w6 ⟨rfl, h6⟩; have H6 := Lib.hid h6; have hBa := h6.up.mono (T := F ++ G) (fun i _ hm => by simp [hm]); clear h6) | (go_at_call 18; refine (HWR.out _ _ (Upd.refl [] w3).drew H6.out).mono ?_; rintro e w7 ⟨rfl, h7⟩; have H7 := Lib.hid h7; have hBb := h7.up.mono (T := F ++ G) (fun i _ hm => by simp [hm]); clear h7))
    go_wp2
    go_ret
    exact ⟨rfl, _, HP.out.both HU3.out.drew H6.out (Upd.refl _ _) H7.out (Upd.refl _ _) (HP.out.2.2.1.wake ob fl HRR.out)⟩
  · skip
    go_enter Tryz.func15, Tryz.ntmps15
    go_wp2_with fail
    refine (mod_any kind 6 (by omega) (by omega) _).mono ?_
    rintro e w2 ⟨rfl, rfl⟩
    rw [HM.out]
    go_wp2_with fail
    obtain ⟨w1, hw1⟩ : ∃ x, w.alloc (.cells #[.int .i64 kind, .int .i64 obj, .int .i64 z, .int .i64 flow, .int .i64 most, .int .u64 r, .bool more] 37) = x := ⟨_, rfl⟩
    have hB1 : Blk w1 w.heap.size 37 [.int .i64 kind, .int .i64 obj, .int .i64 z, .int .i64 flow, .int .i64 most, .int .u64 r, .bool more] := by rw [← hw1]; exact Blk.new w 37 _
    have hU1 : Upd [] w w1 := by rw [← hw1]; exact (Upd.refl [] w).alloc _
    rw [hw1]
    have n4 : w.heap.size ∉ F ++ G := fun e => by have := HP.out.lt _ e; omega
    obtain ⟨bo, hbo⟩ : ∃ x, w.heap.size = x := ⟨_, rfl⟩
    rw [hbo] at hB1 n4 ⊢
    have b0 := hB1.cell (j := 0) rfl
    have b1 := hB1.cell (j := 1) rfl
    have b2 := hB1.cell (j := 2) rfl
    have b3 := hB1.cell (j := 3) rfl
    have b4 := hB1.cell (j := 4) rfl
    have b5 := hB1.cell (j := 5) rfl
    have b6 := hB1.cell (j := 6) rfl
    have lb := hB1.lt
    have HU1 := Lib.hid hU1
    have HK1 := Lib.hid (HP.out.upd hU1)
    clear hw1 hB1 hU1 hbo
    obtain ⟨si, hsi⟩ : ∃ x, s.is = x := ⟨_, rfl⟩
    obtain ⟨sz, hsz⟩ : ∃ x, sizeI z = x := ⟨_, rfl⟩
    rw [hsz] at HZ
    have HDK : Hid (∀ w', Upd [] w1 w' → Calls Tryz.prog 14 #[.pointer (some ⟨kb, 0, none⟩), .int .i64 sz, .bool more] w' (fun e w'' => e = .returned (.bool si) ∧ KGTo W kb wd (doneC s sz more) F w' w'')) := fun w' hu => by
      rw [← hsi]; exact (HK1.out.upd hu).1.done HK1.out.2.2.1 HNN.out sz HZ.out more
    have HDR : Hid (∀ w' w'' w4, Upd [] w1 w' → KGTo W kb wd (doneC s sz more) F w' w'' → Upd [] w'' w4 → Calls Tryz.prog 21 #[.pointer (some ⟨xb, 0, none⟩), .int .i64 sz, .bool more] w4 (fun e w5 => e = .returned (.bool si) ∧ RG16To W xb wd (n + 1) (doneC s sz more) G w4 w5)) := fun w' w'' w4 hu hk hu2 => by
      rw [← hsi]; exact (((HK1.out.upd hu).after hk).upd hu2).done HK1.out.2.2.1 HNN.out sz HZ.out more
    have HSZ : Hid (∀ w', Calls Tryz.prog 20 #[.agg #[.int .i64 kind, .int .i64 obj, .int .i64 z, .int .i64 flow, .int .i64 most, .int .u64 r, .bool more]] w' (RetUpd [] w' (.int .i64 sz))) := fun w' => by
      rw [← hsz]; exact size21_any kind obj z flow most r more w'
    have tok : True := trivial
    clear hsi hsz
    go_region_held3 (fun w2 => Upd (F ++ G) w1 w2 ∧ ∀ (b o : Nat), b < w1.heap.size → b ∉ (F ++ G) → w2.cell? ⟨b, o, none⟩ = w1.cell? ⟨b, o, none⟩)
      (first | exact Held.init _ _ | exact Held.step (by assumption) hBb | exact Held.step (by assumption) hBd | exact Held.step (by assumption) hBa | exact Held.step (by assumption) hBc)
      (first | (go_at_call 20; have tk := tok; clear tok; refine (HSZ.out _).mono ?_; rintro e w5 ⟨rfl, h5⟩; have H5 := Lib.hid h5; have hBc := h5.nil (S := F ++ G); clear h5) | (go_at_call 14; refine (HDK.out _ ((Upd.refl [] w1).drew.trans H5.out)).mono ?_; rintro e w6 ⟨rfl, h6⟩; have H6 := Lib.hid h6; have hBa := h6.up.mono (T := F ++ G) (fun i _ hm => by simp [hm]); clear h6) | (go_at_call 20; refine (HSZ.out _).mono ?_; rintro e w7 ⟨rfl, h7⟩; have H7 := Lib.hid h7; have hBd := h7.nil (S := F ++ G); clear h7) | (go_at_call 21; refine (HDR.out _ _ _ ((Upd.refl [] w1).drew.trans H5.out) H6.out H7.out).mono ?_; rintro e w8 ⟨rfl, h8⟩; have H8 := Lib.hid h8; have hBb := h8.up.mono (T := F ++ G) (fun i _ hm => by simp [hm]); clear h8))
    go_wp2
    go_ret
    exact ⟨rfl, _, HP.out.both (HU1.out.drew.trans H5.out) H6.out H7.out H8.out (Upd.refl _ _) (HP.out.2.2.1.done sz more)⟩
  · obtain ⟨po, pp, pk, hpv⟩ := pickV_is s
    have HPV := Lib.hid hpv
    clear hpv
    have t0 : (m == 0) = false := by rcases hc with rfl | rfl <;> rfl
    have t1 : (m == 1) = false := by rcases hc with rfl | rfl <;> rfl
    have t2 : (m == 2) = false := by rcases hc with rfl | rfl <;> rfl
    have t3 : (m == 3) = false := by rcases hc with rfl | rfl <;> rfl
    clear hc
    cases pk
    · skip
      go_enter Tryz.func15, Tryz.ntmps15
      go_wp2_with fail
      refine (mod_any kind 6 (by omega) (by omega) _).mono ?_
      rintro e w2 ⟨rfl, rfl⟩
      rw [HM.out]
      go_wp2_with fail
      refine (HP.out.upd ((Upd.refl [] w).alloc (.cells #[.int .i64 kind, .int .i64 obj, .int .i64 z, .int .i64 flow, .int .i64 most, .int .u64 r, .bool more] 37))).1.pick.mono ?_
      rintro e w6 ⟨rfl, h6⟩
      have H6 := Lib.hid h6
      clear h6
      rw [HPV.out]
      go_wp2_with fail
      refine (((HP.out.upd ((Upd.refl [] w).alloc (.cells #[.int .i64 kind, .int .i64 obj, .int .i64 z, .int .i64 flow, .int .i64 most, .int .u64 r, .bool more] 37))).after H6.out).pick HP.out.2.2.1 HP.out.1.keys HNN.out).mono ?_
      rintro e w7 ⟨rfl, h7⟩
      have H7 := Lib.hid h7
      clear h7
      rw [HPV.out]
      go_wp2
      go_ret
      exact ⟨rfl, _, HP.out.both ((Upd.refl [] w).alloc _) H6.out (Upd.refl _ _) H7.out (Upd.refl _ _) (HP.out.2.2.1.pick (fun x hx => (HP.out.1.keysL x hx).2))⟩
    · skip
      go_enter Tryz.func15, Tryz.ntmps15
      go_wp2_with fail
      refine (mod_any kind 6 (by omega) (by omega) _).mono ?_
      rintro e w2 ⟨rfl, rfl⟩
      rw [HM.out]
      go_wp2_with fail
      refine (HP.out.upd ((Upd.refl [] w).alloc (.cells #[.int .i64 kind, .int .i64 obj, .int .i64 z, .int .i64 flow, .int .i64 most, .int .u64 r, .bool more] 37))).1.pick.mono ?_
      rintro e w6 ⟨rfl, h6⟩
      have H6 := Lib.hid h6
      clear h6
      rw [HPV.out]
      go_wp2_with fail
      refine (((HP.out.upd ((Upd.refl [] w).alloc (.cells #[.int .i64 kind, .int .i64 obj, .int .i64 z, .int .i64 flow, .int .i64 most, .int .u64 r, .bool more] 37))).after H6.out).pick HP.out.2.2.1 HP.out.1.keys HNN.out).mono ?_
      rintro e w7 ⟨rfl, h7⟩
      have H7 := Lib.hid h7
      clear h7
      rw [HPV.out]
      go_wp2
      go_ret
      exact ⟨rfl, _, HP.out.both ((Upd.refl [] w).alloc _) H6.out (Upd.refl _ _) H7.out (Upd.refl _ _) (HP.out.2.2.1.pick (fun x hx => (HP.out.1.keysL x hx).2))⟩
end Go.Proofs.YtolohheflbmfaaaGreatDoor

/-! Cs -/
namespace Go.Proofs.YtolohheflbmfaaaGreatDoor
open Go.RowKit

set_option maxRecDepth 100000 in
set_option maxHeartbeats 64000000 in
theorem looks21_any {W w : World} {kb xb wd n : Nat} {s : CS} {F G : List Nat} (h : KP W kb xb wd n s F G w) (hn : n < 1000) :
    Calls Tryz.prog 16 #[.pointer (some ⟨kb, 0, none⟩), .pointer (some ⟨xb, 0, none⟩)] w (RetUpd [] w (.bool true)) := by
  have HP := Lib.hid h
  have HLN : Hid (s.L.length < 1000) := by unfold Hid; have := h.2.2.1.len; omega
  have HOK := Lib.hid h.2.2.1.ok
  obtain ⟨rb, aoL, aoP, cL, cP, R, P, at_, key, fq, hx, rfl, -, -⟩ := h.2.1
  obtain ⟨x0, x1, x2, x3, -, -, -, -, -, lx⟩ := hx.cells
  have HX := Lib.hid hx
  have HV : Hid (∀ w', Upd [] w w' → Calls Tryz.prog 23 #[.pointer (some ⟨kb, 0, none⟩)] w' (fun e w'' => e = .returned (.int .u64 s.v) ∧ w' = w'')) := fun w' hu => (HP.out.upd hu).1.v_
  have HM : Hid (∀ w', Upd [] w w' → Calls Tryz.prog 28 #[.pointer (some ⟨kb, 0, none⟩)] w' (fun e w'' => e = .returned (.int .u64 s.most) ∧ w' = w'')) := fun w' hu => (HP.out.upd hu).1.most_
  have HS : Hid (∀ w', Upd [] w w' → Calls Tryz.prog 24 #[.pointer (some ⟨kb, 0, none⟩)] w' (fun e w'' => e = .returned (.int .i64 s.served) ∧ w' = w'')) := fun w' hu => (HP.out.upd hu).1.served_
  have HI : Hid (∀ w', Upd [] w w' → Calls Tryz.prog 22 #[.pointer (some ⟨kb, 0, none⟩)] w' (Told w' s.L [])) := fun w' hu => (HP.out.upd hu).1.items_ (Nat.le_of_lt HLN.out)
  have HA : Hid (∀ w', Upd [] w w' → Calls Tryz.prog 37 #[.pointer (some ⟨rb, 0, none⟩)] w' (Told w' s.L [])) := fun w' hu => (HX.out.upd hu).q.all HOK.out HLN.out
  clear h hx hn
  go_enter Tryz.func16, Tryz.ntmps16
  go_wp2_with fail
  go_region_held3 (fun w2 => Upd [] w w2 ∧ ∀ (b o : Nat), b < w.heap.size → b ∉ ([] : List Nat) → w2.cell? ⟨b, o, none⟩ = w.cell? ⟨b, o, none⟩)
    (first | exact Held.init _ _ | exact Held.step (by assumption) hBc | exact Held.step (by assumption) hBb | exact Held.step (by assumption) hBa | assumption)
    (first | (go_at_call 23; refine (HV.out _ (Upd.refl [] w).drew).mono ?_; rintro e w5 ⟨rfl, rfl⟩) | (go_at_call 28; refine (HM.out _ (Upd.refl [] w).drew).mono ?_; rintro e w5 ⟨rfl, rfl⟩) | (go_at_call 24; refine (HS.out _ (Upd.refl [] w).drew).mono ?_; rintro e w5 ⟨rfl, rfl⟩) | (go_at_call 22; refine (HI.out _ (Upd.refl [] w).drew).mono ?_; rintro e w6 ⟨ao1, cap1, rfl, hR1, -, hBa⟩; have H6 := Lib.hid hBa; have HR1 := Lib.hid hR1; clear hR1) | (go_at_call 37; refine (HA.out _ ((Upd.refl [] w).drew.trans H6.out)).mono ?_; rintro e w7 ⟨ao2, cap2, rfl, hR2, -, hBb⟩; have H7 := Lib.hid hBb; have HR2 := Lib.hid hR2; clear hR2) | (go_at_call 29; refine (plain_any ao1 ao2 s.L.length cap1 cap2 s.L _ rfl (Nat.le_of_lt HLN.out) (HR1.out.upd H7.out (by simp)) HR2.out).mono ?_; rintro e w8 ⟨rfl, hBc⟩; have H8 := Lib.hid hBc))
  go_wp2
  go_ret
  exact ⟨rfl, ((Upd.refl [] w).drew.trans (H6.out.trans H7.out)).trans H8.out⟩
end Go.Proofs.YtolohheflbmfaaaGreatDoor

/-! Ct -/
namespace Go.Proofs.YtolohheflbmfaaaGreatDoor
open Go.RowKit

def aw0 : CS := newC (leavesOf 1)
def aw1 : CS := wakeC aw0 4 7 10
def aw2 : CS := pickC aw1
def aw3 : CS := doneC aw2 3 true
theorem aw_1 : wakeB aw0 4 7 = true := by decide +kernel
theorem aw_2 : wakeB aw1 4 7 = false := by decide +kernel
theorem aw_3 : wakeC aw1 4 7 10 = aw1 := (wakeC_false aw_2 rfl).1
theorem aw_4 : aw1.is = false := by decide +kernel
theorem aw_5 : doneC aw1 1 true = aw1 := by unfold doneC; rw [if_neg (by rw [aw_4]; simp)]
theorem aw_6 : pickV aw1 = .tuple #[.int .i64 4, .int .u64 0, .bool true] := by kernel_rfl
theorem aw_7 : aw2.is = true := by decide +kernel
theorem aw_8 : aw3.L = [(30, 7)] := by decide +kernel
theorem aw_9 : aw3.served = 1 := by decide +kernel
theorem aw_10 : aw3.most = 30 := by decide +kernel

set_option maxRecDepth 100000 in
set_option maxHeartbeats 8000000 in
theorem awake21_any (w : World) (hT : TabAt 0 Lib.deBruijn64tab w) : Calls Tryz.prog 10 #[] w (RetUpd [] w (.bool true)) := by
  have HN := Lib.hid (KG.new (Upd.refl [] w) hT 1 1 1 0 1)
  clear hT
  go_enter Tryz.func10, Tryz.ntmps10
  go_wp2_with fail
  refine HN.out.mono ?_
  rintro e w1 ⟨kb, F, rfl, h1, hU, -⟩
  have hc := CI.new h1.qok
  change KG w kb _ aw0 F w1 at h1
  change CI aw0 0 at hc
  have H1 := Lib.hid h1
  have C0 := Lib.hid hc
  have C1 : Hid (CI aw1 1) := hc.wake 4 7 (by omega)
  have HU := Lib.hid hU
  clear h1 hc hU
  go_wp2_with fail
  refine (H1.out.wake C0.out (by omega) 4 7 2 10 (by omega)).mono ?_
  rintro e w2 ⟨rfl, F2, h2, hF2⟩
  rw [aw_1]
  change KG w kb _ aw1 F2 w2 at h2
  have H2 := Lib.hid h2
  clear h2 hF2
  go_wp2_with fail
  refine (H2.out.wake C1.out (by omega) 4 7 0 10 (by omega)).mono ?_
  rintro e w3 ⟨rfl, F3, h3, hF3⟩
  rw [aw_2]
  rw [aw_3] at h3
  have H3 := Lib.hid h3
  clear h3 hF3
  go_wp2_with fail
  refine (H3.out.done C1.out (by omega) 1 (by omega) true).mono ?_
  rintro e w4 ⟨rfl, F4, h4, hF4⟩
  rw [aw_4]
  rw [aw_5] at h4
  have H4 := Lib.hid h4
  have C2 : Hid (CI aw2 2) := C1.out.pick (fun x hx => (h4.keysL x hx).2)
  clear h4 hF4
  go_wp2_with fail
  refine H4.out.pick.mono ?_
  rintro e w5 ⟨rfl, F5, h5, hF5⟩
  rw [aw_6]
  change KG w kb _ aw2 F5 w5 at h5
  have H5 := Lib.hid h5
  clear h5 hF5
  go_wp2_with fail
  refine (H5.out.done C2.out (by omega) 3 (by omega) true).mono ?_
  rintro e w6 ⟨rfl, F6, h6, hF6⟩
  rw [aw_7]
  change KG w kb _ aw3 F6 w6 at h6
  have H6 := Lib.hid h6
  clear h6 hF6
  go_wp2_with fail
  refine (H6.out.items_ (by rw [aw_8]; simp)).mono ?_
  rw [aw_8]
  rintro e w7 ⟨ao, cap, rfl, hR, -, hU7⟩
  have H7 := Lib.hid (H6.out.upd hU7)
  have uL : Upd [] w7 (w7.alloc (.cells #[.int .u64 30, .int .i64 7] 54)) := (Upd.refl [] w7).alloc _
  have hL : RowO (w7.alloc (.cells #[.int .u64 30, .int .i64 7] 54)) 54 2 (some ⟨w7.heap.size, 0, none⟩) 1 1 ([((30 : Int), (7 : Int))].flatMap itVs) :=
    (Row.mk' (cur := #[.int .u64 30, .int .i64 7]) rfl (heap_alloc_new w7 _) (Nat.le_refl _) (by unfold maxLen; omega) rfl rfl).o
  have HP := Lib.hid (plain_any ao (some ⟨w7.heap.size, 0, none⟩) 1 cap 1 [((30 : Int), (7 : Int))] _ rfl (by omega) (hR.upd uL (by simp)) hL)
  have HUL := Lib.hid uL
  clear hR hU7 hL uL
  rw [show [((30 : Int), (7 : Int))].length = 1 from rfl]
  go_wp2_with fail
  refine HP.out.mono ?_
  rintro e w8 ⟨rfl, hU8⟩
  have H8 := Lib.hid (H7.out.upd (HUL.out.trans hU8))
  clear hU8
  go_wp2_with fail
  refine H8.out.served_.mono ?_
  rintro e w9 ⟨rfl, rfl⟩
  rw [aw_9]
  go_wp2_with fail
  refine H8.out.most_.mono ?_
  rintro e w9 ⟨rfl, rfl⟩
  rw [aw_10]
  go_wp2
  go_ret
  exact ⟨rfl, H8.out.updW⟩
end Go.Proofs.YtolohheflbmfaaaGreatDoor

/-! Cu -/
namespace Go.Proofs.YtolohheflbmfaaaGreatDoor
open Go.RowKit

theorem KP.updW {W w : World} {kb xb wd n : Nat} {s : CS} {F G : List Nat} (h : KP W kb xb wd n s F G w) : Upd [] W w := h.1.updW
def ActRow (W : World) (v : Value) (m : Nat) (D : Nat → Nat → Value) : Prop := FlatAt W [some .i64, some .i64, some .i64, some .i64, some .i64, some .u64, none] v m D
def CPlaysAt (W : World) (kb xb V c : Nat) (iv : Value) (wr : World) : Prop := ∃ (i : Nat) (s : CS) (F G : List Nat), iv = .int .i64 i ∧ i ≤ c ∧ KP W kb xb V i s F G wr

set_option maxRecDepth 100000 in
set_option maxHeartbeats 64000000 in
theorem cplays_walk (sh sl wo wd : Int) (un : Nat) (v : Value) (m : Nat) (D : Nat → Nat → Value) (W : World) (hT : TabAt 0 Lib.deBruijn64tab W) (_ : un < 18446744073709551616) (hv : ActRow W v m D) :
    Calls Tryz.prog 4 #[.agg #[.int .i64 sh, .int .i64 sl, .int .i64 wo, .int .i64 wd, .int .u64 un], v] W (RetUpd [] W (.bool true)) := by
  obtain ⟨ao, cap, rfl, hmm, hD⟩ := act_cells hv
  unfold maxLen at hmm
  have HD := Lib.hid hD
  have HT := Lib.hid hT
  clear hD hv hT
  obtain ⟨c, hc⟩ : ∃ c : Nat, Min.min m 80 = c := ⟨_, rfl⟩
  have hcm : c ≤ m := by omega
  have hc40 : c ≤ 80 := by omega
  have HC : Hid (Min.min m 80 = c) := hc
  clear hc
  go_enter Tryz.func4, Tryz.ntmps4
  go_wp2_with fail
  refine (made21_any W sh sl wo wd un _ ((Upd.refl [] W).alloc _) HT.out).mono ?_
  rintro e1 w1 ⟨kb, xb, V, m0, F0, G0, rfl, hP, -, -⟩
  have HP1 := Lib.hid hP
  clear hP
  go_wp2_with fail
  refine (awake21_any _ (tab_upd HT.out HP1.out.updW)).mono ?_
  rintro e w2 ⟨rfl, hU⟩
  have HP2 := Lib.hid (HP1.out.upd hU)
  clear hU HP1
  go_wp2_with fail
  go_loopw [7] (fun iv wr => CPlaysAt W kb xb V c iv wr) (fun iv _ => c - (intOf iv).toNat)
  case atStart => exact ⟨0, _, _, _, rfl, Nat.zero_le _, HP2.out⟩
  case round =>
    clear HP2
    obtain ⟨i, s, F, G, rfl, hi, hP⟩ := hrel
    have HP := Lib.hid hP
    clear hP
    by_cases hlt : i < c
    · skip
      rcases HD.out with h0 | ⟨bd, off, rfl, hb1, hcc⟩
      · omega
      obtain ⟨k, o, z, f, mo, r, more, c0, c1, c2, c3, c4, c5, c6, hz, hr⟩ := hcc i (by omega)
      have hUW := HP.out.updW
      rw [← hUW.cell hb1 (by simp)] at c0 c1 c2 c3 c4 c5 c6
      have lbd := Nat.lt_of_lt_of_le hb1 hUW.size
      have him : i < m := by omega
      have t1 : decide (i < m) = true := by simp; omega
      have t2 : decide ((i : Int) < 80) = true := by simp; omega
      have b1 : (i : Int) < (m : Int) := by omega
      have HZ := Lib.hid hz
      have HR := Lib.hid hr
      have HLC := Lib.hid hlt
      have HI1 : Hid (i + 1 ≤ c) := hlt
      have HI80 : Hid (i + 1 ≤ 100) := by unfold Hid; omega
      clear hcc hb1 hz hr hUW
      go_wp2_with fail
      refine (step21_any HP.out (by omega) k o z f mo r more HZ.out HR.out).mono ?_
      rintro e w6 ⟨rfl, s2, F2, G2, hP2, -, -, -⟩
      have HP6 := Lib.hid hP2
      clear hP2
      go_wp2_with fail
      refine (looks21_any HP6.out (by omega)).mono ?_
      rintro e w7 ⟨rfl, hU7⟩
      have HP7 := Lib.hid (HP6.out.upd hU7)
      clear hU7
      go_wp2
      exact ⟨⟨i + 1, s2, F2, G2, by congr 1, HI1.out, HP7.out⟩, inner_measR HLC.out⟩
    · skip
      have t1 : Hid (decide (i < m) = true ∧ decide ((i : Int) < 80) = false ∨ decide (i < m) = false) := by
        have := HC.out
        unfold Hid
        by_cases h : i < m
        · left; exact ⟨by simp; omega, by simp; omega⟩
        · right; simp; omega
      rcases t1.out with ⟨t2, t3⟩ | t2
      all_goals
        clear t1
        go_wp2
        go_ret
        exact ⟨rfl, HP.out.updW⟩
end Go.Proofs.YtolohheflbmfaaaGreatDoor
