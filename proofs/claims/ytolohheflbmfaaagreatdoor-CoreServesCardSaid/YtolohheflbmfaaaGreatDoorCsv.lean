/-
  The walk of CoreServes. Condition: where a table of the library's lies.
-/
import Derived.Test.YtolohheflbmfaaaGreatDoorCz
import Derived.Test.YtolohheflbmfaaaGreatDoorFh
import Derived.Test.YtolohheflbmfaaaGreatDoorPCD
set_option linter.unusedVariables false
set_option linter.unusedSimpArgs false
namespace Go.Proofs.YtolohheflbmfaaaGreatDoor
open Go.RowKit

def hasV (g : Nat → Fl) : List Value := [.int .i64 (g 0).L.length, .int .i64 (g 1).L.length, .int .i64 (g 2).L.length, .int .i64 (g 3).L.length, .int .i64 (g 4).L.length]
theorem hasV_at (g : Nat → Fl) {j : Nat} (h : j < 5) : (hasV g)[j]? = some (.int .i64 (g j).L.length) := by
  rcases five_cases h with rfl | rfl | rfl | rfl | rfl <;> rfl
theorem hasV_set (g : Nat → Fl) {j : Nat} (h : j < 5) (f : Fl) : (hasV g).set j (.int .i64 f.L.length) = hasV (updN g j f) := by
  rcases five_cases h with rfl | rfl | rfl | rfl | rfl <;> rfl
def g0 (f : Nat) : Fl := flNew f (1 + f * f) 8
theorem add_step {f : Nat} (h : f < 5) : addSf ⟨(List.range f).map g0, 0, 0⟩ f (1 + f * f) 8 = ⟨(List.range (f + 1)).map g0, 0, 0⟩ := by
  rcases five_cases h with rfl | rfl | rfl | rfl | rfl <;> rfl
theorem SV.new (m : Nat) : SV (newC m) ⟨(List.range 5).map g0, 0, 0⟩ g0 where
  F := rfl
  ri := RI.new m
  idle := rfl
  v := rfl
  most := rfl
  L := rfl
  id := fun f _ => rfl
  r := fun f _ => rfl
  fin := fun f _ => rfl
  own := fun f _ h => by cases h
  pk := fun f _ p h => by cases h

/-- The one who serves, the flows beside it, and how many packets wait, in memory. -/
structure SvM (W : World) (kb V sb hb m : Nat) (s : CS) (F : List Nat) (S : Sf) (G : List Nat) (g : Nat → Fl) (w : World) : Prop where
  kc : KC W kb V m s F w
  sf : SfG W sb S G w
  hs : Blk w hb 59 (hasV g)
  fg : ∀ c ∈ F, c ∉ G
  hf : hb ∉ F
  hg : hb ∉ G
  hw : W.heap.size ≤ hb
theorem KC.updS {W w w' : World} {kb V n : Nat} {s : CS} {F S : List Nat} (h : KC W kb V n s F w) (hu : Upd S w w') (h1 : ∀ c ∈ F, c ∉ S) (h2 : ∀ c ∈ S, W.heap.size ≤ c) : KC W kb V n s F w' := ⟨h.1.updS hu h1 h2, h.2⟩
section
variable {W w w' : World} {kb V sb hb m : Nat} {s s' : CS} {F G : List Nat} {S S' : Sf} {g g' : Nat → Fl}
theorem SvM.upd (h : SvM W kb V sb hb m s F S G g w) (hu : Upd [] w w') : SvM W kb V sb hb m s F S G g w' := { h with kc := h.kc.upd hu, sf := h.sf.upd hu, hs := h.hs.upd hu (by simp) }
theorem SvM.updW (h : SvM W kb V sb hb m s F S G g w) : Upd [] W w := h.kc.updW
theorem SvM.mono (h : SvM W kb V sb hb m s F S G g w) {n : Nat} (hn : m ≤ n) : SvM W kb V sb hb n s F S G g w := { h with kc := ⟨h.kc.1, h.kc.2.mono hn⟩ }
theorem SvM.sfdeed (h : SvM W kb V sb hb m s F S G g w) (k : SfTo W sb S' G w w') : ∃ G', SvM W kb V sb hb m s F S' G' g w' := by
  obtain ⟨G', k1, k2⟩ := k
  exact ⟨G', { kc := h.kc.updS k2.2 h.fg h.sf.newB, sf := k1, hs := h.hs.upd k2.2 h.hg, fg := fun c hc => k2.far (h.kc.1.lt c hc) (h.fg c hc), hf := h.hf, hg := k2.far h.hs.lt h.hg, hw := h.hw }⟩
theorem SvM.kdeed {m' : Nat} (h : SvM W kb V sb hb m s F S G g w) (k : KGTo W kb V s' F w w') (hc : CI s' m') : ∃ F', SvM W kb V sb hb m' s' F' S G g w' := by
  obtain ⟨F', k1, k2⟩ := k
  exact ⟨F', { kc := ⟨k1, hc⟩, sf := h.sf.updS k2.2 (fun c hc e => h.fg c e hc), hs := h.hs.upd k2.2 h.hf, fg := fun c hc e => (k2.1 c hc).elim (fun k => h.fg c k e) (fun k => by have := h.sf.lt c e; omega), hf := k2.far h.hs.lt h.hf, hg := h.hg, hw := h.hw }⟩
theorem SvM.put {f : Nat} (h : SvM W kb V sb hb m s F S G g w) (hf : f < 5) (x : Fl) {l : Nat} (hl : x.L.length = l) : SvM W kb V sb hb m s F S G (updN g f x) (w.setCell ⟨hb, f, none⟩ (.int .i64 l)) := by
  have u : Upd [hb] w (w.setCell ⟨hb, f, none⟩ (.int .i64 l)) := (Upd.refl [hb] w).setCell (.inl (by simp)) _
  have one : ∀ {c : Nat}, c ∈ [hb] → c = hb := fun hc => by simpa using hc
  refine { kc := h.kc.updS u (fun c hc e => h.hf (one e ▸ hc)) (fun c hc => by rw [one hc]; exact h.hw), sf := h.sf.updS u (fun c hc e => h.hg (one e ▸ hc)), hs := ?_, fg := h.fg, hf := h.hf, hg := h.hg, hw := h.hw }
  have := h.hs.set f (.int .i64 l)
  rw [← hl, hasV_set g hf x] at this
  rw [← hl]; exact this
end
theorem SvM.len8 {W w : World} {kb V sb hb m : Nat} {s : CS} {F G : List Nat} {S : Sf} {g : Nat → Fl} (h : SvM W kb V sb hb m s F S G g w) (hv : SV s S g) {f : Nat} (hf : f < 5) : (g f).L.length ≤ 8 := by
  obtain ⟨ao, cap, Z, hz, hF, -⟩ := h.sf
  have h1 : S.F[f]? = some (g f) := by rw [hv.F]; exact five_at g hf
  obtain ⟨e, he, hef⟩ := map_at hF h1
  have hok := (hz.ents e (List.mem_of_getElem? he)).ok
  rw [hef] at hok
  have h2 := hok.len
  have h3 := hok.most
  omega
theorem nonE_len {f : Fl} {l : Nat} (h : f.L.length = l) : nonE f = decide (0 < l) := by unfold nonE; rw [h]
theorem plus_eqs {hl h1 : Nat} (h : hl + 1 = h1) (h8 : hl ≤ 8) : wrap64 ((hl : Int) + 1) = (h1 : Int) ∧ IntKind.i64.wrap ((hl : Int) + 1) = (h1 : Int) ∧ (hl : Int) + 1 = (h1 : Int) := by
  refine ⟨by unfold wrap64; omega, by rw [IntKind.wrap_i64]; omega, by omega⟩
theorem minus_eqs {h0 rl : Nat} (h : h0 = rl + 1) (h8 : h0 ≤ 8) : wrap64 ((h0 : Int) - 1) = (rl : Int) ∧ IntKind.i64.wrap ((h0 : Int) - 1) = (rl : Int) := by
  refine ⟨by unfold wrap64; omega, by rw [IntKind.wrap_i64]; omega⟩
theorem one_no {hl h1 : Nat} (h : hl + 1 = h1) (h0 : true = decide (0 < hl)) : ((h1 : Int) == 1) = false ∧ (h1 == 1) = false := by
  have : 0 < hl := by simpa using h0.symm
  exact ⟨by simp; omega, by simp; omega⟩
theorem one_yes {hl h1 : Nat} (h : hl + 1 = h1) (h0 : false = decide (0 < hl)) : ((h1 : Int) == 1) = true ∧ (h1 == 1) = true := by
  have : ¬ 0 < hl := by simpa using h0.symm
  exact ⟨by simp; omega, by simp; omega⟩
theorem ff_le {f : Nat} (h : f < 5) : f * f ≤ 16 := by rcases five_cases h with rfl | rfl | rfl | rfl | rfl <;> decide
theorem ff_eqs {f ff rr : Nat} (hf : f < 5) (h : f * f = ff) (hr : 1 + ff = rr) : wrap64 (100 + (f : Int)) = 100 + f ∧ wrap64 ((f : Int) * (f : Int)) = (ff : Int) ∧ wrap64 (1 + (ff : Int)) = (rr : Int) ∧ IntKind.u64.wrap (rr : Int) = (rr : Int) ∧ rr < 18446744073709551616 := by
  have h16 := ff_le hf
  have hi : (f : Int) * (f : Int) = (ff : Int) := by rw [← h]; push_cast; rfl
  rw [h] at h16
  refine ⟨by unfold wrap64; omega, by rw [hi]; unfold wrap64; omega, by unfold wrap64; omega, by rw [IntKind.wrap_u64]; omega, by omega⟩
theorem b100 {b : Nat} (h : b < 5) : wrap64 (100 + (b : Int)) = 100 + b := by unfold wrap64; omega
theorem gt_cast {rl : Nat} {ml : Bool} (h : decide (0 < rl) = ml) : decide ((0 : Int) < (rl : Int)) = ml := by rw [← h]; simp
theorem ne100 (b : Nat) : ((100 + (b : Int)) != (100 + (b : Int))) = false := by simp
theorem World.size_le {w w' : World} {a : Addr} {v : Value} (h : w.setCell a v = w') : w.heap.size ≤ w'.heap.size := by rw [← h]; simp
theorem cast5 {b : Nat} (h : b < 5) : (b : Int) < 5 := by omega
theorem ci_len {s : CS} {m i : Nat} (h : CI s m) (h1 : m ≤ 3 * (i + 1)) (h2 : 3 * i + 3 < 900) : s.L.length ≤ 1000 := by have := h.len; omega
theorem cn0 (i : Nat) : 3 * i ≤ 3 * (i + 1) := by omega
theorem cn1 (i : Nat) : 3 * i + 1 ≤ 3 * (i + 1) := by omega
theorem cn2 (i : Nat) : 3 * i + 2 ≤ 3 * (i + 1) := by omega
theorem lt900a {i : Nat} (h : 3 * i + 3 < 900) : 3 * i < 900 := by omega
theorem lt900b {i : Nat} (h : 3 * i + 3 < 900) : 3 * i + 1 < 900 := by omega
theorem len63 {z : Int} (h : z ≤ 90) : z < 9223372036854775808 := by omega
theorem mod5_any (v : Int) (w : World) : Calls Tryz.prog 11 #[.int .i64 v, .int .i64 5] w (fun e w' => e = .returned (.int .i64 (modI v 5)) ∧ w = w') := mod_any v 5 (by omega) (by omega) w
theorem ne_self (v : Nat) : ((v : Int) != (v : Int)) = false := by simp
def SvAddAt (W : World) (kb V sb hb : Nat) (s : CS) (F : List Nat) (fv : Value) (wr : World) : Prop :=
  ∃ (f : Nat) (G : List Nat), fv = .int .i64 f ∧ f ≤ 5 ∧ KC W kb V 0 s F wr ∧ SfG W sb ⟨(List.range f).map g0, 0, 0⟩ G wr ∧ Blk wr hb 59 (hasV g0) ∧ (∀ c ∈ F, c ∉ G) ∧ hb ∉ F ∧ hb ∉ G ∧ W.heap.size ≤ hb
def CServesAt (W : World) (kb V sb hb c : Nat) (iv : Value) (wr : World) : Prop :=
  ∃ (i : Nat) (s : CS) (F : List Nat) (S : Sf) (G : List Nat) (g : Nat → Fl), iv = .int .i64 i ∧ i ≤ c ∧ SvM W kb V sb hb (3 * i) s F S G g wr ∧ SV s S g
theorem SfG.empty {W w : World} {sb : Nat} (h : Blk w sb 58 [.slice none 0 0, .int .u64 0, .int .u64 0]) (hb : W.heap.size ≤ sb) : SfG W sb ⟨[], 0, 0⟩ [sb] w :=
  ⟨none, 0, [], { blk := h, row := RowO.nil _ _ _, ents := fun _ h => (by cases h), dis := List.Pairwise.nil, own := fun _ h => (by cases h), d := by simp [blkO], new := fun c hc => by simp only [blkO, List.mem_cons, List.not_mem_nil, or_false] at hc; omega, newE := fun _ h => (by cases h), srt := List.Pairwise.nil, small := by simp, v64 := by simp, m64 := by simp }, rfl, rfl⟩
theorem five_meas {f : Nat} (h : f < 5) : 5 - (intOf (.int .i64 ((f : Int) + 1))).toNat < 5 - (intOf (.int .i64 (f : Int))).toNat := by simp [intOf]; omega

set_option maxRecDepth 100000 in
set_option maxHeartbeats 64000000 in
theorem cserves_walk (sh sl wo wd : Int) (un : Nat) (v : Value) (m : Nat) (D : Nat → Nat → Value) (W : World) (hT : TabAt 0 Lib.deBruijn64tab W) (_ : un < 18446744073709551616) (hv : ActRow W v m D) :
    Calls Tryz.prog 7 #[.agg #[.int .i64 sh, .int .i64 sl, .int .i64 wo, .int .i64 wd, .int .u64 un], v] W (RetUpd [] W (.bool true)) := by
  obtain ⟨ao, cap, rfl, hmm, hD⟩ := act_cells hv
  unfold maxLen at hmm
  have HD := Lib.hid hD
  have HT := Lib.hid hT
  clear hD hv hT
  obtain ⟨c, hc⟩ : ∃ c : Nat, Min.min m 80 = c := ⟨_, rfl⟩
  have hcm : c ≤ m := by omega
  have hc40 : c ≤ 80 := by omega
  have HC : Hid (Min.min m 80 = c) := hc
  clear hc
  go_enter Tryz.func7, Tryz.ntmps7
  go_wp2_with fail
  refine (made21_any W sh sl wo wd un _ ((Upd.refl [] W).alloc _) HT.out).mono ?_
  rintro e1 w1 ⟨kb, xb, V, m0, F0, G0, rfl, hP, -, -⟩
  have HP1 : Hid (KC W kb V 0 (newC m0) F0 w1) := ⟨hP.1, hP.2.2.1⟩
  clear hP
  go_wp2_with fail
  refine (awake21_any _ (tab_upd HT.out HP1.out.updW)).mono ?_
  rintro e w2 ⟨rfl, hU⟩
  have HP2 := Lib.hid (HP1.out.upd hU)
  clear hU HP1
  go_wp2_with fail
  obtain ⟨wa, hwa⟩ : ∃ x, w2.alloc (.cells #[.slice none 0 0, .int .u64 0, .int .u64 0] 58) = x := ⟨_, rfl⟩
  have hUa : Upd [] w2 wa := by rw [← hwa]; exact (Upd.refl [] w2).alloc _
  have hSa : Blk wa w2.heap.size 58 [.slice none 0 0, .int .u64 0, .int .u64 0] := by rw [← hwa]; exact Blk.new w2 58 _
  have hsa : wa.heap.size = w2.heap.size + 1 := by rw [← hwa]; simp
  rw [hwa]
  obtain ⟨wb, hwb⟩ : ∃ x, wa.alloc (.cells #[.int .i64 0, .int .i64 0, .int .i64 0, .int .i64 0, .int .i64 0] 59) = x := ⟨_, rfl⟩
  have hUb : Upd [] wa wb := by rw [← hwb]; exact (Upd.refl [] wa).alloc _
  have hHb : Blk wb wa.heap.size 59 (hasV g0) := by rw [← hwb]; exact Blk.new wa 59 (hasV g0)
  try rw [hwb]
  have hWs := HP2.out.updW.size
  have hFl := HP2.out.1.lt
  have HP3 := Lib.hid (HP2.out.upd (hUa.trans hUb))
  have HS3 : Hid (SfG W w2.heap.size ⟨[], 0, 0⟩ [w2.heap.size] wb) := SfG.empty (hSa.upd hUb (by simp)) hWs
  obtain ⟨sb, hsb⟩ : ∃ x, w2.heap.size = x := ⟨_, rfl⟩
  obtain ⟨hb, hhb⟩ : ∃ x, wa.heap.size = x := ⟨_, rfl⟩
  rw [hhb] at hHb
  rw [hsb] at HS3
  have HX3 : Hid ((∀ c ∈ F0, c ∉ [sb]) ∧ hb ∉ F0 ∧ hb ∉ [sb] ∧ W.heap.size ≤ hb) := ⟨fun c hc e => by have := hFl c hc; simp only [List.mem_cons, List.not_mem_nil, or_false] at e; omega, fun e => by have := hFl _ e; omega, fun e => by simp only [List.mem_cons, List.not_mem_nil, or_false] at e; omega, by omega⟩
  have HH3 := Lib.hid hHb
  go_wp2_with fail
  try rw [hwb]
  try rw [hsb]
  try rw [hhb]
  try rw [show sb + 1 = hb by omega]
  clear hwa hwb hsb hhb hSa hHb hUa hUb hsa hWs hFl HP2
  go_loopw [9] (fun fv wr => SvAddAt W kb V sb hb (newC m0) F0 fv wr) (fun fv _ => 5 - (intOf fv).toNat)
  case atStart => exact ⟨0, _, rfl, by omega, HP3.out, HS3.out, HH3.out, HX3.out⟩
  case round =>
    clear HP3 HS3 HH3 HX3
    obtain ⟨f, G, rfl, hf5, hK, hS, hH, hfg, hhf, hhg, hhw⟩ := hrel
    by_cases hlt : f < 5
    · rcases five_cases hlt with rfl | rfl | rfl | rfl | rfl
      · skip
        go_wp2_with fail
        refine (hS.add 0 1 (by omega) 8 (by simp)).mono ?_
        rintro e w4 ⟨rfl, G4, hS4, hF4⟩
        replace hS4 : SfG W sb ⟨(List.range (0 + 1)).map g0, 0, 0⟩ G4 w4 := hS4
        go_wp2
        exact ⟨⟨0 + 1, G4, by congr 1, by omega, hK.updS hF4.2 hfg hS.newB, hS4, hH.upd hF4.2 hhg, fun c hc hc2 => (hF4.far (hK.1.lt c hc) (hfg c hc)) hc2, hhf, hF4.far hH.lt hhg, hhw⟩, by simp [intOf]⟩
      · skip
        go_wp2_with fail
        refine (hS.add 1 2 (by omega) 8 (by simp)).mono ?_
        rintro e w4 ⟨rfl, G4, hS4, hF4⟩
        replace hS4 : SfG W sb ⟨(List.range (1 + 1)).map g0, 0, 0⟩ G4 w4 := hS4
        go_wp2
        exact ⟨⟨1 + 1, G4, by congr 1, by omega, hK.updS hF4.2 hfg hS.newB, hS4, hH.upd hF4.2 hhg, fun c hc hc2 => (hF4.far (hK.1.lt c hc) (hfg c hc)) hc2, hhf, hF4.far hH.lt hhg, hhw⟩, by simp [intOf]⟩
      · skip
        go_wp2_with fail
        refine (hS.add 2 5 (by omega) 8 (by simp)).mono ?_
        rintro e w4 ⟨rfl, G4, hS4, hF4⟩
        replace hS4 : SfG W sb ⟨(List.range (2 + 1)).map g0, 0, 0⟩ G4 w4 := hS4
        go_wp2
        exact ⟨⟨2 + 1, G4, by congr 1, by omega, hK.updS hF4.2 hfg hS.newB, hS4, hH.upd hF4.2 hhg, fun c hc hc2 => (hF4.far (hK.1.lt c hc) (hfg c hc)) hc2, hhf, hF4.far hH.lt hhg, hhw⟩, by simp [intOf]⟩
      · skip
        go_wp2_with fail
        refine (hS.add 3 10 (by omega) 8 (by simp)).mono ?_
        rintro e w4 ⟨rfl, G4, hS4, hF4⟩
        replace hS4 : SfG W sb ⟨(List.range (3 + 1)).map g0, 0, 0⟩ G4 w4 := hS4
        go_wp2
        exact ⟨⟨3 + 1, G4, by congr 1, by omega, hK.updS hF4.2 hfg hS.newB, hS4, hH.upd hF4.2 hhg, fun c hc hc2 => (hF4.far (hK.1.lt c hc) (hfg c hc)) hc2, hhf, hF4.far hH.lt hhg, hhw⟩, by simp [intOf]⟩
      · skip
        go_wp2_with fail
        refine (hS.add 4 17 (by omega) 8 (by simp)).mono ?_
        rintro e w4 ⟨rfl, G4, hS4, hF4⟩
        replace hS4 : SfG W sb ⟨(List.range (4 + 1)).map g0, 0, 0⟩ G4 w4 := hS4
        go_wp2
        exact ⟨⟨4 + 1, G4, by congr 1, by omega, hK.updS hF4.2 hfg hS.newB, hS4, hH.upd hF4.2 hhg, fun c hc hc2 => (hF4.far (hK.1.lt c hc) (hfg c hc)) hc2, hhf, hF4.far hH.lt hhg, hhw⟩, by simp [intOf]⟩
    · obtain rfl : f = 5 := by omega
      have HSV : Hid (SvM W kb V sb hb 0 (newC m0) F0 ⟨(List.range 5).map g0, 0, 0⟩ G g0 wr) := { kc := hK, sf := hS, hs := hH, fg := hfg, hf := hhf, hg := hhg, hw := hhw }
      clear hK hS hH hfg hhf hhg hhw hlt hf5
      rw [show ((5 : Nat) : Int) = (5 : Int) from rfl]
      go_wp2_with fail
      go_loopw [10] (fun iv wr => CServesAt W kb V sb hb c iv wr) (fun iv _ => c - (intOf iv).toNat)
      case atStart => exact ⟨0, _, _, _, _, _, rfl, Nat.zero_le _, HSV.out, SV.new m0⟩
      case round =>
        clear HSV
        obtain ⟨i, s, F, S, G, g, rfl, hi, hP, hSV⟩ := hrel
        have HP := Lib.hid hP
        have HSV := Lib.hid hSV
        clear hP hSV
        by_cases hlt : i < c
        · skip
          rcases HD.out with h0 | ⟨bd, off, rfl, hb1, hcc⟩
          · omega
          obtain ⟨k, o, z, f, mo, r, more, c0, c1, c2, c3, c4, c5, c6, hz, hr⟩ := hcc i (by omega)
          have hUW := HP.out.updW
          rw [← hUW.cell hb1 (by simp)] at c0 c1 c2 c3 c4 c5 c6
          have lbd := Nat.lt_of_lt_of_le hb1 hUW.size
          have him : i < m := by omega
          have t1 : decide (i < m) = true := by simp; omega
          have t2 : decide ((i : Int) < 80) = true := by simp; omega
          have b1 : (i : Int) < (m : Int) := by omega
          have HZ := Lib.hid hz
          have HR := Lib.hid hr
          have HBW := Lib.hid hb1
          have HLC := Lib.hid hlt
          have HI1 : Hid (i + 1 ≤ c) := hlt
          have HI80 : Hid (i + 1 ≤ 100) := by unfold Hid; omega
          clear hcc hb1 hz hr hUW
          have HN900 : Hid (3 * i + 3 < 900) := by unfold Hid; omega
          have hjb := modI_bd o 5 (by omega) (by omega)
          have hzb := modI_bd z 90 (by omega) (by omega)
          obtain ⟨f, hj⟩ : ∃ f : Nat, modI o 5 = (f : Int) := ⟨(modI o 5).toNat, by omega⟩
          have hf5 : f < 5 := by omega
          obtain ⟨q, hq⟩ : ∃ x, modI z 90 = x := ⟨_, rfl⟩
          rw [hq] at hzb
          obtain ⟨k5, hk5⟩ : ∃ x, modI k 5 = x := ⟨_, rfl⟩
          have HJ := Lib.hid hj
          have HQ := Lib.hid hq
          have HK5 := Lib.hid hk5
          have HF5 := Lib.hid hf5
          obtain ⟨sz, hsz⟩ : ∃ x, 1 + q = x := ⟨_, rfl⟩
          have wq : wrap64 (1 + q) = sz := by unfold wrap64; omega
          have wq2 : IntKind.i64.wrap (1 + q) = sz := by rw [IntKind.wrap_i64]; omega
          have HSZ : Hid (1 ≤ sz ∧ sz ≤ 90) := by unfold Hid; omega
          have HSL : Hid (sz < 9223372036854775808) := by unfold Hid; omega
          have HARR : Hid (∀ w', SfG W sb S G w' → Calls Tryz.prog 26 #[.pointer (some ⟨sb, 0, none⟩), .agg #[.int .i64 f, .int .i64 sz, .int .i64 0]] w' (fun e w'' => e = .returned (.int .i64 (arrCode S ⟨f, sz, 0⟩)) ∧ SfTo W sb (arrS S ⟨f, sz, 0⟩) G w' w'')) := fun w' h => h.arrive ⟨f, sz, 0⟩ HSL.out
          have HMA : Hid (∀ w, Calls Tryz.prog 11 #[.int .i64 o, .int .i64 5] w (fun e w' => e = .returned (.int .i64 f) ∧ w = w')) := fun w => by rw [← hj]; exact mod_any o 5 (by omega) (by omega) w
          have HMB : Hid (∀ w, Calls Tryz.prog 11 #[.int .i64 z, .int .i64 90] w (fun e w' => e = .returned (.int .i64 q) ∧ w = w')) := fun w => by rw [← hq]; exact mod_any z 90 (by omega) (by omega) w
          have bf : (f : Int) < 5 := by omega
          clear hi hlt hjb hzb hj hq hk5 hf5 hsz
          have HCI := Lib.hid HP.out.kc.2
          obtain ⟨hl, hhl⟩ : ∃ x, (g f).L.length = x := ⟨_, rfl⟩
          have HHL := Lib.hid hhl
          clear hhl
          by_cases hk3 : k5 < 3
          · have ta : decide (k5 < 3) = true := by simp [hk3]
            have HPK : Hid (((⟨f, sz, 0⟩ : Pk).flow = f ∧ 1 ≤ (⟨f, sz, 0⟩ : Pk).len ∧ (⟨f, sz, 0⟩ : Pk).len ≤ 90)) := ⟨rfl, HSZ.out.1, HSZ.out.2⟩
            obtain ⟨harr1, harr2⟩ := HSV.out.arr (p := ⟨f, sz, 0⟩) HF5.out rfl
            have hmo8 := HP.out.len8 HSV.out HF5.out
            rw [HHL.out] at hmo8
            have hnon := nonE_len HHL.out
            cases hfl : flFull (g f) with
            | true =>
              rw [hfl] at harr1 harr2
              simp only [if_true] at harr1 harr2
              have HA1 := Lib.hid harr1
              have HA2 := Lib.hid harr2
              clear harr1 harr2 hk3 hfl hnon
              go_wp2_with fail
              refine wp_region_tail 14 (by kernel_rfl) (by kernel_rfl) ?_
              simp only [List.take_succ_cons, List.take_zero, List.drop_succ_cons, List.drop_zero]
              repeat (go_big_quiet_step (fail))
              go_big_quiet_step (exact ((HMA.out _).mono (fun _ _ h => ⟨h.1, h.2.symm⟩)) _)
              repeat (go_big_quiet_step (fail))
              go_big_quiet_step (exact ((HMB.out _).mono (fun _ _ h => ⟨h.1, h.2.symm⟩)) _)
              repeat (go_big_quiet_step (fail))
              refine wpQuiet_nil ?_
              go_wp2_with fail
              refine (mod5_any k _).mono ?_
              rintro e w4 ⟨rfl, rfl⟩
              rw [HK5.out]
              go_wp2_with fail
              refine (HARR.out _ (HP.out.upd (Upd.refl [] wr).drew).sf).mono ?_
              rintro e w5 ⟨rfl, h5⟩
              rw [HA1.out]
              rw [HA2.out] at h5
              obtain ⟨G5, hM5⟩ := (HP.out.upd (Upd.refl [] wr).drew).sfdeed h5
              have HM5 := Lib.hid hM5
              clear h5 hM5
              go_wp2
              exact ⟨⟨i + 1, s, F, S, G5, g, by congr 1, HI1.out, HM5.out.mono (cn0 i), HSV.out⟩, inner_measR HLC.out⟩
            | false =>
              rw [hfl] at harr1 harr2
              simp only [Bool.false_eq_true, if_false] at harr1 harr2
              have HA1 := Lib.hid harr1
              have HA2 := Lib.hid harr2
              obtain ⟨h1, hh1⟩ : ∃ x, hl + 1 = x := ⟨_, rfl⟩
              have HPL : Hid ((flPut (g f) S.v ⟨f, sz, 0⟩).L.length = h1) := by unfold Hid flPut; simp only [List.length_append, List.length_singleton, HHL.out]; exact hh1
              obtain ⟨wh, wh2, hlb⟩ := plus_eqs hh1 hmo8
              clear harr1 harr2 hk3 hfl
              cases hne : nonE (g f) with
              | true =>
                rw [hne] at hnon
                obtain ⟨te, te2⟩ := one_no hh1 hnon
                have HV2 := Lib.hid (HSV.out.more HF5.out hne HPK.out)
                clear hne hnon hh1
                go_wp2_with fail
                refine wp_region_tail 14 (by kernel_rfl) (by kernel_rfl) ?_
                simp only [List.take_succ_cons, List.take_zero, List.drop_succ_cons, List.drop_zero]
                repeat (go_big_quiet_step (fail))
                go_big_quiet_step (exact ((HMA.out _).mono (fun _ _ h => ⟨h.1, h.2.symm⟩)) _)
                repeat (go_big_quiet_step (fail))
                go_big_quiet_step (exact ((HMB.out _).mono (fun _ _ h => ⟨h.1, h.2.symm⟩)) _)
                repeat (go_big_quiet_step (fail))
                refine wpQuiet_nil ?_
                go_wp2_with fail
                refine (mod5_any k _).mono ?_
                rintro e w4 ⟨rfl, rfl⟩
                rw [HK5.out]
                go_wp2_with fail
                refine (HARR.out _ (HP.out.upd (Upd.refl [] wr).drew).sf).mono ?_
                rintro e w5 ⟨rfl, h5⟩
                rw [HA1.out]
                rw [HA2.out] at h5
                obtain ⟨G5, hM5⟩ := (HP.out.upd (Upd.refl [] wr).drew).sfdeed h5
                have x5 := hM5.hs.cell (hasV_at g HF5.out)
                rw [HHL.out] at x5
                have z5 := hM5.hs.free f
                have l5 := hM5.hs.lt
                have HM6 := Lib.hid (hM5.put HF5.out (flPut (g f) S.v ⟨f, sz, 0⟩) HPL.out)
                clear h5 hM5
                go_wp2_with fail
                obtain ⟨S6, hS6⟩ : ∃ x, ({ S with F := S.F.set f (flPut (g f) S.v ⟨f, sz, 0⟩) } : Sf) = x := ⟨_, rfl⟩
                obtain ⟨g6, hg6⟩ : ∃ x, updN g f (flPut (g f) S.v ⟨f, sz, 0⟩) = x := ⟨_, rfl⟩
                obtain ⟨w6, hw6⟩ : ∃ x, w5.setCell ⟨hb, f, none⟩ (.int .i64 h1) = x := ⟨_, rfl⟩
                rw [hS6, hg6, hw6] at HM6
                rw [hS6, hg6] at HV2
                rw [hw6]
                clear hS6 hg6 hw6 x5 z5 l5
                have HCNT : Hid ((3 * i) ≤ 3 * (i + 1)) := cn0 i
                have HLN : Hid (s.L.length ≤ 1000) := ci_len HM6.out.kc.2 HCNT.out HN900.out
                obtain ⟨vv, hvv⟩ : ∃ x, S6.v = x := ⟨_, rfl⟩
                obtain ⟨mm, hmm5⟩ : ∃ x, S6.most = x := ⟨_, rfl⟩
                have HVV : Hid (∀ w', Upd [] w6 w' → Calls Tryz.prog 23 #[.pointer (some ⟨kb, 0, none⟩)] w' (fun e w'' => e = .returned (.int .u64 vv) ∧ w' = w'')) := fun w' hu => by rw [← hvv, ← HV2.out.v]; exact (HM6.out.upd hu).kc.1.v_
                have HMM : Hid (∀ w', Upd [] w6 w' → Calls Tryz.prog 28 #[.pointer (some ⟨kb, 0, none⟩)] w' (fun e w'' => e = .returned (.int .u64 mm) ∧ w' = w'')) := fun w' hu => by rw [← hmm5, ← HV2.out.most]; exact (HM6.out.upd hu).kc.1.most_
                have HII : Hid (∀ w', Upd [] w6 w' → Calls Tryz.prog 22 #[.pointer (some ⟨kb, 0, none⟩)] w' (Told w' s.L [])) := fun w' hu => (HM6.out.upd hu).kc.1.items_ HLN.out
                have HTT : Hid (∀ w', Upd [] w6 w' → Calls Tryz.prog 30 #[.pointer (some ⟨sb, 0, none⟩)] w' (Told w' s.L [])) := fun w' hu => by rw [HV2.out.L]; exact (HM6.out.upd hu).sf.starts
                obtain ⟨q1, q2, lq⟩ : w6.cell? ⟨sb, 1, none⟩ = some (.int .u64 vv) ∧ w6.cell? ⟨sb, 2, none⟩ = some (.int .u64 mm) ∧ sb < w6.heap.size := by
                  obtain ⟨ao, cap, Z, hz, -, -⟩ := HM6.out.sf
                  rw [← hvv, ← hmm5]; exact ⟨hz.cells.2.1, hz.cells.2.2.1, hz.cells.2.2.2⟩
                have tn1 := ne_self vv
                have tn2 := ne_self mm
                clear hvv hmm5
                go_region_held3 (fun w2 => Upd [] w6 w2 ∧ ∀ (b o : Nat), b < w6.heap.size → b ∉ ([] : List Nat) → w2.cell? ⟨b, o, none⟩ = w6.cell? ⟨b, o, none⟩)
                  (first | exact Held.init _ _ | exact Held.step (by assumption) hBc | exact Held.step (by assumption) hBb | exact Held.step (by assumption) hBa | assumption)
                  (first | (go_at_call 23; refine (HVV.out _ (Upd.refl [] w6).drew).mono ?_; rintro e wv ⟨rfl, rfl⟩) | (go_at_call 28; refine (HMM.out _ (Upd.refl [] w6).drew).mono ?_; rintro e wv ⟨rfl, rfl⟩) | (go_at_call 22; refine (HII.out _ (Upd.refl [] w6).drew).mono ?_; rintro e wx ⟨ao1, cap1, rfl, hR1, -, hBa⟩; have H6x := Lib.hid hBa; have HR1 := Lib.hid hR1; clear hR1) | (go_at_call 30; refine (HTT.out _ ((Upd.refl [] w6).drew.trans H6x.out)).mono ?_; rintro e wy ⟨ao2, cap2, rfl, hR2, -, hBb⟩; have H7x := Lib.hid hBb; have HR2 := Lib.hid hR2; clear hR2) | (go_at_call 29; refine (plain_any ao1 ao2 s.L.length cap1 cap2 s.L _ rfl HLN.out (HR1.out.upd H7x.out (by simp)) HR2.out).mono ?_; rintro e wz ⟨rfl, hBc⟩; have H8x := Lib.hid hBc))
                go_wp2
                exact ⟨⟨i + 1, s, _, S6, _, _, by congr 1, HI1.out, (HM6.out.upd (((Upd.refl [] w6).drew.trans (H6x.out.trans H7x.out)).trans H8x.out)).mono HCNT.out, HV2.out⟩, inner_measR HLC.out⟩
              | false =>
                rw [hne] at hnon
                obtain ⟨te, te2⟩ := one_yes hh1 hnon
                obtain ⟨hwb, hV2⟩ := HSV.out.first HCI.out HF5.out hne HPK.out
                obtain ⟨ff, hff⟩ : ∃ x, f * f = x := ⟨_, rfl⟩
                rw [hff] at hV2
                obtain ⟨rr, hrr⟩ : ∃ x, 1 + ff = x := ⟨_, rfl⟩
                rw [hrr] at hV2
                obtain ⟨-, wff, wrr, wuu, hrr64⟩ := ff_eqs HF5.out hff hrr
                have HFE : Hid (IntKind.u64.wrap (wrap64 (1 + wrap64 ((f : Int) * (f : Int)))) = (rr : Int)) := by unfold Hid; rw [wff, wrr, wuu]
                clear wff wrr wuu
                obtain ⟨s7, hs7⟩ : ∃ x, wakeC s (100 + f) f rr = x := ⟨_, rfl⟩
                have HC7 : Hid (CI s7 (3 * i + 1)) := by rw [← hs7]; exact HCI.out.wake _ _ hrr64
                have HV2 := Lib.hid hV2
                rw [hs7] at HV2
                have HWK : Hid (∀ w', KG W kb V s F w' → Calls Tryz.prog 12 #[.pointer (some ⟨kb, 0, none⟩), .int .i64 (100 + f), .agg #[.int .i64 f, .int .i64 0, .int .u64 rr]] w' (fun e w'' => e = .returned (.bool true) ∧ KGTo W kb V s7 F w' w'')) := fun w' hk => by
                  have := hk.wake HCI.out (lt900a HN900.out) (100 + (f : Int)) f 0 rr hrr64
                  rw [hwb, hs7] at this; exact this
                clear hne hnon hh1 hwb hV2 hff hrr hrr64 hs7
                go_wp2_with fail
                refine wp_region_tail 14 (by kernel_rfl) (by kernel_rfl) ?_
                simp only [List.take_succ_cons, List.take_zero, List.drop_succ_cons, List.drop_zero]
                repeat (go_big_quiet_step (fail))
                go_big_quiet_step (exact ((HMA.out _).mono (fun _ _ h => ⟨h.1, h.2.symm⟩)) _)
                repeat (go_big_quiet_step (fail))
                go_big_quiet_step (exact ((HMB.out _).mono (fun _ _ h => ⟨h.1, h.2.symm⟩)) _)
                repeat (go_big_quiet_step (fail))
                refine wpQuiet_nil ?_
                go_wp2_with fail
                refine (mod5_any k _).mono ?_
                rintro e w4 ⟨rfl, rfl⟩
                rw [HK5.out]
                go_wp2_with fail
                refine (HARR.out _ (HP.out.upd (Upd.refl [] wr).drew).sf).mono ?_
                rintro e w5 ⟨rfl, h5⟩
                rw [HA1.out]
                rw [HA2.out] at h5
                obtain ⟨G5, hM5⟩ := (HP.out.upd (Upd.refl [] wr).drew).sfdeed h5
                have x5 := hM5.hs.cell (hasV_at g HF5.out)
                rw [HHL.out] at x5
                have z5 := hM5.hs.free f
                have l5 := hM5.hs.lt
                have HM6 := Lib.hid (hM5.put HF5.out (flPut (g f) S.v ⟨f, sz, 0⟩) HPL.out)
                clear h5 hM5
                go_wp2_with fail
                obtain ⟨S6, hS6⟩ : ∃ x, ({ S with F := S.F.set f (flPut (g f) S.v ⟨f, sz, 0⟩) } : Sf) = x := ⟨_, rfl⟩
                obtain ⟨g6, hg6⟩ : ∃ x, updN g f (flPut (g f) S.v ⟨f, sz, 0⟩) = x := ⟨_, rfl⟩
                obtain ⟨w6, hw6⟩ : ∃ x, w5.setCell ⟨hb, f, none⟩ (.int .i64 h1) = x := ⟨_, rfl⟩
                rw [hS6, hg6, hw6] at HM6
                rw [hS6, hg6] at HV2
                rw [hw6]
                clear hS6 hg6 hw6 x5 z5 l5
                rw [HFE.out]
                refine (HWK.out _ HM6.out.kc.1).mono ?_
                rintro e w7 ⟨rfl, h7⟩
                obtain ⟨F7, hM7⟩ := HM6.out.kdeed h7 HC7.out
                have HM7 := Lib.hid hM7
                clear h7 hM7
                go_wp2_with fail
                have HCNT : Hid ((3 * i + 1) ≤ 3 * (i + 1)) := cn1 i
                have HLN : Hid (s7.L.length ≤ 1000) := ci_len HM7.out.kc.2 HCNT.out HN900.out
                obtain ⟨vv, hvv⟩ : ∃ x, S6.v = x := ⟨_, rfl⟩
                obtain ⟨mm, hmm5⟩ : ∃ x, S6.most = x := ⟨_, rfl⟩
                have HVV : Hid (∀ w', Upd [] w7 w' → Calls Tryz.prog 23 #[.pointer (some ⟨kb, 0, none⟩)] w' (fun e w'' => e = .returned (.int .u64 vv) ∧ w' = w'')) := fun w' hu => by rw [← hvv, ← HV2.out.v]; exact (HM7.out.upd hu).kc.1.v_
                have HMM : Hid (∀ w', Upd [] w7 w' → Calls Tryz.prog 28 #[.pointer (some ⟨kb, 0, none⟩)] w' (fun e w'' => e = .returned (.int .u64 mm) ∧ w' = w'')) := fun w' hu => by rw [← hmm5, ← HV2.out.most]; exact (HM7.out.upd hu).kc.1.most_
                have HII : Hid (∀ w', Upd [] w7 w' → Calls Tryz.prog 22 #[.pointer (some ⟨kb, 0, none⟩)] w' (Told w' s7.L [])) := fun w' hu => (HM7.out.upd hu).kc.1.items_ HLN.out
                have HTT : Hid (∀ w', Upd [] w7 w' → Calls Tryz.prog 30 #[.pointer (some ⟨sb, 0, none⟩)] w' (Told w' s7.L [])) := fun w' hu => by rw [HV2.out.L]; exact (HM7.out.upd hu).sf.starts
                obtain ⟨q1, q2, lq⟩ : w7.cell? ⟨sb, 1, none⟩ = some (.int .u64 vv) ∧ w7.cell? ⟨sb, 2, none⟩ = some (.int .u64 mm) ∧ sb < w7.heap.size := by
                  obtain ⟨ao, cap, Z, hz, -, -⟩ := HM7.out.sf
                  rw [← hvv, ← hmm5]; exact ⟨hz.cells.2.1, hz.cells.2.2.1, hz.cells.2.2.2⟩
                have tn1 := ne_self vv
                have tn2 := ne_self mm
                clear hvv hmm5
                go_region_held3 (fun w2 => Upd [] w7 w2 ∧ ∀ (b o : Nat), b < w7.heap.size → b ∉ ([] : List Nat) → w2.cell? ⟨b, o, none⟩ = w7.cell? ⟨b, o, none⟩)
                  (first | exact Held.init _ _ | exact Held.step (by assumption) hBc | exact Held.step (by assumption) hBb | exact Held.step (by assumption) hBa | assumption)
                  (first | (go_at_call 23; refine (HVV.out _ (Upd.refl [] w7).drew).mono ?_; rintro e wv ⟨rfl, rfl⟩) | (go_at_call 28; refine (HMM.out _ (Upd.refl [] w7).drew).mono ?_; rintro e wv ⟨rfl, rfl⟩) | (go_at_call 22; refine (HII.out _ (Upd.refl [] w7).drew).mono ?_; rintro e wx ⟨ao1, cap1, rfl, hR1, -, hBa⟩; have H6x := Lib.hid hBa; have HR1 := Lib.hid hR1; clear hR1) | (go_at_call 30; refine (HTT.out _ ((Upd.refl [] w7).drew.trans H6x.out)).mono ?_; rintro e wy ⟨ao2, cap2, rfl, hR2, -, hBb⟩; have H7x := Lib.hid hBb; have HR2 := Lib.hid hR2; clear hR2) | (go_at_call 29; refine (plain_any ao1 ao2 s7.L.length cap1 cap2 s7.L _ rfl HLN.out (HR1.out.upd H7x.out (by simp)) HR2.out).mono ?_; rintro e wz ⟨rfl, hBc⟩; have H8x := Lib.hid hBc))
                go_wp2
                exact ⟨⟨i + 1, s7, _, S6, _, _, by congr 1, HI1.out, (HM7.out.upd (((Upd.refl [] w7).drew.trans (H6x.out.trans H7x.out)).trans H8x.out)).mono HCNT.out, HV2.out⟩, inner_measR HLC.out⟩
          · have ta : decide (k5 < 3) = false := by simp; omega
            cases hL : s.L with
            | nil =>
              obtain ⟨hpv, hsv, hV1⟩ := HSV.out.none_ HCI.out hL
              obtain ⟨s1, hs1⟩ : ∃ x, pickC s = x := ⟨_, rfl⟩
              obtain ⟨S1, hS1⟩ : ∃ x, servS S = x := ⟨_, rfl⟩
              rw [hs1, hS1] at hV1
              have HV1 := Lib.hid hV1
              have HC1 : Hid (CI s1 (3 * i + 1)) := by rw [← hs1]; exact HCI.out.pick (by rw [hL]; intro x hx; cases hx)
              have HPK : Hid (∀ w', KG W kb V s F w' → Calls Tryz.prog 13 #[.pointer (some ⟨kb, 0, none⟩)] w' (fun e w'' => e = .returned (.tuple #[.int .i64 0, .int .u64 0, .bool false]) ∧ KGTo W kb V s1 F w' w'')) := fun w' hk => by
                have := hk.pick
                rw [hpv, hs1] at this; exact this
              have HSE : Hid (∀ w', SfG W sb S G w' → Calls Tryz.prog 27 #[.pointer (some ⟨sb, 0, none⟩)] w' (fun e w'' => e = .returned (.tuple #[.agg #[.int .i64 0, .int .i64 0, .int .i64 0], .bool false]) ∧ SfTo W sb S1 G w' w'')) := fun w' hk => by
                have := hk.serve
                rw [hsv, hS1] at this; exact this
              clear hpv hsv hV1 hs1 hS1 hL hk3
              go_wp2_with fail
              refine wp_region_tail 14 (by kernel_rfl) (by kernel_rfl) ?_
              simp only [List.take_succ_cons, List.take_zero, List.drop_succ_cons, List.drop_zero]
              repeat (go_big_quiet_step (fail))
              go_big_quiet_step (exact ((HMA.out _).mono (fun _ _ h => ⟨h.1, h.2.symm⟩)) _)
              repeat (go_big_quiet_step (fail))
              go_big_quiet_step (exact ((HMB.out _).mono (fun _ _ h => ⟨h.1, h.2.symm⟩)) _)
              repeat (go_big_quiet_step (fail))
              refine wpQuiet_nil ?_
              go_wp2_with fail
              refine (mod5_any k _).mono ?_
              rintro e w4 ⟨rfl, rfl⟩
              rw [HK5.out]
              go_wp2_with fail
              refine (HPK.out _ (HP.out.upd (Upd.refl [] wr).drew).kc.1).mono ?_
              rintro e w5 ⟨rfl, h5⟩
              obtain ⟨F5, hM5⟩ := (HP.out.upd (Upd.refl [] wr).drew).kdeed h5 HC1.out
              have HM5 := Lib.hid hM5
              clear h5 hM5
              go_wp2_with fail
              refine (HSE.out _ HM5.out.sf).mono ?_
              rintro e w6 ⟨rfl, h6⟩
              obtain ⟨G6, hM6⟩ := HM5.out.sfdeed h6
              have HM6 := Lib.hid hM6
              clear h6 hM6
              go_wp2_with fail
              obtain ⟨w7, hw7⟩ : ∃ x, w6.alloc (.cells #[.int .i64 0, .int .i64 0, .int .i64 0] 64) = x := ⟨_, rfl⟩
              have HM7 : Hid (SvM W kb V sb hb (3 * i + 1) s1 F5 S1 G6 g w7) := by rw [← hw7]; exact HM6.out.upd ((Upd.refl [] w6).alloc _)
              try rw [hw7]
              clear hw7
              have HCNT : Hid ((3 * i + 1) ≤ 3 * (i + 1)) := cn1 i
              have HLN : Hid (s1.L.length ≤ 1000) := ci_len HM7.out.kc.2 HCNT.out HN900.out
              obtain ⟨vv, hvv⟩ : ∃ x, S1.v = x := ⟨_, rfl⟩
              obtain ⟨mm, hmm5⟩ : ∃ x, S1.most = x := ⟨_, rfl⟩
              have HVV : Hid (∀ w', Upd [] w7 w' → Calls Tryz.prog 23 #[.pointer (some ⟨kb, 0, none⟩)] w' (fun e w'' => e = .returned (.int .u64 vv) ∧ w' = w'')) := fun w' hu => by rw [← hvv, ← HV1.out.v]; exact (HM7.out.upd hu).kc.1.v_
              have HMM : Hid (∀ w', Upd [] w7 w' → Calls Tryz.prog 28 #[.pointer (some ⟨kb, 0, none⟩)] w' (fun e w'' => e = .returned (.int .u64 mm) ∧ w' = w'')) := fun w' hu => by rw [← hmm5, ← HV1.out.most]; exact (HM7.out.upd hu).kc.1.most_
              have HII : Hid (∀ w', Upd [] w7 w' → Calls Tryz.prog 22 #[.pointer (some ⟨kb, 0, none⟩)] w' (Told w' s1.L [])) := fun w' hu => (HM7.out.upd hu).kc.1.items_ HLN.out
              have HTT : Hid (∀ w', Upd [] w7 w' → Calls Tryz.prog 30 #[.pointer (some ⟨sb, 0, none⟩)] w' (Told w' s1.L [])) := fun w' hu => by rw [HV1.out.L]; exact (HM7.out.upd hu).sf.starts
              obtain ⟨q1, q2, lq⟩ : w7.cell? ⟨sb, 1, none⟩ = some (.int .u64 vv) ∧ w7.cell? ⟨sb, 2, none⟩ = some (.int .u64 mm) ∧ sb < w7.heap.size := by
                obtain ⟨ao, cap, Z, hz, -, -⟩ := HM7.out.sf
                rw [← hvv, ← hmm5]; exact ⟨hz.cells.2.1, hz.cells.2.2.1, hz.cells.2.2.2⟩
              have tn1 := ne_self vv
              have tn2 := ne_self mm
              clear hvv hmm5
              go_region_held3 (fun w2 => Upd [] w7 w2 ∧ ∀ (b o : Nat), b < w7.heap.size → b ∉ ([] : List Nat) → w2.cell? ⟨b, o, none⟩ = w7.cell? ⟨b, o, none⟩)
                (first | exact Held.init _ _ | exact Held.step (by assumption) hBc | exact Held.step (by assumption) hBb | exact Held.step (by assumption) hBa | assumption)
                (first | (go_at_call 23; refine (HVV.out _ (Upd.refl [] w7).drew).mono ?_; rintro e wv ⟨rfl, rfl⟩) | (go_at_call 28; refine (HMM.out _ (Upd.refl [] w7).drew).mono ?_; rintro e wv ⟨rfl, rfl⟩) | (go_at_call 22; refine (HII.out _ (Upd.refl [] w7).drew).mono ?_; rintro e wx ⟨ao1, cap1, rfl, hR1, -, hBa⟩; have H6x := Lib.hid hBa; have HR1 := Lib.hid hR1; clear hR1) | (go_at_call 30; refine (HTT.out _ ((Upd.refl [] w7).drew.trans H6x.out)).mono ?_; rintro e wy ⟨ao2, cap2, rfl, hR2, -, hBb⟩; have H7x := Lib.hid hBb; have HR2 := Lib.hid hR2; clear hR2) | (go_at_call 29; refine (plain_any ao1 ao2 s1.L.length cap1 cap2 s1.L _ rfl HLN.out (HR1.out.upd H7x.out (by simp)) HR2.out).mono ?_; rintro e wz ⟨rfl, hBc⟩; have H8x := Lib.hid hBc))
              go_wp2
              exact ⟨⟨i + 1, s1, _, S1, _, _, by congr 1, HI1.out, (HM7.out.upd (((Upd.refl [] w7).drew.trans (H6x.out.trans H7x.out)).trans H8x.out)).mono HCNT.out, HV1.out⟩, inner_measR HLC.out⟩
            | cons x l =>
              obtain ⟨b, p, rest, pl0, hb5, hgb, hpf, hp1, hp90, hpv, hsv, hpis, hV2⟩ := HSV.out.serve HCI.out HP.out.kc.1.keysL hL
              obtain ⟨pln, hpln⟩ : ∃ x, p.len = x := ⟨_, rfl⟩
              obtain ⟨mk, hmk⟩ : ∃ x, p.mark = x := ⟨_, rfl⟩
              rw [hpf, hpln, hmk] at hsv
              rw [hpln] at hV2 hp1 hp90
              obtain ⟨s1, hs1⟩ : ∃ x, pickC s = x := ⟨_, rfl⟩
              obtain ⟨S1, hS1⟩ : ∃ x, servS S = x := ⟨_, rfl⟩
              obtain ⟨rl, hrl⟩ : ∃ x, rest.length = x := ⟨_, rfl⟩
              obtain ⟨ml, hml⟩ : ∃ x, decide (0 < rl) = x := ⟨_, rfl⟩
              rw [hs1, hS1, hrl, hml] at hV2
              rw [hs1] at hpis
              obtain ⟨s2, hs2⟩ : ∃ x, doneC s1 pln ml = x := ⟨_, rfl⟩
              obtain ⟨g2, hg2⟩ : ∃ x, updN g b (flTake (g b) p) = x := ⟨_, rfl⟩
              rw [hs2, hg2] at hV2
              have HV2 := Lib.hid hV2
              have HC1 : Hid (CI s1 (3 * i + 1)) := by rw [← hs1]; exact HCI.out.pick (fun x hx => (HP.out.kc.1.keysL x hx).2)
              have HC2 : Hid (CI s2 (3 * i + 2)) := by rw [← hs2]; exact HC1.out.done pln ml
              have HPK : Hid (∀ w', KG W kb V s F w' → Calls Tryz.prog 13 #[.pointer (some ⟨kb, 0, none⟩)] w' (fun e w'' => e = .returned (.tuple #[.int .i64 (100 + b), .int .u64 pl0, .bool true]) ∧ KGTo W kb V s1 F w' w'')) := fun w' hk => by
                have := hk.pick
                rw [hpv, hs1] at this; exact this
              have HSE : Hid (∀ w', SfG W sb S G w' → Calls Tryz.prog 27 #[.pointer (some ⟨sb, 0, none⟩)] w' (fun e w'' => e = .returned (.tuple #[.agg #[.int .i64 b, .int .i64 pln, .int .i64 mk], .bool true]) ∧ SfTo W sb S1 G w' w'')) := fun w' hk => by
                have := hk.serve
                rw [hsv, hS1] at this; exact this
              have HDN : Hid (∀ w' F', KG W kb V s1 F' w' → Calls Tryz.prog 14 #[.pointer (some ⟨kb, 0, none⟩), .int .i64 pln, .bool ml] w' (fun e w'' => e = .returned (.bool true) ∧ KGTo W kb V s2 F' w' w'')) := fun w' F' hk => by
                have := hk.done HC1.out (lt900b HN900.out) pln (len63 hp90) ml
                rw [hpis, hs2] at this; exact this
              obtain ⟨h0, hh0⟩ : ∃ x, (g b).L.length = x := ⟨_, rfl⟩
              have hh01 : h0 = rl + 1 := by rw [← hh0, hgb, ← hrl]; exact List.length_cons
              have hmo8 := HP.out.len8 HSV.out hb5
              rw [hh0] at hmo8
              have wb1 := b100 hb5
              obtain ⟨wm, wm2⟩ := minus_eqs hh01 hmo8
              have tml := gt_cast hml
              have bb := cast5 hb5
              have tnb := ne100 b
              have HB5 := Lib.hid hb5
              have HH0 := Lib.hid hh0
              have HML := Lib.hid hml
              have HTL : Hid ((flTake (g b) p).L.length = rl) := by unfold Hid; show (g b).L.tail.length = rl; rw [hgb]; exact hrl
              have HG2 := Lib.hid hg2
              have HLG2 : Hid ((g2 b).L.length = rl) := by unfold Hid; rw [← hg2, updN_same]; exact HTL.out
              clear hpv hsv hV2 hs1 hS1 hL hk3 hpis hgb hpf hp1 hp90 hpln hmk hrl hs2 hh0 hh01 hmo8 hb5 hg2 x
              go_wp2_with fail
              refine wp_region_tail 14 (by kernel_rfl) (by kernel_rfl) ?_
              simp only [List.take_succ_cons, List.take_zero, List.drop_succ_cons, List.drop_zero]
              repeat (go_big_quiet_step (fail))
              go_big_quiet_step (exact ((HMA.out _).mono (fun _ _ h => ⟨h.1, h.2.symm⟩)) _)
              repeat (go_big_quiet_step (fail))
              go_big_quiet_step (exact ((HMB.out _).mono (fun _ _ h => ⟨h.1, h.2.symm⟩)) _)
              repeat (go_big_quiet_step (fail))
              refine wpQuiet_nil ?_
              go_wp2_with fail
              refine (mod5_any k _).mono ?_
              rintro e w4 ⟨rfl, rfl⟩
              rw [HK5.out]
              go_wp2_with fail
              refine (HPK.out _ (HP.out.upd (Upd.refl [] wr).drew).kc.1).mono ?_
              rintro e w5 ⟨rfl, h5⟩
              obtain ⟨F5, hM5⟩ := (HP.out.upd (Upd.refl [] wr).drew).kdeed h5 HC1.out
              have HM5 := Lib.hid hM5
              clear h5 hM5
              go_wp2_with fail
              refine (HSE.out _ HM5.out.sf).mono ?_
              rintro e w6 ⟨rfl, h6⟩
              obtain ⟨G6, hM6⟩ := HM5.out.sfdeed h6
              obtain ⟨w7, hw7⟩ : ∃ x, w6.alloc (.cells #[.int .i64 b, .int .i64 pln, .int .i64 mk] 64) = x := ⟨_, rfl⟩
              have hu7 : Upd [] w6 w7 := by rw [← hw7]; exact (Upd.refl [] w6).alloc _
              have hb7 : Blk w7 w6.heap.size 64 [.int .i64 b, .int .i64 pln, .int .i64 mk] := by rw [← hw7]; exact Blk.new w6 64 _
              have hM7 := hM6.upd hu7
              have y7 := hM7.hs.cell (hasV_at g HB5.out)
              rw [HH0.out] at y7
              have z7 := hM7.hs.free b
              have l7 := hM7.hs.lt
              have k0 := hb7.cell (j := 0) rfl
              have k1 := hb7.cell (j := 1) rfl
              have lk := hb7.lt
              have hnk : w6.heap.size ≠ hb := fun hc => Nat.lt_irrefl _ (hc ▸ hM6.hs.lt)
              have hnk2 := hnk.symm
              have HM8 := Lib.hid (hM7.put HB5.out (flTake (g b) p) HTL.out)
              rw [HG2.out] at HM8
              obtain ⟨bk, hbk⟩ : ∃ x, w6.heap.size = x := ⟨_, rfl⟩
              rw [hbk] at k0 k1 lk hnk hnk2
              clear h6 hM6 hu7 hb7 hM7
              go_wp2_with fail
              obtain ⟨w8, hw8⟩ : ∃ x, w7.setCell ⟨hb, b, none⟩ (.int .i64 rl) = x := ⟨_, rfl⟩
              have v0 := (((Upd.refl [hb] w7).setCell (p := ⟨hb, b, none⟩) (.inl (by simp)) (.int .i64 rl)).cell lk (by simpa using hnk) 0).trans k0
              have v1 := (((Upd.refl [hb] w7).setCell (p := ⟨hb, b, none⟩) (.inl (by simp)) (.int .i64 rl)).cell lk (by simpa using hnk) 1).trans k1
              rw [hw8] at v0 v1 HM8
              have v8 := HM8.out.hs.cell (hasV_at g2 HB5.out)
              rw [HLG2.out] at v8
              have l8 := HM8.out.hs.lt
              have lk8 := Nat.lt_of_lt_of_le lk (Go.Proofs.YtolohheflbmfaaaGreatDoor.World.size_le hw8)
              try rw [hw8]
              clear hw8 y7 z7 l7 k0 k1 lk
              refine wp_region_tail 8 (by kernel_rfl) (by kernel_rfl) ?_
              simp only [List.take_succ_cons, List.take_zero, List.drop_succ_cons, List.drop_zero]
              repeat (go_big_quiet_step (fail))
              refine wpQuiet_nil ?_
              go_wp2_with fail
              refine (HDN.out _ _ (HM8.out.upd (Upd.refl [] w8).drew).kc.1).mono ?_
              rintro e w9 ⟨rfl, h9⟩
              obtain ⟨F9, hM9⟩ := (HM8.out.upd (Upd.refl [] w8).drew).kdeed h9 HC2.out
              have HM9 := Lib.hid hM9
              clear h9 hM9
              go_wp2_with fail
              have HCNT : Hid ((3 * i + 2) ≤ 3 * (i + 1)) := cn2 i
              have HLN : Hid (s2.L.length ≤ 1000) := ci_len HM9.out.kc.2 HCNT.out HN900.out
              obtain ⟨vv, hvv⟩ : ∃ x, S1.v = x := ⟨_, rfl⟩
              obtain ⟨mm, hmm5⟩ : ∃ x, S1.most = x := ⟨_, rfl⟩
              have HVV : Hid (∀ w', Upd [] w9 w' → Calls Tryz.prog 23 #[.pointer (some ⟨kb, 0, none⟩)] w' (fun e w'' => e = .returned (.int .u64 vv) ∧ w' = w'')) := fun w' hu => by rw [← hvv, ← HV2.out.v]; exact (HM9.out.upd hu).kc.1.v_
              have HMM : Hid (∀ w', Upd [] w9 w' → Calls Tryz.prog 28 #[.pointer (some ⟨kb, 0, none⟩)] w' (fun e w'' => e = .returned (.int .u64 mm) ∧ w' = w'')) := fun w' hu => by rw [← hmm5, ← HV2.out.most]; exact (HM9.out.upd hu).kc.1.most_
              have HII : Hid (∀ w', Upd [] w9 w' → Calls Tryz.prog 22 #[.pointer (some ⟨kb, 0, none⟩)] w' (Told w' s2.L [])) := fun w' hu => (HM9.out.upd hu).kc.1.items_ HLN.out
              have HTT : Hid (∀ w', Upd [] w9 w' → Calls Tryz.prog 30 #[.pointer (some ⟨sb, 0, none⟩)] w' (Told w' s2.L [])) := fun w' hu => by rw [HV2.out.L]; exact (HM9.out.upd hu).sf.starts
              obtain ⟨q1, q2, lq⟩ : w9.cell? ⟨sb, 1, none⟩ = some (.int .u64 vv) ∧ w9.cell? ⟨sb, 2, none⟩ = some (.int .u64 mm) ∧ sb < w9.heap.size := by
                obtain ⟨ao, cap, Z, hz, -, -⟩ := HM9.out.sf
                rw [← hvv, ← hmm5]; exact ⟨hz.cells.2.1, hz.cells.2.2.1, hz.cells.2.2.2⟩
              have tn1 := ne_self vv
              have tn2 := ne_self mm
              clear hvv hmm5
              go_region_held3 (fun w2 => Upd [] w9 w2 ∧ ∀ (b o : Nat), b < w9.heap.size → b ∉ ([] : List Nat) → w2.cell? ⟨b, o, none⟩ = w9.cell? ⟨b, o, none⟩)
                (first | exact Held.init _ _ | exact Held.step (by assumption) hBc | exact Held.step (by assumption) hBb | exact Held.step (by assumption) hBa | assumption)
                (first | (go_at_call 23; refine (HVV.out _ (Upd.refl [] w9).drew).mono ?_; rintro e wv ⟨rfl, rfl⟩) | (go_at_call 28; refine (HMM.out _ (Upd.refl [] w9).drew).mono ?_; rintro e wv ⟨rfl, rfl⟩) | (go_at_call 22; refine (HII.out _ (Upd.refl [] w9).drew).mono ?_; rintro e wx ⟨ao1, cap1, rfl, hR1, -, hBa⟩; have H6x := Lib.hid hBa; have HR1 := Lib.hid hR1; clear hR1) | (go_at_call 30; refine (HTT.out _ ((Upd.refl [] w9).drew.trans H6x.out)).mono ?_; rintro e wy ⟨ao2, cap2, rfl, hR2, -, hBb⟩; have H7x := Lib.hid hBb; have HR2 := Lib.hid hR2; clear hR2) | (go_at_call 29; refine (plain_any ao1 ao2 s2.L.length cap1 cap2 s2.L _ rfl HLN.out (HR1.out.upd H7x.out (by simp)) HR2.out).mono ?_; rintro e wz ⟨rfl, hBc⟩; have H8x := Lib.hid hBc))
              go_wp2
              exact ⟨⟨i + 1, s2, _, S1, _, _, by congr 1, HI1.out, (HM9.out.upd (((Upd.refl [] w9).drew.trans (H6x.out.trans H7x.out)).trans H8x.out)).mono HCNT.out, HV2.out⟩, inner_measR HLC.out⟩
        · skip
          have t1 : Hid (decide (i < m) = true ∧ decide ((i : Int) < 80) = false ∨ decide (i < m) = false) := by
            have := HC.out
            unfold Hid
            by_cases h : i < m
            · left; exact ⟨by simp; omega, by simp; omega⟩
            · right; simp; omega
          rcases t1.out with ⟨t2, t3⟩ | t2
          all_goals
            clear t1
            go_wp2
            go_ret
            exact ⟨rfl, HP.out.updW⟩
end Go.Proofs.YtolohheflbmfaaaGreatDoor
