/-
  The document's Sfq: Serve. No condition.
-/
import Derived.Test.YtmfndemnogpmcaaFe
set_option linter.unusedVariables false
set_option linter.unusedSimpArgs false
namespace Go.Proofs.Ytmfndemnogpmcaa
open Go.RowKit

/-- Who is first, among the first k. -/
def bestTo (F : List Fl) : Nat → Int
  | 0 => -1
  | k + 1 => match F[k]? with
    | some f => if nonE f = true ∧ (bestTo F k < 0 ∨ f.start < (flAt F (bestTo F k)).start) then (k : Int) else bestTo F k
    | none => bestTo F k
theorem bestTo_step {F : List Fl} {k : Nat} {f : Fl} (hf : F[k]? = some f) : bestTo F (k + 1) = if nonE f = true ∧ (bestTo F k < 0 ∨ f.start < (flAt F (bestTo F k)).start) then (k : Int) else bestTo F k := by
  show (match F[k]? with | some f => _ | none => _) = _
  rw [hf]
theorem best_spec (F : List Fl) : ∀ k, k ≤ F.length → (bestTo F k = -1 ∧ ∀ j f, j < k → F[j]? = some f → nonE f = false) ∨ ∃ (b : Nat) (g : Fl), bestTo F k = b ∧ b < k ∧ F[b]? = some g ∧ nonE g = true ∧ ∀ j f, j < k → F[j]? = some f → nonE f = true → (g.start < f.start ∨ (g.start = f.start ∧ b ≤ j)) := by
  intro k
  induction k with
  | zero => intro _; exact .inl ⟨rfl, fun j f hj => by omega⟩
  | succ k ih =>
    intro hk
    obtain ⟨f, hf⟩ : ∃ f, F[k]? = some f := ⟨_, List.getElem?_eq_getElem (by omega)⟩
    rw [bestTo_step hf]
    rcases ih (by omega) with ⟨h1, h2⟩ | ⟨b, g, h1, h2, h3, h4, h5⟩
    · by_cases hn : nonE f = true
      · right
        rw [if_pos ⟨hn, .inl (by rw [h1]; omega)⟩]
        refine ⟨k, f, rfl, by omega, hf, hn, fun j x hj hx hxn => ?_⟩
        by_cases e : j = k
        · subst e; rw [hf] at hx; cases hx; exact .inr ⟨rfl, Nat.le_refl _⟩
        · have := h2 j x (by omega) hx; rw [this] at hxn; cases hxn
      · left
        rw [if_neg (fun h => hn h.1)]
        refine ⟨h1, fun j x hj hx => ?_⟩
        by_cases e : j = k
        · subst e; rw [hf] at hx; cases hx; simpa using hn
        · exact h2 j x (by omega) hx
    · right
      have hb : flAt F (bestTo F k) = g := by rw [h1]; exact flAt_get h3
      by_cases hn : nonE f = true ∧ (bestTo F k < 0 ∨ f.start < (flAt F (bestTo F k)).start)
      · rw [if_pos hn]
        have hlt : f.start < g.start := by
          rcases hn.2 with h | h
          · omega
          · rw [hb] at h; exact h
        refine ⟨k, f, rfl, by omega, hf, hn.1, fun j x hj hx hxn => ?_⟩
        by_cases e : j = k
        · subst e; rw [hf] at hx; cases hx; exact .inr ⟨rfl, Nat.le_refl _⟩
        · rcases h5 j x (by omega) hx hxn with h | h
          · left; omega
          · left; omega
      · rw [if_neg hn]
        refine ⟨b, g, h1, by omega, h3, h4, fun j x hj hx hxn => ?_⟩
        by_cases e : j = k
        · subst e; rw [hf] at hx; cases hx
          have : ¬ f.start < g.start := fun h => hn ⟨hxn, .inr (by rw [hb]; exact h)⟩
          rcases Nat.lt_or_ge g.start f.start with h | h
          · exact .inl h
          · exact .inr ⟨by omega, by omega⟩
        · exact h5 j x (by omega) hx hxn
def bestF (F : List Fl) : Int := bestTo F F.length

/-- What Serve tells, and leaves. -/
def servV (S : Sf) : Value := if bestF S.F < 0 then .tuple #[pkV zPk, .bool false] else match (flAt S.F (bestF S.F)).L with
  | [] => .tuple #[pkV zPk, .bool false]
  | p :: _ => .tuple #[pkV p, .bool true]
def servS (S : Sf) : Sf := if bestF S.F < 0 then { S with v := max S.v S.most } else match (flAt S.F (bestF S.F)).L with
  | [] => S
  | p :: _ => { F := S.F.set (bestF S.F).toNat (flTake (flAt S.F (bestF S.F)) p), v := (flAt S.F (bestF S.F)).start, most := max S.most (flFin (flAt S.F (bestF S.F)) p) }
theorem servV_no {S : Sf} (h : bestF S.F = -1) : servV S = .tuple #[.agg #[.int .i64 0, .int .i64 0, .int .i64 0], .bool false] ∧ servS S = { S with v := max S.v S.most } := by
  unfold servV servS; rw [h]; exact ⟨rfl, rfl⟩
theorem servV_yes {S : Sf} {b : Nat} {f : Fl} {p : Pk} {l : List Pk} (h : bestF S.F = b) (hf : S.F[b]? = some f) (hL : f.L = p :: l) :
    servV S = .tuple #[.agg #[.int .i64 p.flow, .int .i64 p.len, .int .i64 p.mark], .bool true] ∧ servS S = { F := S.F.set b (flTake f p), v := f.start, most := max S.most (flFin f p) } := by
  unfold servV servS
  rw [h, if_neg (by omega), if_neg (by omega), flAt_get hf, hL, Int.toNat_natCast]
  exact ⟨rfl, rfl⟩
theorem Fr.thenT {F F' S : List Nat} {w w2 w3 : World} (h : Fr F F' w w2) (hu : Upd S w2 w3) (hs : ∀ c ∈ S, c ∈ F ∨ w.heap.size ≤ c) : Fr F F' w w3 :=
  ⟨h.1, h.2.then hu (fun _ _ e => e) (fun i hi hm => (hs i hm).elim id (fun e => by omega))⟩
def SfServeAt (F : List Fl) (w0 : World) (bv iv : Value) (wr : World) : Prop := ∃ i : Nat, iv = .int .i64 i ∧ bv = .int .i64 (bestTo F i) ∧ i ≤ F.length ∧ Upd [] w0 wr

set_option maxRecDepth 100000 in
set_option maxHeartbeats 32000000 in
theorem SfG.serve {W w : World} {sb : Nat} {S : Sf} {G : List Nat} (h : SfG W sb S G w) :
    Calls Try.prog 68 #[.pointer (some ⟨sb, 0, none⟩)] w (fun e w' => e = .returned (servV S) ∧ SfTo W sb (servS S) G w w') := by
  have HG := Lib.hid h
  obtain ⟨ao, cap, Z, h, hF, hGe⟩ := h
  have HGE := Lib.hid hGe
  have HH := Lib.hid h
  have HF := Lib.hid hF
  have hZF : Z.length = S.F.length := by rw [← hF, List.length_map]
  obtain ⟨n, hn⟩ : ∃ n, Z.length = n := ⟨_, rfl⟩
  have HN : Hid (S.F.length = n) := by unfold Hid; omega
  have HNZ := Lib.hid hn
  have hsm := h.small
  rw [hn] at hsm
  clear h hF hZF hn hGe
  obtain ⟨wa, hwa⟩ : ∃ x, w.alloc (.cells #[.int .i64 0, .int .i64 0, .int .i64 0] 94) = x := ⟨_, rfl⟩
  have HUA : Hid (Upd [] w wa) := by rw [← hwa]; exact (Upd.refl [] w).alloc _
  have HBZ : Hid (Blk wa w.heap.size 94 [.int .i64 0, .int .i64 0, .int .i64 0]) := by rw [← hwa]; exact Blk.new w 94 _
  obtain ⟨bz, hbz⟩ : ∃ x, w.heap.size = x := ⟨_, rfl⟩
  have HBW : Hid (w.heap.size = bz) := hbz
  rw [hbz] at HBZ
  go_enter Try.func68, Try.ntmps68
  go_wp2_with fail
  try rw [hbz]
  clear hwa hbz
  go_loopw [4, 5] (fun bv iv wr => SfServeAt S.F wa bv iv wr) (fun _ iv _ => n - (intOf iv).toNat)
  case atStart => exact ⟨0, rfl, rfl, Nat.zero_le _, Upd.refl _ _⟩
  case round =>
    obtain ⟨i, rfl, rfl, hi, hU⟩ := hrel
    rw [HN.out] at hi
    have hzr := HH.out.upd (HUA.out.trans hU)
    obtain ⟨c0, c1, c2, lb⟩ := hzr.cells
    rw [HNZ.out] at c0
    have HU := Lib.hid hU
    by_cases hlt : i < n
    · have t1 : decide (i < n) = true := by simp [hlt]
      have b1 : (i : Int) < (n : Int) := by omega
      obtain ⟨f, hf⟩ : ∃ f, S.F[i]? = some f := ⟨_, List.getElem?_eq_getElem (by rw [HN.out]; exact hlt)⟩
      obtain ⟨e, he, hef⟩ := map_at HF.out hf
      obtain ⟨g, hg, x0, lg, hE, -⟩ := hzr.at_ he
      subst hg
      obtain ⟨-, -, -, y3, y4, -, ly⟩ := hE.cells
      rw [hef] at y3 y4
      obtain ⟨k, hk⟩ : ∃ k, f.L.length = k := ⟨_, rfl⟩
      rw [hk] at y3
      have hst := bestTo_step hf
      have HLT := Lib.hid hlt
      have HZR := Lib.hid hzr
      have hspec := best_spec S.F i (by rw [HN.out]; omega)
      have hnon : nonE f = decide (0 < k) := by unfold nonE; rw [hk]
      obtain ⟨bb, hbb⟩ : ∃ x, bestTo S.F i = x := ⟨_, rfl⟩
      rw [hbb] at hst hspec ⊢
      obtain ⟨fs, hfs⟩ : ∃ x, f.start = x := ⟨_, rfl⟩
      rw [hfs] at y4 hst
      have HU := Lib.hid hU
      clear hE hf he hef hzr hU hk hi hlt hbb hfs
      by_cases hk0 : 0 < k
      · have t2 : decide (0 < k) = true := by simp [hk0]
        have t3 : decide ((0 : Int) < (k : Int)) = true := by simp; omega
        have hnt : nonE f = true := by rw [hnon]; exact t2
        rcases hspec with ⟨rfl, -⟩ | ⟨b, gg, rfl, hb, hgg, -, -⟩
        · have HST : Hid (bestTo S.F (i + 1) = i) := by unfold Hid; rw [hst, if_pos ⟨hnt, .inl (by omega)⟩]
          clear hst hnon hnt hk0
          go_wp2_with fail
          go_quiet (fail)
          go_wp2
          exact ⟨⟨i + 1, by congr 1, by rw [HST.out], by rw [HN.out]; exact HLT.out, HU.out.drewN nq⟩, by have := HLT.out; simp [intOf]; omega⟩
        · obtain ⟨e2, he2, hef2⟩ := map_at HF.out hgg
          obtain ⟨g', hg', x2, -, hE2, hbn⟩ := HZR.out.at_ he2
          cases hg'
          obtain ⟨-, -, -, -, y24, -, ly2⟩ := hE2.cells
          rw [hef2] at y24
          rw [HNZ.out] at hbn
          have b2 : (b : Int) < (n : Int) := by omega
          have t4 : decide ((b : Int) < 0) = false := by simp
          have hfl : flAt S.F (b : Int) = gg := flAt_get hgg
          rw [hfl] at hst
          obtain ⟨gs, hgs⟩ : ∃ x, gg.start = x := ⟨_, rfl⟩
          rw [hgs] at y24 hst
          clear hE2 he2 hef2 hgg hfl hgs
          by_cases hless : fs < gs
          · have t5 : decide (fs < gs) = true := by simp [hless]
            have t6 : decide ((fs : Int) < (gs : Int)) = true := by simp; omega
            have HST : Hid (bestTo S.F (i + 1) = i) := by unfold Hid; rw [hst, if_pos ⟨hnt, .inr hless⟩]
            clear hst hnon hnt hk0 hless
            go_wp2_with fail
            go_quiet (fail)
            go_wp2
            exact ⟨⟨i + 1, by congr 1, by rw [HST.out], by rw [HN.out]; exact HLT.out, HU.out.drewN nq⟩, by have := HLT.out; simp [intOf]; omega⟩
          · have t5 : decide (fs < gs) = false := by simp; omega
            have t6 : decide ((fs : Int) < (gs : Int)) = false := by simp; omega
            have HST : Hid (bestTo S.F (i + 1) = b) := by unfold Hid; rw [hst, if_neg (fun h => by rcases h.2 with h | h; (omega); exact hless h)]
            clear hst hnon hnt hk0 hless
            go_wp2_with fail
            go_quiet (fail)
            go_wp2
            exact ⟨⟨i + 1, by congr 1, by rw [HST.out], by rw [HN.out]; exact HLT.out, HU.out.drewN nq⟩, by have := HLT.out; simp [intOf]; omega⟩
      · have t2 : decide (0 < k) = false := by simp; omega
        have t3 : decide ((0 : Int) < (k : Int)) = false := by simp; omega
        have HST : Hid (bestTo S.F (i + 1) = bb) := by unfold Hid; rw [hst, if_neg (fun h => by rw [hnon, t2] at h; cases h.1)]
        clear hst hnon hk0 hspec
        go_wp2_with fail
        go_quiet (fail)
        go_wp2
        exact ⟨⟨i + 1, by congr 1, by rw [HST.out], by rw [HN.out]; exact HLT.out, HU.out.drewN nq⟩, by have := HLT.out; simp [intOf]; omega⟩
    · have t1 : decide (i < n) = false := by simp; omega
      have hin : i = S.F.length := by rw [HN.out]; omega
      have hspec := best_spec S.F i (by omega)
      have hbi : bestTo S.F i = bestTo S.F S.F.length := by rw [hin]
      rw [hin] at hspec
      rw [hbi]
      have HSPEC := Lib.hid hspec
      have hbW : bz ∉ G := fun hc => by have := HG.out.lt bz hc; have := HBW.out; omega
      have HBG := Lib.hid hbW
      have hzb := HBZ.out.upd hU (by simp)
      have HZR := Lib.hid hzr
      have HUW : Hid (Upd [] w wr) := HUA.out.trans hU
      have hsG : sb ∈ G := by rw [HGE.out]; simp [sfB]
      have hne : bz ≠ sb := fun hc => hbW (hc ▸ hsG)
      have hne2 := hne.symm
      have HSG := Lib.hid hsG
      clear hin hspec hbW hsG hlt hi hbi
      rcases HSPEC.out with ⟨hb, -⟩ | ⟨b, f, hb, hbl, hf, hnon, -⟩
      · obtain ⟨hv1, hv2⟩ := servV_no (S := S) hb
        rw [hb]
        obtain ⟨mx, hmx⟩ : ∃ x, max S.v S.most = x := ⟨_, rfl⟩
        rw [hmx] at hv2
        have HV1 := Lib.hid hv1
        have HV2 := Lib.hid hv2
        have hmxi : Max.max (S.v : Int) (S.most : Int) = (mx : Int) := by omega
        have hmx64 : mx < 18446744073709551616 := by have := hzr.v64; have := hzr.m64; omega
        have HM64 := Lib.hid hmx64
        have z1 := hzr.blk.free 1
        have HZB := Lib.hid hzb
        clear hb hv1 hv2 hmx hzr hU hmx64 hzb
        go_wp2_with fail
        go_region
        all_goals
          obtain ⟨w4, hw4⟩ : ∃ x, (wr.setCell ⟨sb, 1, none⟩ (.int .u64 mx)).drew = x := ⟨_, rfl⟩
          have hu4 : Upd [sb] wr w4 := by rw [← hw4]; exact ((Upd.refl [sb] wr).setCell (.inl (by simp)) _).drew
          have hz4 := HZR.out.nums (v' := mx) (m' := S.most) (w' := w4) (by rw [← hw4]; exact (HZR.out.blk.set 1 (.int .u64 mx)).upd (Upd.refl [] _).drew (by simp)) hu4 HM64.out HZR.out.m64
          have hb4 := HZB.out.upd hu4 (by simpa using hne)
          rw [hw4]
          have q0 := hb4.cell (j := 0) rfl
          have q1 := hb4.cell (j := 1) rfl
          have q2 := hb4.cell (j := 2) rfl
          have p0 := hb4.free 0
          have p1 := hb4.free 1
          have p2 := hb4.free 2
          have lz := hb4.lt
          have HZ4 := Lib.hid hz4
          have HU4 := Lib.hid hu4
          clear hw4 hu4 hz4 hb4 c0 c1 c2 lb z1
          go_wp2_with fail
          refine bodyPost_ret (v := .tuple #[.agg #[.int .i64 0, .int .i64 0, .int .i64 0], .bool false]) (by simp [results, Try.results68, go_sem, q0, q1, q2]) rfl ?_
          have u5 : Upd [bz] w4 (((w4.setCell ⟨bz, 0, none⟩ (.int .i64 0)).setCell ⟨bz, 1, none⟩ (.int .i64 0)).setCell ⟨bz, 2, none⟩ (.int .i64 0)) := (((Upd.refl [bz] w4).setCell (.inl (by simp)) _).setCell (.inl (by simp)) _).setCell (.inl (by simp)) _
          refine ⟨by rw [HV1.out], G, by rw [HV2.out]; exact ⟨ao, cap, Z, HZ4.out.updS u5 (fun c hc hc2 => by simp only [List.mem_cons, List.not_mem_nil, or_false] at hc2; subst hc2; exact HBG.out (by rw [HGE.out]; exact hc)), HF.out, HGE.out⟩, ((Fr.of HUW.out).thenT HU4.out (fun c hc => by simp only [List.mem_cons, List.not_mem_nil, or_false] at hc; subst hc; exact .inl HSG.out)).thenT u5 (fun c hc => by simp only [List.mem_cons, List.not_mem_nil, or_false] at hc; subst hc; exact .inr (by have := HBW.out; omega))⟩
      · obtain ⟨e, he, hef⟩ := map_at HF.out hf
        obtain ⟨g, hg, x0, lg, hE, hbn⟩ := hzr.at_ he
        subst hg
        obtain ⟨-, -, -, -, y4, -, ly⟩ := hE.cells
        rw [hef] at y4
        rw [HNZ.out] at hbn
        have b2 : (b : Int) < (n : Int) := by omega
        have t4 : decide ((b : Int) < 0) = false := by simp
        cases hL : f.L with
        | nil => unfold nonE at hnon; rw [hL] at hnon; simp at hnon
        | cons p l =>
          obtain ⟨hv1, hv2⟩ := servV_yes hb hf hL
          have hsv : serveV e.f = .tuple #[.agg #[.int .i64 p.flow, .int .i64 p.len, .int .i64 p.mark], .int .u64 (flFin f p), .bool true] ∧ serveF e.f = flTake f p := by
            rw [hef]; unfold serveV serveF; rw [hL]; exact ⟨rfl, rfl⟩
          rw [hb]
          obtain ⟨fin, hfin⟩ : ∃ x, flFin f p = x := ⟨_, rfl⟩
          rw [hfin] at hv2 hsv
          obtain ⟨mx, hmx⟩ : ∃ x, max S.most fin = x := ⟨_, rfl⟩
          rw [hmx] at hv2
          have hfin64 : fin < 18446744073709551616 := by rw [← hfin]; unfold flFin; exact addT_lt _ _
          have hmxi : Max.max (S.most : Int) (fin : Int) = (mx : Int) := by omega
          have hmx64 : mx < 18446744073709551616 := by have := hzr.m64; omega
          have hst64 : f.start < 18446744073709551616 := by have := hE.ok.s64; rw [hef] at this; exact this
          have z1 := hzr.blk.free 1
          obtain ⟨st, hst⟩ : ∃ x, f.start = x := ⟨_, rfl⟩
          rw [hst] at y4 hst64 hv2
          have HV1 := Lib.hid hv1
          have HV2 := Lib.hid hv2
          have HSV := Lib.hid hsv
          have HM64 := Lib.hid hmx64
          have HS64 := Lib.hid hst64
          have HEQ := Lib.hid he
          have HZB := Lib.hid hzb
          have HEF := Lib.hid hef
          clear hb hv1 hv2 hsv hmx hzr hU hmx64 hst64 hzb hf hnon hL hfin hst hE he hef
          have hgs : sb ≠ g := fun hc => HZR.out.d (by simp [blkO, hc])
          have hgs2 := hgs.symm
          have hes : e.b ≠ sb := (HZR.out.own e (List.mem_of_getElem? HEQ.out) e.b (by simp [entB])).1
          go_wp2_with fail
          obtain ⟨w1, hw1⟩ : ∃ x, wr.setCell ⟨sb, 1, none⟩ (.int .u64 st) = x := ⟨_, rfl⟩
          have hu1 : Upd [sb] wr w1 := by rw [← hw1]; exact (Upd.refl [sb] wr).setCell (.inl (by simp)) _
          have hz1 := HZR.out.nums (v' := st) (m' := S.most) (w' := w1) (by rw [← hw1]; exact HZR.out.blk.set 1 (.int .u64 st)) hu1 HS64.out HZR.out.m64
          have HZ1 := Lib.hid hz1
          have HU1 := Lib.hid hu1
          have hb1 := HZB.out.upd hu1 (by simpa using hne)
          have HB1 := Lib.hid hb1
          rw [hw1]
          have HSRV := Lib.hid (hz1.ents e (List.mem_of_getElem? HEQ.out)).serve
          clear hw1 hu1 hz1 hb1 c0 c1 c2 x0 y4 z1 lb lg ly hgs hgs2 hes
          refine HSRV.out.mono ?_
          rintro en w2 ⟨rfl, ao2, cap2, hE2, hf2, hU2⟩
          rw [HSV.out.1]
          rw [HSV.out.2] at hE2
          have hp2 := HZ1.out.put (e' := ⟨e.b, flTake f p, ao2, cap2⟩) HEQ.out rfl (by rw [HEF.out]; rfl) hE2 hf2 hU2
          have hbe : bz ∉ [e.b] := fun hc => by simp only [List.mem_cons, List.not_mem_nil, or_false] at hc; exact HBG.out (by rw [HGE.out, hc]; exact sfB_ent (List.mem_of_getElem? HEQ.out) (by simp [entB]))
          have HB2 := Lib.hid (HB1.out.upd hU2 hbe)
          have HZ2 := Lib.hid hp2.1
          have HF2 := Lib.hid hp2.2
          clear hE2 hf2 hU2 hp2 hbe
          obtain ⟨-, -, d2, ld⟩ := HZ2.out.cells
          have z2 := HZ2.out.blk.free 2
          have q0 := HB2.out.cell (j := 0) rfl
          have q1 := HB2.out.cell (j := 1) rfl
          have q2 := HB2.out.cell (j := 2) rfl
          have p0 := HB2.out.free 0
          have p1 := HB2.out.free 1
          have p2 := HB2.out.free 2
          have lz := HB2.out.lt
          go_wp2_with fail
          obtain ⟨w5, hw5⟩ : ∃ x, (((w2.setCell ⟨sb, 2, none⟩ (.int .u64 mx)).setCell ⟨bz, 0, none⟩ (.int .i64 p.flow)).setCell ⟨bz, 1, none⟩ (.int .i64 p.len)).setCell ⟨bz, 2, none⟩ (.int .i64 p.mark) = x := ⟨_, rfl⟩
          have hb5 : Blk w5 bz 94 [.int .i64 p.flow, .int .i64 p.len, .int .i64 p.mark] := by
            rw [← hw5]
            exact (((HB2.out.setFar (a := ⟨sb, 2, none⟩) hne2 (.int .u64 mx)).set 0 (.int .i64 p.flow)).set 1 (.int .i64 p.len)).set 2 (.int .i64 p.mark)
          have u3 : Upd [sb] w2 (w2.setCell ⟨sb, 2, none⟩ (.int .u64 mx)) := (Upd.refl [sb] w2).setCell (.inl (by simp)) _
          have hz3 := HZ2.out.nums (v' := st) (m' := mx) (HZ2.out.blk.set 2 (.int .u64 mx)) u3 HS64.out HM64.out
          have u4 : Upd [bz] (w2.setCell ⟨sb, 2, none⟩ (.int .u64 mx)) w5 := by rw [← hw5]; exact (((Upd.refl [bz] _).setCell (.inl (by simp)) _).setCell (.inl (by simp)) _).setCell (.inl (by simp)) _
          rw [hw5]
          have hb6 := hb5.upd ((Upd.refl [] w5).alloc (.cells #[.int .i64 p.flow, .int .i64 p.len, .int .i64 p.mark] 94)) (by simp)
          have k0 := hb6.cell (j := 0) rfl
          have k1 := hb6.cell (j := 1) rfl
          have k2 := hb6.cell (j := 2) rfl
          refine bodyPost_ret (v := .tuple #[.agg #[.int .i64 p.flow, .int .i64 p.len, .int .i64 p.mark], .bool true]) (by simp [results, Try.results68, go_sem, k0, k1, k2]) rfl ?_
          have f1 : Fr G (sfB sb (some ⟨g, 0, none⟩) (Z.set b ⟨e.b, flTake f p, ao2, cap2⟩)) w w2 := by
            have := ((Fr.of HUW.out).thenT HU1.out (fun c hc => by simp only [List.mem_cons, List.not_mem_nil, or_false] at hc; subst hc; exact .inl HSG.out) : Fr G G w w1)
            rw [HGE.out] at this ⊢
            exact this.trans HF2.out
          have hbn : bz ∉ sfB sb (some ⟨g, 0, none⟩) (Z.set b ⟨e.b, flTake f p, ao2, cap2⟩) := fun hc => by
            rcases HF2.out.1 bz hc with h | h
            · exact HBG.out (by rw [HGE.out]; exact h)
            · have := HB1.out.lt; omega
          refine ⟨by rw [HV1.out], _, by rw [HV2.out]; exact ⟨_, _, _, (hz3.updS u4 (fun c hc hc2 => by simp only [List.mem_cons, List.not_mem_nil, or_false] at hc2; subst hc2; exact hbn hc)).upd ((Upd.refl [] w5).alloc _), by rw [List.map_set, HF.out], rfl⟩, ?_⟩
          exact ((f1.thenT u3 (fun c hc => by simp only [List.mem_cons, List.not_mem_nil, or_false] at hc; subst hc; exact .inl HSG.out)).thenT u4 (fun c hc => by simp only [List.mem_cons, List.not_mem_nil, or_false] at hc; subst hc; exact .inr (by have := HBW.out; omega))).thenT ((Upd.refl [] w5).alloc _) (by simp)
end Go.Proofs.Ytmfndemnogpmcaa
