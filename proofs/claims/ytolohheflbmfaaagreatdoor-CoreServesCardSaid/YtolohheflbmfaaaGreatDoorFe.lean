/-
  The document's Sfq: Arrive, Starts. No condition.
-/
import Derived.Test.YtolohheflbmfaaaGreatDoorFd
import Derived.Test.YtolohheflbmfaaaGreatDoorIG
import Derived.Test.YtolohheflbmfaaaGreatDoorPS
set_option linter.unusedVariables false
set_option linter.unusedSimpArgs false
namespace Go.Proofs.YtolohheflbmfaaaGreatDoor
open Go.RowKit

def flAt (F : List Fl) (i : Int) : Fl := F.getD i.toNat (flNew 0 0 0)
theorem flAt_get {F : List Fl} {i : Nat} {f : Fl} (h : F[i]? = some f) : flAt F i = f := by unfold flAt; rw [Int.toNat_natCast, List.getD_eq_getElem?_getD, h]; rfl
def arrCode (S : Sf) (p : Pk) : Int := if posF S.F p.flow < 0 then 5 else if flFull (flAt S.F (posF S.F p.flow)) = true then 9 else 0
def arrS (S : Sf) (p : Pk) : Sf := if arrCode S p = 0 then { S with F := S.F.set (posF S.F p.flow).toNat (flPut (flAt S.F (posF S.F p.flow)) S.v p) } else S
theorem SfTo.same {W w w' : World} {sb : Nat} {S : Sf} {G : List Nat} (h : SfG W sb S G w) (hu : Upd [] w w') : SfTo W sb S G w w' := ⟨G, h.upd hu, fun c hc => .inl hc, hu.nil⟩

set_option maxRecDepth 100000 in
set_option maxHeartbeats 16000000 in
theorem SfG.arrive {W w : World} {sb : Nat} {S : Sf} {G : List Nat} (h : SfG W sb S G w) (p : Pk) (hp : p.len < 9223372036854775808) :
    Calls Tryz.prog 26 #[.pointer (some ⟨sb, 0, none⟩), .agg #[.int .i64 p.flow, .int .i64 p.len, .int .i64 p.mark]] w (fun e w' => e = .returned (.int .i64 (arrCode S p)) ∧ SfTo W sb (arrS S p) G w w') := by
  have HG := Lib.hid h
  obtain ⟨wa, hwa⟩ : ∃ x, w.alloc (.cells #[.int .i64 p.flow, .int .i64 p.len, .int .i64 p.mark] 64) = x := ⟨_, rfl⟩
  have HUA : Hid (Upd [] w wa) := by rw [← hwa]; exact (Upd.refl [] w).alloc _
  have HBX : Hid (Blk wa w.heap.size 64 (pkVs p)) := by rw [← hwa]; exact Blk.new w 64 (pkVs p)
  have y0 := HBX.out.cell (j := 0) rfl
  have y1 := HBX.out.cell (j := 1) rfl
  have y2 := HBX.out.cell (j := 2) rfl
  have lbx := HBX.out.lt
  have HPL := Lib.hid hp
  rcases posF_cases S.F p.flow with ⟨hpos, hno⟩ | ⟨i, f, hpos, hf, hid⟩
  · have HC : Hid (arrCode S p = 5 ∧ arrS S p = S) := by
      have h1 : arrCode S p = 5 := by unfold arrCode; rw [hpos]; rfl
      exact ⟨h1, by unfold arrS; rw [h1]; rfl⟩
    rw [HC.out.1, HC.out.2]
    have HPO := Lib.hid hpos
    clear h hp hpos hno
    go_enter Tryz.func26, Tryz.ntmps26
    go_wp2_with fail
    refine ((HG.out.upd HUA.out).at_ p.flow).mono ?_
    rintro e w2 ⟨rfl, rfl⟩
    rw [HPO.out]
    go_wp2
    go_ret
    exact ⟨rfl, SfTo.same HG.out HUA.out⟩
  · obtain ⟨ao, cap, Z, hz, hF, hGe⟩ := h
    obtain ⟨e, he, hef⟩ := map_at hF hf
    have hza := hz.upd HUA.out
    obtain ⟨g, hg, x0, lg, hE, hi⟩ := hza.at_ he
    subst hg
    obtain ⟨c0, c1, -, lb⟩ := hza.cells
    obtain ⟨n, hn⟩ : ∃ n, Z.length = n := ⟨_, rfl⟩
    rw [hn] at c0 hi
    have hsm := hz.small
    rw [hn] at hsm
    have b1 : (i : Int) < (n : Int) := by omega
    have b0 : decide ((i : Int) < 0) = false := by simp
    obtain ⟨fl, hfl⟩ : ∃ x, flFull f = x := ⟨_, rfl⟩
    have HFL := Lib.hid hfl
    have HCC : Hid (arrCode S p = (if fl = true then 9 else 0) ∧ arrS S p = (if fl = true then S else { S with F := S.F.set i (flPut f S.v p) })) := by
      have h1 : arrCode S p = (if fl = true then 9 else 0) := by unfold arrCode; rw [hpos, if_neg (by omega), flAt_get hf, hfl]
      refine ⟨h1, ?_⟩
      unfold arrS
      rw [h1, hpos, flAt_get hf, Int.toNat_natCast]
      cases fl <;> simp
    rw [HCC.out.1, HCC.out.2]
    have HPO := Lib.hid hpos
    have HE := Lib.hid hE
    have HZA := Lib.hid hza
    have HEQ := Lib.hid he
    have HEF := Lib.hid hef
    have HF := Lib.hid hF
    have HV := Lib.hid hz.v64
    have HGE := Lib.hid hGe
    clear hp hpos hf hid hza hE he hef hF hz hfl hGe hn
    have HARR : Hid (∀ w', Upd [] wa w' → Calls Tryz.prog 45 #[.pointer (some ⟨e.b, 0, none⟩), .int .u64 S.v, .agg #[.int .i64 p.flow, .int .i64 p.len, .int .i64 p.mark]] w' (fun en w'' => en = .returned (.bool (!fl)) ∧ EntTo w' e (if fl = true then e.f else flPut e.f S.v p) w'')) := fun w' hu => by
      have := (HE.out.upd hu (by simp)).arrive S.v HV.out p HPL.out
      rw [HEF.out, HFL.out] at this
      rw [HEF.out]; exact this
    go_enter Tryz.func26, Tryz.ntmps26
    go_wp2_with fail
    refine ((HG.out.upd HUA.out).at_ p.flow).mono ?_
    rintro en w2 ⟨rfl, rfl⟩
    rw [HPO.out]
    go_wp2_with fail
    refine wp_region_tail 12 (by kernel_rfl) (by kernel_rfl) ?_
    simp only [List.take_succ_cons, List.take_zero, List.drop_succ_cons, List.drop_zero]
    repeat (go_big_quiet_step (fail))
    refine wpQuiet_nil ?_
    go_wp2_with fail
    refine (HARR.out _ (Upd.refl [] wa).drew).mono ?_
    rintro en w3 ⟨rfl, ao3, cap3, hE3, hf3, hU3⟩
    cases fl with
    | true =>
      go_wp2
      go_ret
      have hp3 := (HZA.out.upd (Upd.refl [] wa).drew).put (e' := ⟨e.b, e.f, ao3, cap3⟩) HEQ.out rfl rfl (by simpa using hE3) hf3 hU3
      have hid3 : (Z.set i ⟨e.b, e.f, ao3, cap3⟩).map (·.f) = S.F := by
        rw [List.map_set, HF.out]
        have : S.F[i]? = some e.f := by rw [← HF.out, List.getElem?_map, HEQ.out]; rfl
        obtain ⟨hi2, h2⟩ := List.getElem?_eq_some_iff.1 this
        rw [← h2]; exact List.set_getElem_self hi2
      refine ⟨rfl, _, ⟨_, _, _, hp3.1, hid3, rfl⟩, ?_⟩
      rw [HGE.out]
      exact (Fr.of HUA.out.drew).trans hp3.2
    | false =>
      go_wp2
      go_ret
      have hE3' : EntAt w3 ⟨e.b, flPut e.f S.v p, ao3, cap3⟩ := by simpa using hE3
      have hp3 := (HZA.out.upd (Upd.refl [] wa).drew).put (e' := ⟨e.b, flPut e.f S.v p, ao3, cap3⟩) HEQ.out rfl rfl hE3' hf3 hU3
      refine ⟨rfl, _, ⟨_, _, _, hp3.1, by rw [List.map_set, HF.out]; show S.F.set i (flPut e.f S.v p) = _; rw [HEF.out], rfl⟩, ?_⟩
      rw [HGE.out]
      exact (Fr.of HUA.out.drew).trans hp3.2

/-! ### Starts -/
def nonE (f : Fl) : Bool := decide (0 < f.L.length)
def startStep (L : List It) (f : Fl) : List It := if nonE f = true then (if hasI L f.id = true then L else insI ((f.start : Int), f.id) L) else L
def startsF (F : List Fl) : List It := F.foldl startStep []
theorem startsF_take {F : List Fl} {i : Nat} {f : Fl} (hf : F[i]? = some f) : startsF (F.take (i + 1)) = startStep (startsF (F.take i)) f := by
  unfold startsF
  rw [List.take_add_one, hf, List.foldl_append]; rfl
theorem startStep_len (L : List It) (f : Fl) : (startStep L f).length ≤ L.length + 1 := by
  unfold startStep
  split
  · split
    · omega
    · rw [(insI_perm _ _).length_eq]; simp
  · omega
theorem startsF_len : ∀ (F : List Fl) (L : List It), (F.foldl startStep L).length ≤ L.length + F.length
  | [], L => by simp
  | f :: F, L => by
    have h1 := startsF_len F (startStep L f)
    have h2 := startStep_len L f
    simp only [List.foldl_cons, List.length_cons]
    omega
def StartsAt (w : World) (b : Nat) (F : List Fl) (iv : Value) (wr : World) : Prop := ∃ (i : Nat) (fq : List Nat), iv = .int .i64 i ∧ i ≤ F.length ∧ IG w b (startsF (F.take i)) fq wr ∧ Upd [] w wr
theorem IGTo.new {w wr w' : World} {b : Nat} {L' : List It} {fq : List Nat} (hn : ∀ c ∈ fq, w.heap.size ≤ c) (hU : Upd [] w wr) (h : IGTo w b L' fq wr w') : ∃ fq', IG w b L' fq' w' ∧ Upd [] w w' := by
  obtain ⟨fq', h1, h2, h3⟩ := h
  exact ⟨fq', h1, hU.then h3 (fun _ _ e => e) (fun i hi hm => by have := hn i hm; omega)⟩
theorem IG.newQ {w wr : World} {b : Nat} {L : List It} {fq : List Nat} (h : IG w b L fq wr) : ∀ c ∈ fq, w.heap.size ≤ c := by obtain ⟨_, _, _, _, h⟩ := h; exact h

set_option maxRecDepth 100000 in
set_option maxHeartbeats 16000000 in
theorem SfG.starts {W w : World} {sb : Nat} {S : Sf} {G : List Nat} (h : SfG W sb S G w) : Calls Tryz.prog 30 #[.pointer (some ⟨sb, 0, none⟩)] w (Told w (startsF S.F) []) := by
  obtain ⟨ao, cap, Z, h, hF, -⟩ := h
  have HH := Lib.hid h
  have HF := Lib.hid hF
  have hZF : Z.length = S.F.length := by rw [← hF, List.length_map]
  obtain ⟨n, hn⟩ : ∃ n, Z.length = n := ⟨_, rfl⟩
  have HN : Hid (S.F.length = n) := by unfold Hid; omega
  have HNZ := Lib.hid hn
  have hsm := h.small
  rw [hn] at hsm
  clear h hF hZF hn
  obtain ⟨wa, hwa⟩ : ∃ x, w.alloc (.cells #[.slice none 0 0] 107) = x := ⟨_, rfl⟩
  have HUA : Hid (Upd [] w wa) := by rw [← hwa]; exact (Upd.refl [] w).alloc _
  have HIA : Hid (IG w w.heap.size [] [w.heap.size] wa) := IG.new (by rw [← hwa]; exact Blk.new w 107 [.slice none 0 0]) (Nat.le_refl _)
  obtain ⟨b, hb⟩ : ∃ x, w.heap.size = x := ⟨_, rfl⟩
  have HB : Hid (w.heap.size = b) := hb
  rw [hb] at HIA
  go_enter Tryz.func30, Tryz.ntmps30
  go_wp2_with fail
  try rw [hb]
  clear hwa hb
  go_loopw [4] (fun iv wr => StartsAt w b S.F iv wr) (fun iv _ => n - (intOf iv).toNat)
  case atStart => exact ⟨0, _, rfl, Nat.zero_le _, HIA.out, HUA.out⟩
  case round =>
    clear HIA HUA
    obtain ⟨i, fq, rfl, hi, hI, hU⟩ := hrel
    rw [HN.out] at hi
    have hzr := HH.out.upd hU
    obtain ⟨c0, -, -, lb⟩ := hzr.cells
    rw [HNZ.out] at c0
    have HI := Lib.hid hI
    have HU := Lib.hid hU
    by_cases hlt : i < n
    · have t1 : decide (i < n) = true := by simp [hlt]
      have b1 : (i : Int) < (n : Int) := by omega
      obtain ⟨f, hf⟩ : ∃ f, S.F[i]? = some f := ⟨_, List.getElem?_eq_getElem (by rw [HN.out]; exact hlt)⟩
      obtain ⟨e, he, hef⟩ := map_at HF.out hf
      obtain ⟨g, hg, x0, lg, hE, -⟩ := hzr.at_ he
      subst hg
      obtain ⟨y0, -, -, y3, y4, -, ly⟩ := hE.cells
      rw [hef] at y0 y3 y4
      obtain ⟨k, hk⟩ : ∃ k, f.L.length = k := ⟨_, rfl⟩
      rw [hk] at y3
      have hst := startsF_take hf
      have HLT := Lib.hid hlt
      have HST := Lib.hid hst
      have HK := Lib.hid hk
      clear hE hf he hef hzr hI hU hst hk hi hlt
      by_cases hk0 : 0 < k
      · have t2 : decide (0 < k) = true := by simp [hk0]
        have t3 : decide ((0 : Int) < (k : Int)) = true := by simp; omega
        have HNE : Hid (nonE f = true) := by unfold Hid nonE; rw [HK.out]; simp [hk0]
        obtain ⟨L0, hL0⟩ : ∃ x, startsF (S.F.take i) = x := ⟨_, rfl⟩
        rw [hL0] at HI HST
        have HLEN : Hid (L0.length < 1000) := by
          unfold Hid; rw [← hL0]; have := startsF_len (S.F.take i) []; rw [List.length_take] at this; unfold startsF; simp only [List.length_nil] at this; omega
        have HPU := Lib.hid ((HI.out.upd (Upd.refl [] wr).drew (by simp)).push (by have := HU.out.size; simpa using this) ((f.start : Int), f.id) HLEN.out)
        have hib : b < wr.heap.size := HI.out.lt b (by obtain ⟨_, _, _, h, _⟩ := HI.out; rw [h]; simp)
        clear hL0 hk0
        go_wp2_with fail
        refine wp_region_tail 21 (by kernel_rfl) (by kernel_rfl) ?_
        simp only [List.take_succ_cons, List.take_zero, List.drop_succ_cons, List.drop_zero]
        repeat (go_big_quiet_step (fail))
        refine wpQuiet_nil ?_
        go_wp2_with fail
        refine HPU.out.mono ?_
        rintro en w3 ⟨rfl, h3⟩
        obtain ⟨fq3, hI3, hU3⟩ := IGTo.new HI.out.newQ HU.out.drew h3
        have HS3 : Hid (startsF (S.F.take (i + 1)) = (if hasI L0 f.id = true then L0 else insI ((f.start : Int), f.id) L0)) := by unfold Hid; rw [HST.out]; unfold startStep; rw [if_pos HNE.out]
        have HI3 := Lib.hid hI3
        have HU3 := Lib.hid hU3
        clear h3 hI3 hU3
        go_wp2
        exact ⟨⟨i + 1, fq3, by congr 1, by rw [HN.out]; exact HLT.out, by rw [HS3.out]; exact HI3.out, HU3.out⟩, by have := HLT.out; simp [intOf]; omega⟩
      · have t2 : decide (0 < k) = false := by simp; omega
        have t3 : decide ((0 : Int) < (k : Int)) = false := by simp; omega
        have HS3 : Hid (startsF (S.F.take (i + 1)) = startsF (S.F.take i)) := by unfold Hid; rw [HST.out]; unfold startStep; rw [if_neg (by unfold nonE; rw [HK.out]; simp; omega)]
        clear hk0
        go_wp2
        exact ⟨⟨i + 1, fq, by congr 1, by rw [HN.out]; exact HLT.out, by rw [HS3.out]; exact HI.out, HU.out⟩, by have := HLT.out; simp [intOf]; omega⟩
    · have t1 : decide (i < n) = false := by simp; omega
      have hin : i = n := by omega
      obtain ⟨ao', cap', k0, hrow, lb2, hbl⟩ := hI.cell
      have hall : Hid (S.F.take i = S.F) := by unfold Hid; rw [hin, ← HN.out, List.take_length]
      obtain ⟨k, hk⟩ : ∃ k, (startsF (S.F.take i)).length = k := ⟨_, rfl⟩
      rw [hk] at k0 hrow
      have HK := Lib.hid hk
      have HROW := Lib.hid hrow
      have HBL := Lib.hid hbl
      clear hI hU hzr hrow hbl hk hin
      go_wp2
      go_ret
      have hk2 := HK.out
      have hr2 := HROW.out
      rw [hall.out] at hk2 hr2
      subst hk2
      exact ⟨ao', cap', rfl, hr2, fun c hc => HI.out.newQ c (HBL.out c hc), HU.out⟩
end Go.Proofs.YtolohheflbmfaaaGreatDoor
