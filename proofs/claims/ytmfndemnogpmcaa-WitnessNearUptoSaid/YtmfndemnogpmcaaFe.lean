/-
  The document's Sfq: Arrive. No condition.
-/
import Derived.Test.YtmfndemnogpmcaaFd
set_option linter.unusedVariables false
set_option linter.unusedSimpArgs false
namespace Go.Proofs.Ytmfndemnogpmcaa
open Go.RowKit

def flAt (F : List Fl) (i : Int) : Fl := F.getD i.toNat (flNew 0 0 0)
theorem flAt_get {F : List Fl} {i : Nat} {f : Fl} (h : F[i]? = some f) : flAt F i = f := by unfold flAt; rw [Int.toNat_natCast, List.getD_eq_getElem?_getD, h]; rfl
def arrCode (S : Sf) (p : Pk) : Int := if posF S.F p.flow < 0 then 5 else if flFull (flAt S.F (posF S.F p.flow)) = true then 9 else 0
def arrS (S : Sf) (p : Pk) : Sf := if arrCode S p = 0 then { S with F := S.F.set (posF S.F p.flow).toNat (flPut (flAt S.F (posF S.F p.flow)) S.v p) } else S
theorem SfTo.same {W w w' : World} {sb : Nat} {S : Sf} {G : List Nat} (h : SfG W sb S G w) (hu : Upd [] w w') : SfTo W sb S G w w' := ⟨G, h.upd hu, fun c hc => .inl hc, hu.nil⟩

set_option maxRecDepth 100000 in
set_option maxHeartbeats 16000000 in
theorem SfG.arrive {W w : World} {sb : Nat} {S : Sf} {G : List Nat} (h : SfG W sb S G w) (p : Pk) (hp : p.len < 9223372036854775808) :
    Calls Try.prog 47 #[.pointer (some ⟨sb, 0, none⟩), .agg #[.int .i64 p.flow, .int .i64 p.len, .int .i64 p.mark]] w (fun e w' => e = .returned (.int .i64 (arrCode S p)) ∧ SfTo W sb (arrS S p) G w w') := by
  have HG := Lib.hid h
  obtain ⟨wa, hwa⟩ : ∃ x, w.alloc (.cells #[.int .i64 p.flow, .int .i64 p.len, .int .i64 p.mark] 94) = x := ⟨_, rfl⟩
  have HUA : Hid (Upd [] w wa) := by rw [← hwa]; exact (Upd.refl [] w).alloc _
  have HBX : Hid (Blk wa w.heap.size 94 (pkVs p)) := by rw [← hwa]; exact Blk.new w 94 (pkVs p)
  have y0 := HBX.out.cell (j := 0) rfl
  have y1 := HBX.out.cell (j := 1) rfl
  have y2 := HBX.out.cell (j := 2) rfl
  have lbx := HBX.out.lt
  have HPL := Lib.hid hp
  rcases posF_cases S.F p.flow with ⟨hpos, hno⟩ | ⟨i, f, hpos, hf, hid⟩
  · have HC : Hid (arrCode S p = 5 ∧ arrS S p = S) := by
      have h1 : arrCode S p = 5 := by unfold arrCode; rw [hpos]; rfl
      exact ⟨h1, by unfold arrS; rw [h1]; rfl⟩
    rw [HC.out.1, HC.out.2]
    have HPO := Lib.hid hpos
    clear h hp hpos hno
    go_enter Try.func47, Try.ntmps47
    go_wp2_with fail
    refine ((HG.out.upd HUA.out).at_ p.flow).mono ?_
    rintro e w2 ⟨rfl, rfl⟩
    rw [HPO.out]
    go_wp2
    go_ret
    exact ⟨rfl, SfTo.same HG.out HUA.out⟩
  · obtain ⟨ao, cap, Z, hz, hF, hGe⟩ := h
    obtain ⟨e, he, hef⟩ := map_at hF hf
    have hza := hz.upd HUA.out
    obtain ⟨g, hg, x0, lg, hE, hi⟩ := hza.at_ he
    subst hg
    obtain ⟨c0, c1, -, lb⟩ := hza.cells
    obtain ⟨n, hn⟩ : ∃ n, Z.length = n := ⟨_, rfl⟩
    rw [hn] at c0 hi
    have hsm := hz.small
    rw [hn] at hsm
    have b1 : (i : Int) < (n : Int) := by omega
    have b0 : decide ((i : Int) < 0) = false := by simp
    obtain ⟨fl, hfl⟩ : ∃ x, flFull f = x := ⟨_, rfl⟩
    have HFL := Lib.hid hfl
    have HCC : Hid (arrCode S p = (if fl = true then 9 else 0) ∧ arrS S p = (if fl = true then S else { S with F := S.F.set i (flPut f S.v p) })) := by
      have h1 : arrCode S p = (if fl = true then 9 else 0) := by unfold arrCode; rw [hpos, if_neg (by omega), flAt_get hf, hfl]
      refine ⟨h1, ?_⟩
      unfold arrS
      rw [h1, hpos, flAt_get hf, Int.toNat_natCast]
      cases fl <;> simp
    rw [HCC.out.1, HCC.out.2]
    have HPO := Lib.hid hpos
    have HE := Lib.hid hE
    have HZA := Lib.hid hza
    have HEQ := Lib.hid he
    have HEF := Lib.hid hef
    have HF := Lib.hid hF
    have HV := Lib.hid hz.v64
    have HGE := Lib.hid hGe
    clear hp hpos hf hid hza hE he hef hF hz hfl hGe hn
    have HARR : Hid (∀ w', Upd [] wa w' → Calls Try.prog 67 #[.pointer (some ⟨e.b, 0, none⟩), .int .u64 S.v, .agg #[.int .i64 p.flow, .int .i64 p.len, .int .i64 p.mark]] w' (fun en w'' => en = .returned (.bool (!fl)) ∧ EntTo w' e (if fl = true then e.f else flPut e.f S.v p) w'')) := fun w' hu => by
      have := (HE.out.upd hu (by simp)).arrive S.v HV.out p HPL.out
      rw [HEF.out, HFL.out] at this
      rw [HEF.out]; exact this
    go_enter Try.func47, Try.ntmps47
    go_wp2_with fail
    refine ((HG.out.upd HUA.out).at_ p.flow).mono ?_
    rintro en w2 ⟨rfl, rfl⟩
    rw [HPO.out]
    go_wp2_with fail
    refine wp_region_tail 12 (by kernel_rfl) (by kernel_rfl) ?_
    simp only [List.take_succ_cons, List.take_zero, List.drop_succ_cons, List.drop_zero]
    repeat (go_big_quiet_step (fail))
    refine wpQuiet_nil ?_
    go_wp2_with fail
    refine (HARR.out _ (Upd.refl [] wa).drew).mono ?_
    rintro en w3 ⟨rfl, ao3, cap3, hE3, hf3, hU3⟩
    cases fl with
    | true =>
      go_wp2
      go_ret
      have hp3 := (HZA.out.upd (Upd.refl [] wa).drew).put (e' := ⟨e.b, e.f, ao3, cap3⟩) HEQ.out rfl rfl (by simpa using hE3) hf3 hU3
      have hid3 : (Z.set i ⟨e.b, e.f, ao3, cap3⟩).map (·.f) = S.F := by
        rw [List.map_set, HF.out]
        have : S.F[i]? = some e.f := by rw [← HF.out, List.getElem?_map, HEQ.out]; rfl
        obtain ⟨hi2, h2⟩ := List.getElem?_eq_some_iff.1 this
        rw [← h2]; exact List.set_getElem_self hi2
      refine ⟨rfl, _, ⟨_, _, _, hp3.1, hid3, rfl⟩, ?_⟩
      rw [HGE.out]
      exact (Fr.of HUA.out.drew).trans hp3.2
    | false =>
      go_wp2
      go_ret
      have hE3' : EntAt w3 ⟨e.b, flPut e.f S.v p, ao3, cap3⟩ := by simpa using hE3
      have hp3 := (HZA.out.upd (Upd.refl [] wa).drew).put (e' := ⟨e.b, flPut e.f S.v p, ao3, cap3⟩) HEQ.out rfl rfl hE3' hf3 hU3
      refine ⟨rfl, _, ⟨_, _, _, hp3.1, by rw [List.map_set, HF.out]; show S.F.set i (flPut e.f S.v p) = _; rw [HEF.out], rfl⟩, ?_⟩
      rw [HGE.out]
      exact (Fr.of HUA.out.drew).trans hp3.2

def nonE (f : Fl) : Bool := decide (0 < f.L.length)
end Go.Proofs.Ytmfndemnogpmcaa
