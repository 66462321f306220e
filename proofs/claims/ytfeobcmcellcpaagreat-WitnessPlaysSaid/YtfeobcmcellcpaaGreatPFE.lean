/-
  Texts of this claim, joined: ToldD, IG, Fes. No condition.
-/
import Derived.Test.YtfeobcmcellcpaaGreatPB
import Derived.Test.YtfeobcmcellcpaaGreatPI
import Derived.Test.YtfeobcmcellcpaaGreatPF
set_option linter.unusedVariables false
set_option linter.unusedSimpArgs false
/-! ToldD -/
namespace Go.Proofs.YtfeobcmcellcpaaGreat
open Go.RowKit

/-- What All tells: the items in order, in an array of its own. -/
def Told (w : World) (L : List It) (S : List Nat) (e : Ending) (w' : World) : Prop :=
  ∃ ao cap, e = .returned (.slice ao L.length cap) ∧ RowO w' 74 2 ao L.length cap (L.flatMap itVs) ∧ (∀ c ∈ blkO ao, w.heap.size ≤ c) ∧ Upd S w w'

end Go.Proofs.YtfeobcmcellcpaaGreat

/-! IG -/
namespace Go.Proofs.YtfeobcmcellcpaaGreat
open Go.RowKit

/-- The reference's list of items in order, in blocks that are new since W. -/
def IG (W : World) (b : Nat) (L : List It) (fq : List Nat) (w : World) : Prop := ∃ ao cap, ItsAt w b 0 ao cap L ∧ fq = b :: blkO ao ∧ ∀ c ∈ fq, W.heap.size ≤ c
def IGTo (W : World) (b : Nat) (L : List It) (fq : List Nat) (w w' : World) : Prop := ∃ fq', IG W b L fq' w' ∧ (∀ c ∈ fq', c ∈ fq ∨ w.heap.size ≤ c) ∧ Upd fq w w'
theorem IG.lt {W : World} {b : Nat} {L : List It} {fq : List Nat} {w : World} (h : IG W b L fq w) : ∀ c ∈ fq, c < w.heap.size := by
  obtain ⟨ao, cap, h1, rfl, _⟩ := h
  intro c hc
  rcases List.mem_cons.1 hc with rfl | hc
  · exact h1.lt
  · exact h1.row.lt c hc
theorem IG.upd {W : World} {b : Nat} {L : List It} {fq S : List Nat} {w w' : World} (h : IG W b L fq w) (hu : Upd S w w') (hs : ∀ c ∈ fq, c ∉ S) : IG W b L fq w' := by
  obtain ⟨ao, cap, h1, rfl, h2⟩ := h
  exact ⟨ao, cap, h1.upd hu (hs b (by simp)) (fun c hc => hs c (by simp [hc])), rfl, h2⟩
theorem IG.to {W : World} {b : Nat} {L' : List It} {fq : List Nat} {w w' : World} (hW : W.heap.size ≤ w.heap.size) {ao : Option Addr} (hfq : fq = b :: blkO ao) (h2 : ∀ c ∈ fq, W.heap.size ≤ c) (k : ItsGo w b 0 ao L' w') : IGTo W b L' fq w w' := by
  obtain ⟨ao', cap', k1, k2, k3, _⟩ := k
  subst hfq
  refine ⟨b :: blkO ao', ⟨ao', cap', k1, rfl, fun c hc => ?_⟩, fun c hc => ?_, k3.mono (fun i _ hm => by simp at hm; simp [hm])⟩
  · rcases List.mem_cons.1 hc with rfl | hc
    · exact h2 _ (by simp)
    · rcases k2 c hc with h | h
      · exact h2 c (by simp [h])
      · omega
  · rcases List.mem_cons.1 hc with rfl | hc
    · simp
    · rcases k2 c hc with h | h
      · simp [h]
      · exact .inr h
theorem IG.push {W : World} {b : Nat} {L : List It} {fq : List Nat} {w : World} (h : IG W b L fq w) (hW : W.heap.size ≤ w.heap.size) (x : It) (hsm : L.length < 1000) :
    Calls Tryz.prog 69 #[.pointer (some ⟨b, 0, none⟩), .agg #[.int .u64 x.1, .int .i64 x.2]] w (fun e w' => e = .returned (.bool (!hasI L x.2)) ∧ IGTo W b (if hasI L x.2 then L else insI x L) fq w w') := by
  obtain ⟨ao, cap, h1, h2, h3⟩ := h
  exact (ri_push b 0 ao cap L x w h1 hsm).mono fun _ _ k => ⟨k.1, IG.to hW h2 h3 k.2⟩
theorem IG.at_ {W : World} {b : Nat} {L : List It} {fq : List Nat} {w : World} (h : IG W b L fq w) (id : Int) :
    Calls Tryz.prog 107 #[.pointer (some ⟨b, 0, none⟩), .int .i64 id] w (fun e w' => e = .returned (.int .i64 (posI L id)) ∧ w = w') := by
  obtain ⟨ao, cap, h1, h2, h3⟩ := h
  exact ri_at b 0 ao cap L id w h1

/-- A list that has just been made. -/
theorem IG.new {W w : World} {b : Nat} (h : Blk w b 128 [.slice none 0 0]) (hb : W.heap.size ≤ b) : IG W b [] [b] w :=
  ⟨none, 0, { cell := h.cell (j := 0) rfl, free := h.free 0, row := RowO.nil _ _ _, lt := h.lt, apart := by simp [blkO], small := by simp, nd := by simp [NdI], srt := List.Pairwise.nil }, rfl, fun c hc => by simp at hc; omega⟩

/-- Where the list stands. -/
theorem IG.cell {W : World} {b : Nat} {L : List It} {fq : List Nat} {w : World} (h : IG W b L fq w) : ∃ ao cap, w.cell? ⟨b, 0, none⟩ = some (.slice ao L.length cap) ∧ RowO w 74 2 ao L.length cap (L.flatMap itVs) ∧ b < w.heap.size ∧ ∀ c ∈ blkO ao, c ∈ fq := by
  obtain ⟨ao, cap, h1, rfl, h3⟩ := h
  exact ⟨ao, cap, h1.cell, h1.row, h1.lt, fun c hc => by simp [hc]⟩

theorem IGTo.up {W : World} {b : Nat} {L : List It} {fq : List Nat} {w w' : World} (h : IGTo W b L fq w w') : Upd fq w w' := by obtain ⟨_, _, _, h⟩ := h; exact h
end Go.Proofs.YtfeobcmcellcpaaGreat

/-! Fes -/
namespace Go.Proofs.YtfeobcmcellcpaaGreat
open Go.RowKit

def startStep (L : List It) (f : Fl) : List It := if nonE f = true then (if hasI L f.id = true then L else insI ((f.start : Int), f.id) L) else L
def startsF (F : List Fl) : List It := F.foldl startStep []
theorem startsF_take {F : List Fl} {i : Nat} {f : Fl} (hf : F[i]? = some f) : startsF (F.take (i + 1)) = startStep (startsF (F.take i)) f := by
  unfold startsF
  rw [List.take_add_one, hf, List.foldl_append]; rfl
theorem startStep_len (L : List It) (f : Fl) : (startStep L f).length ≤ L.length + 1 := by
  unfold startStep
  split
  · split
    · omega
    · rw [(insI_perm _ _).length_eq]; simp
  · omega
theorem startsF_len : ∀ (F : List Fl) (L : List It), (F.foldl startStep L).length ≤ L.length + F.length
  | [], L => by simp
  | f :: F, L => by
    have h1 := startsF_len F (startStep L f)
    have h2 := startStep_len L f
    simp only [List.foldl_cons, List.length_cons]
    omega
def StartsAt (w : World) (b : Nat) (F : List Fl) (iv : Value) (wr : World) : Prop := ∃ (i : Nat) (fq : List Nat), iv = .int .i64 i ∧ i ≤ F.length ∧ IG w b (startsF (F.take i)) fq wr ∧ Upd [] w wr
theorem IGTo.new {w wr w' : World} {b : Nat} {L' : List It} {fq : List Nat} (hn : ∀ c ∈ fq, w.heap.size ≤ c) (hU : Upd [] w wr) (h : IGTo w b L' fq wr w') : ∃ fq', IG w b L' fq' w' ∧ Upd [] w w' := by
  obtain ⟨fq', h1, h2, h3⟩ := h
  exact ⟨fq', h1, hU.then h3 (fun _ _ e => e) (fun i hi hm => by have := hn i hm; omega)⟩
theorem IG.newQ {w wr : World} {b : Nat} {L : List It} {fq : List Nat} (h : IG w b L fq wr) : ∀ c ∈ fq, w.heap.size ≤ c := by obtain ⟨_, _, _, _, h⟩ := h; exact h

set_option maxRecDepth 100000 in
set_option maxHeartbeats 16000000 in
theorem SfG.starts {W w : World} {sb : Nat} {S : Sf} {G : List Nat} (h : SfG W sb S G w) : Calls Tryz.prog 36 #[.pointer (some ⟨sb, 0, none⟩)] w (Told w (startsF S.F) []) := by
  obtain ⟨ao, cap, Z, h, hF, -⟩ := h
  have HH := Lib.hid h
  have HF := Lib.hid hF
  have hZF : Z.length = S.F.length := by rw [← hF, List.length_map]
  obtain ⟨n, hn⟩ : ∃ n, Z.length = n := ⟨_, rfl⟩
  have HN : Hid (S.F.length = n) := by unfold Hid; omega
  have HNZ := Lib.hid hn
  have hsm := h.small
  rw [hn] at hsm
  clear h hF hZF hn
  obtain ⟨wa, hwa⟩ : ∃ x, w.alloc (.cells #[.slice none 0 0] 128) = x := ⟨_, rfl⟩
  have HUA : Hid (Upd [] w wa) := by rw [← hwa]; exact (Upd.refl [] w).alloc _
  have HIA : Hid (IG w w.heap.size [] [w.heap.size] wa) := IG.new (by rw [← hwa]; exact Blk.new w 128 [.slice none 0 0]) (Nat.le_refl _)
  obtain ⟨b, hb⟩ : ∃ x, w.heap.size = x := ⟨_, rfl⟩
  have HB : Hid (w.heap.size = b) := hb
  rw [hb] at HIA
  go_enter Tryz.func36, Tryz.ntmps36
  go_wp2_with fail
  try rw [hb]
  clear hwa hb
  go_loopw [4] (fun iv wr => StartsAt w b S.F iv wr) (fun iv _ => n - (intOf iv).toNat)
  case atStart => exact ⟨0, _, rfl, Nat.zero_le _, HIA.out, HUA.out⟩
  case round =>
    clear HIA HUA
    obtain ⟨i, fq, rfl, hi, hI, hU⟩ := hrel
    rw [HN.out] at hi
    have hzr := HH.out.upd hU
    obtain ⟨c0, -, -, lb⟩ := hzr.cells
    rw [HNZ.out] at c0
    have HI := Lib.hid hI
    have HU := Lib.hid hU
    by_cases hlt : i < n
    · have t1 : decide (i < n) = true := by simp [hlt]
      have b1 : (i : Int) < (n : Int) := by omega
      obtain ⟨f, hf⟩ : ∃ f, S.F[i]? = some f := ⟨_, List.getElem?_eq_getElem (by rw [HN.out]; exact hlt)⟩
      obtain ⟨e, he, hef⟩ := map_at HF.out hf
      obtain ⟨g, hg, x0, lg, hE, -⟩ := hzr.at_ he
      subst hg
      obtain ⟨y0, -, -, y3, y4, -, ly⟩ := hE.cells
      rw [hef] at y0 y3 y4
      obtain ⟨k, hk⟩ : ∃ k, f.L.length = k := ⟨_, rfl⟩
      rw [hk] at y3
      have hst := startsF_take hf
      have HLT := Lib.hid hlt
      have HST := Lib.hid hst
      have HK := Lib.hid hk
      clear hE hf he hef hzr hI hU hst hk hi hlt
      by_cases hk0 : 0 < k
      · have t2 : decide (0 < k) = true := by simp [hk0]
        have t3 : decide ((0 : Int) < (k : Int)) = true := by simp; omega
        have HNE : Hid (nonE f = true) := by unfold Hid nonE; rw [HK.out]; simp [hk0]
        obtain ⟨L0, hL0⟩ : ∃ x, startsF (S.F.take i) = x := ⟨_, rfl⟩
        rw [hL0] at HI HST
        have HLEN : Hid (L0.length < 1000) := by
          unfold Hid; rw [← hL0]; have := startsF_len (S.F.take i) []; rw [List.length_take] at this; unfold startsF; simp only [List.length_nil] at this; omega
        have HPU := Lib.hid ((HI.out.upd (Upd.refl [] wr).drew (by simp)).push (by have := HU.out.size; simpa using this) ((f.start : Int), f.id) HLEN.out)
        have hib : b < wr.heap.size := HI.out.lt b (by obtain ⟨_, _, _, h, _⟩ := HI.out; rw [h]; simp)
        clear hL0 hk0
        go_wp2_with fail
        refine wp_region_tail 21 (by kernel_rfl) (by kernel_rfl) ?_
        simp only [List.take_succ_cons, List.take_zero, List.drop_succ_cons, List.drop_zero]
        repeat (go_big_quiet_step (fail))
        refine wpQuiet_nil ?_
        go_wp2_with fail
        refine HPU.out.mono ?_
        rintro en w3 ⟨rfl, h3⟩
        obtain ⟨fq3, hI3, hU3⟩ := IGTo.new HI.out.newQ HU.out.drew h3
        have HS3 : Hid (startsF (S.F.take (i + 1)) = (if hasI L0 f.id = true then L0 else insI ((f.start : Int), f.id) L0)) := by unfold Hid; rw [HST.out]; unfold startStep; rw [if_pos HNE.out]
        have HI3 := Lib.hid hI3
        have HU3 := Lib.hid hU3
        clear h3 hI3 hU3
        go_wp2
        exact ⟨⟨i + 1, fq3, by congr 1, by rw [HN.out]; exact HLT.out, by rw [HS3.out]; exact HI3.out, HU3.out⟩, by have := HLT.out; simp [intOf]; omega⟩
      · have t2 : decide (0 < k) = false := by simp; omega
        have t3 : decide ((0 : Int) < (k : Int)) = false := by simp; omega
        have HS3 : Hid (startsF (S.F.take (i + 1)) = startsF (S.F.take i)) := by unfold Hid; rw [HST.out]; unfold startStep; rw [if_neg (by unfold nonE; rw [HK.out]; simp; omega)]
        clear hk0
        go_wp2
        exact ⟨⟨i + 1, fq, by congr 1, by rw [HN.out]; exact HLT.out, by rw [HS3.out]; exact HI.out, HU.out⟩, by have := HLT.out; simp [intOf]; omega⟩
    · have t1 : decide (i < n) = false := by simp; omega
      have hin : i = n := by omega
      obtain ⟨ao', cap', k0, hrow, lb2, hbl⟩ := hI.cell
      have hall : Hid (S.F.take i = S.F) := by unfold Hid; rw [hin, ← HN.out, List.take_length]
      obtain ⟨k, hk⟩ : ∃ k, (startsF (S.F.take i)).length = k := ⟨_, rfl⟩
      rw [hk] at k0 hrow
      have HK := Lib.hid hk
      have HROW := Lib.hid hrow
      have HBL := Lib.hid hbl
      clear hI hU hzr hrow hbl hk hin
      go_wp2
      go_ret
      have hk2 := HK.out
      have hr2 := HROW.out
      rw [hall.out] at hk2 hr2
      subst hk2
      exact ⟨ao', cap', rfl, hr2, fun c hc => HI.out.newQ c (HBL.out c hc), HU.out⟩
end Go.Proofs.YtfeobcmcellcpaaGreat
