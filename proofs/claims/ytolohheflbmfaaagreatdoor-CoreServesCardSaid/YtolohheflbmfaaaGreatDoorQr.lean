/-
  The document's queue: All, Bases. Spoil at uint64. No condition.
-/
import Derived.Test.YtolohheflbmfaaaGreatDoorQq
import Derived.Test.YtolohheflbmfaaaGreatDoorPQB
import Derived.Test.YtolohheflbmfaaaGreatDoorIG
set_option linter.unusedVariables false
set_option linter.unusedSimpArgs false
namespace Go.Proofs.YtolohheflbmfaaaGreatDoor
open Go.RowKit

theorem inner_measR {n j : Nat} (h : j < n) : n - (intOf (.int .i64 ((j : Int) + 1))).toNat < n - (intOf (.int .i64 (j : Int))).toNat := by
  simp [intOf]; omega
/-! ### All items, put in one by one -/
def accI (l : List It) : List It := l.foldl (fun L x => if hasI L x.2 = true then L else insI x L) []
theorem accI_snoc (l : List It) (x : It) : accI (l ++ [x]) = if hasI (accI l) x.2 = true then accI l else insI x (accI l) := by
  unfold accI; rw [List.foldl_append]; rfl
theorem accI_ok : ∀ (n : Nat) (l : List It), l.length = n → NdI l → Srt (accI l) ∧ (accI l).Perm l := by
  intro n
  induction n with
  | zero => intro l hl _; have := List.eq_nil_of_length_eq_zero hl; subst this; exact ⟨List.Pairwise.nil, List.Perm.refl _⟩
  | succ n ih =>
    intro l hl hn
    have hne : l ≠ [] := by intro e; rw [e] at hl; simp at hl
    have hsp := List.dropLast_concat_getLast hne
    have hn' : NdI (l.dropLast ++ [l.getLast hne]) := by rw [hsp]; exact hn
    unfold NdI at hn'
    rw [List.map_append, List.nodup_append] at hn'
    obtain ⟨h1, h2⟩ := ih l.dropLast (by rw [List.length_dropLast]; omega) hn'.1
    have hno : hasI (accI l.dropLast) (l.getLast hne).2 = false := by
      rw [hasI_perm h2, hasI_no]
      intro y hy e
      exact hn'.2.2 y.2 (List.mem_map_of_mem hy) (l.getLast hne).2 (by simp) e
    rw [← hsp, accI_snoc, hno]
    simp only [Bool.false_eq_true, if_false]
    exact ⟨insI_srt h1 ((hasI_no _ _).1 hno), (insI_perm _ _).trans ((List.Perm.cons _ h2).trans (List.perm_append_singleton _ _).symm)⟩
theorem accI_all {M : List Sh} {L : List It} (h : QOk M L) : accI (flatM M) = L := by
  obtain ⟨h1, h2⟩ := accI_ok _ _ rfl h.flat_nd
  exact srt_unique h1 h.srt (h2.trans h.perm.symm)
theorem accI_len (l : List It) (hn : NdI l) : (accI l).length = l.length := (accI_ok _ l rfl hn).2.length_eq
theorem accI_le (l : List It) : (accI l).length ≤ l.length := by
  obtain ⟨n, hn⟩ : ∃ n, l.length = n := ⟨_, rfl⟩
  induction n generalizing l with
  | zero => have := List.eq_nil_of_length_eq_zero hn; subst this; simp [accI]
  | succ n ih =>
    have hne : l ≠ [] := by intro e; rw [e] at hn; simp at hn
    have hsp := List.dropLast_concat_getLast hne
    have h1 := ih l.dropLast (by rw [List.length_dropLast]; omega)
    rw [← hsp, accI_snoc, List.length_append]
    simp only [List.length_cons, List.length_nil]
    split
    · omega
    · rw [(insI_perm _ _).length_eq, List.length_cons]; omega

def RAllAt (w : World) (xb n : Nat) (M : List Sh) (iv : Value) (wr : World) : Prop :=
  ∃ (i : Nat) (fx : List Nat), iv = .int .i64 i ∧ i ≤ n ∧ IG w xb (accI (flatTo M i)) fx wr ∧ Upd [] w wr
def RRowAt (w : World) (xb i m : Nat) (M : List Sh) (kv : Value) (wr : World) : Prop :=
  ∃ (k : Nat) (fx : List Nat), kv = .int .i64 k ∧ k ≤ m ∧ IG w xb (accI (flatTo M i ++ (shAt M i).2.take k)) fx wr ∧ Upd [] w wr
theorem rrow_round {w wr w' : World} {xb i m k : Nat} {M : List Sh} {fx : List Nat} {x : It} (hU : Upd [] w wr) (hm : (shAt M i).2.length = m) (hk : k < m) (hx : atI (shAt M i).2 k = x) (hG : IG w xb (accI (flatTo M i ++ (shAt M i).2.take k)) fx wr)
    (h : IGTo w xb (if hasI (accI (flatTo M i ++ (shAt M i).2.take k)) x.2 = true then accI (flatTo M i ++ (shAt M i).2.take k) else insI x (accI (flatTo M i ++ (shAt M i).2.take k))) fx wr w') : RRowAt w xb i m M (.int .i64 ((k : Int) + 1)) w' := by
  obtain ⟨fx', k1, k2, k3⟩ := h
  have e : (shAt M i).2.take (k + 1) = (shAt M i).2.take k ++ [x] := by
    rw [List.take_add_one, List.getElem?_eq_getElem (by omega), ← hx, atI_get _ _ (by omega)]; rfl
  refine ⟨k + 1, fx', by congr 1, by omega, ?_, hU.then k3 (fun _ _ h => h) (fun c hc h => ?_)⟩
  · rw [e, ← List.append_assoc, accI_snoc]; exact k1
  · obtain ⟨_, _, _, _, hn⟩ := hG
    have := hn c h; omega
section
variable {W w : World} {qb wd : Nat} {M : List Sh} {L : List It} {fp : List Nat}
set_option maxRecDepth 100000 in
set_option maxHeartbeats 16000000 in
theorem RQ.all (h : RQ W qb wd M fp w) (hok : QOk M L) (hsm : L.length < 1000) : Calls Tryz.prog 37 #[.pointer (some ⟨qb, 0, none⟩)] w (Told w L []) := by
  obtain ⟨sr, cap, sb, F, h1, rfl⟩ := h
  have HQ := Lib.hid h1
  have HOK := Lib.hid hok
  have h16 := hok.small
  have HSM := Lib.hid hsm
  obtain ⟨n, hn⟩ : ∃ n, M.length = n := ⟨_, rfl⟩
  have HN := Lib.hid hn
  rw [hn] at h16
  have HG0 : Hid (IG w w.heap.size (accI (flatTo M 0)) [w.heap.size] (w.alloc (.cells #[.slice none 0 0] 107))) := by
    have : accI (flatTo M 0) = [] := rfl
    rw [this]
    exact IG.new (Blk.new w 107 [.slice none 0 0]) (Nat.le_refl _)
  clear h1 hok hn hsm
  go_enter Tryz.func37, Tryz.ntmps37
  go_wp2_with fail
  go_loopw [4] (fun iv wr => RAllAt w w.heap.size n M iv wr) (fun iv _ => n - (intOf iv).toNat)
  case atStart => exact ⟨0, _, rfl, Nat.zero_le _, HG0.out, (Upd.refl [] w).alloc _⟩
  case round =>
    clear HG0
    obtain ⟨i, fx, rfl, hi, hG, hU⟩ := hrel
    obtain ⟨p0, pp, lq, ls⟩ := (HQ.out.upd hU).cells
    rw [HN.out] at p0
    have HU := Lib.hid hU
    have HG := Lib.hid hG
    by_cases hlt : i < n
    · have t1 : decide (i < n) = true := by simp [hlt]
      have b1 : (i : Int) < (n : Int) := by omega
      have b10 : (0 : Int) ≤ (i : Int) := by omega
      have hiM : Hid (i < M.length) := by unfold Hid; rw [HN.out]; exact hlt
      have HLT := Lib.hid hlt
      obtain ⟨m, hm⟩ : ∃ m, (shAt M i).2.length = m := ⟨_, rfl⟩
      have HMM := Lib.hid hm
      have HR0 : Hid (RRowAt w w.heap.size i m M (.int .i64 0) wr) := ⟨0, fx, rfl, Nat.zero_le _, by rw [List.take_zero, List.append_nil]; exact hG, hU⟩
      have hfl := flatTo_len HOK.out (i + 1)
      rw [flatTo_succ hiM.out, List.length_append, hm] at hfl
      have HFL := Lib.hid hfl
      have hm1000 : m < 1000 := by have := HSM.out; omega
      clear hG hU pp hm HG HU hfl
      go_wp2_with fail
      clear p0 lq ls
      go_loopw [5] (fun kv wr => RRowAt w w.heap.size i m M kv wr) (fun kv _ => m - (intOf kv).toNat)
      case atStart => exact HR0.out
      case round =>
        clear HR0
        obtain ⟨k, fx, rfl, hk, hG, hU⟩ := hrel
        obtain ⟨p0, pp, lq, ls⟩ := (HQ.out.upd hU).cells
        rw [HN.out] at p0
        have pi := pp i hiM.out
        obtain ⟨aoi, capi, hBi, hRi, -⟩ := ((HQ.out.upd hU).sh i hiM.out).cells
        rw [HMM.out] at hBi hRi
        have c0 := hBi.cell (j := 0) rfl
        have lb := hBi.lt
        have HU := Lib.hid hU
        have HG := Lib.hid hG
        by_cases hkm : k < m
        · have t2 : decide (k < m) = true := by simp [hkm]
          have b2 : (k : Int) < (m : Int) := by omega
          have b20 : (0 : Int) ≤ (k : Int) := by omega
          obtain ⟨g, rfl, ly, y0, y1⟩ := hRi.items HMM.out hkm
          obtain ⟨x, hx⟩ : ∃ x, atI (shAt M i).2 k = x := ⟨_, rfl⟩
          rw [hx] at y0 y1
          have HX := Lib.hid hx
          have hlen : (accI (flatTo M i ++ (shAt M i).2.take k)).length < 1000 := by
            have h1 := accI_le (flatTo M i ++ (shAt M i).2.take k)
            rw [List.length_append, List.length_take] at h1
            have h2 := HFL.out
            have h3 := HSM.out
            omega
          have HPU := Lib.hid (hG.push hU.size x hlen)
          have HKM := Lib.hid hkm
          clear hG hU pp hBi hRi hx hlen
          go_wp2_with fail
          refine HPU.out.mono ?_
          rintro e w3 ⟨rfl, h3⟩
          have H3 := Lib.hid h3
          clear h3
          go_wp2
          exact ⟨rrow_round HU.out HMM.out HKM.out HX.out HG.out H3.out, inner_measR HKM.out⟩
        · have t2 : decide (k < m) = false := by simp; omega
          have ek : Hid (k = m) := by unfold Hid; omega
          clear hG hU pp hBi hRi
          go_wp2
          refine ⟨⟨i + 1, fx, by congr 1, HLT.out, ?_, HU.out⟩, inner_measR HLT.out⟩
          have hg := HG.out
          rw [ek.out, ← HMM.out, List.take_length, ← flatTo_succ hiM.out] at hg
          exact hg
    · have t1 : decide (i < n) = false := by simp; omega
      have hgl : IG w w.heap.size L fx wr := by
        have hg := hG
        rw [show i = M.length by have := HN.out; omega, flatTo_all, accI_all HOK.out] at hg
        exact hg
      obtain ⟨ao, cp, q0, hR, lx, hin⟩ := hgl.cell
      obtain ⟨_, _, _, _, hnew⟩ : IG w w.heap.size L fx wr := hgl
      have HR := Lib.hid hR
      have HNEW : Hid (∀ c ∈ blkO ao, w.heap.size ≤ c) := fun c hc => hnew c (hin c hc)
      obtain ⟨a, ha⟩ : ∃ a, L.length = a := ⟨_, rfl⟩
      rw [ha] at q0 HR
      have HAA := Lib.hid ha
      clear hG hU pp hR hin hnew ha HG
      go_wp2
      go_ret
      exact ⟨ao, cp, by rw [HAA.out]; rfl, by rw [HAA.out]; exact HR.out, HNEW.out, HU.out⟩

/-! ### Bases -/
end

/-! ### Spoil -/
def USpoilAt (w : World) (ao : Option Addr) (n cap : Nat) (iv : Value) (wr : World) : Prop :=
  ∃ (i : Nat) (xs : List Value), iv = .int .i64 i ∧ i ≤ n ∧ Upd (blkO ao) w wr ∧ RowO wr 22 1 ao n cap xs

end Go.Proofs.YtolohheflbmfaaaGreatDoor
