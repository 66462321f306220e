/-
  The walk of the wheel's All. Condition: where a table of the library's lies.
-/
import Derived.Test.YtolohheflbmfaaaGreatDoorPS
import Derived.Test.YtolohheflbmfaaaGreatDoorWs
set_option linter.unusedVariables false
set_option linter.unusedSimpArgs false
namespace Go.Proofs.YtolohheflbmfaaaGreatDoor
open Go.RowKit Go.Lib Go.Sort

/-! ### What lies in the first buckets -/
def upB (s : WS) (n : Nat) : List It := (List.range n).flatMap (fun q => (s.bk q).L)
theorem upB_add (s : WS) (n m : Nat) : upB s (n + m) = upB s n ++ (List.range m).flatMap (fun b => (s.bk (n + b)).L) := by
  induction m with
  | zero => simp
  | succ m ih =>
    have e : n + (m + 1) = (n + m) + 1 := by omega
    rw [e]
    unfold upB at *
    rw [List.range_succ, List.flatMap_append, ih, List.range_succ, List.flatMap_append, List.append_assoc]
    simp
theorem upB_all (s : WS) : upB s 192 = allB s := rfl
theorem upB_len (s : WS) {n : Nat} (hn : n ≤ 192) : (upB s n).length ≤ (allB s).length := by
  obtain ⟨m, hm⟩ : ∃ m, 192 = n + m := ⟨192 - n, by omega⟩
  rw [← upB_all, hm, upB_add, List.length_append]; omega
def partB (s : WS) (l t : Nat) : List It := ((bitsB (s.mw l) 64).take t).flatMap (fun b => (s.bk (l * 64 + b)).L)
theorem flat_filter {f : Nat → List It} {p : Nat → Bool} (n : Nat) (h : ∀ b, b < n → p b = false → f b = []) : ((List.range n).filter p).flatMap f = (List.range n).flatMap f := by
  induction n with
  | zero => rfl
  | succ n ih =>
    have h1 := ih (fun b hb => h b (by omega))
    rw [List.range_succ, List.filter_append, List.flatMap_append, List.flatMap_append, h1]
    cases hp : p n with
    | true => simp [hp]
    | false => simp [hp, h n (by omega) hp]
theorem partB_all {s : WS} {l : Nat} (hl : l < 3) (h : ∀ l, l < 3 → ∀ b, b < 64 → (s.mw l).testBit b = decide (0 < (s.bk (l * 64 + b)).L.length)) : upB s (l * 64) ++ partB s l (bitsB (s.mw l) 64).length = upB s ((l + 1) * 64) := by
  have e : (l + 1) * 64 = l * 64 + 64 := by omega
  rw [e, upB_add]
  congr 1
  unfold partB bitsB
  rw [List.take_length]
  refine flat_filter 64 (fun b hb hp => ?_)
  rw [h l hl b hb] at hp
  apply List.eq_nil_of_length_eq_zero
  simpa using hp
theorem partB_succ {s : WS} {l t b : Nat} (h : (bitsB (s.mw l) 64)[t]? = some b) : partB s l (t + 1) = partB s l t ++ (s.bk (l * 64 + b)).L := by
  unfold partB
  rw [List.take_add_one, h]
  simp
theorem part_len {s : WS} {l : Nat} (hl : l < 3) (h : ∀ l, l < 3 → ∀ b, b < 64 → (s.mw l).testBit b = decide (0 < (s.bk (l * 64 + b)).L.length)) (t : Nat) : (upB s (l * 64) ++ partB s l t).length ≤ (allB s).length := by
  have h1 := upB_len s (n := (l + 1) * 64) (by omega)
  rw [← partB_all hl h] at h1
  refine Nat.le_trans ?_ h1
  rw [List.length_append, List.length_append]
  have : (partB s l t).length ≤ (partB s l (bitsB (s.mw l) 64).length).length := by
    unfold partB
    rw [List.take_length]
    conv => rhs; rw [← List.take_append_drop t (bitsB (s.mw l) 64)]
    rw [List.flatMap_append, List.length_append]; omega
  omega
theorem row_src {w : World} {ao : Option Addr} {cap : Nat} {L : List It} (h : RowO w 54 2 ao L.length cap (L.flatMap itVs)) : Src w 2 ao L.length (L.flatMap itVs) := by
  refine ⟨flat_len itVs 2 itVs_len L, flat_one L, ?_⟩
  rcases h.cases with ⟨rfl, h0, _, _⟩ | ⟨g, rfl, hr⟩
  · exact .inl ⟨rfl, h0⟩
  · exact .inr ⟨_, rfl, fun j u hu => by rw [add_none, Nat.zero_add]; exact hr.cell hu⟩

def AllAt (w : World) (s : WS) (lv iv : Value) (wr : World) : Prop :=
  ∃ (l : Nat) (ao : Option Addr) (cap : Nat), iv = .int .i64 l ∧ l ≤ 3 ∧ lv = .slice ao (upB s (l * 64)).length cap ∧ RowO wr 54 2 ao (upB s (l * 64)).length cap ((upB s (l * 64)).flatMap itVs) ∧ (∀ c ∈ blkO ao, w.heap.size ≤ c) ∧ Upd [] w wr
def PartAt (w : World) (s : WS) (l : Nat) (bo : Option Addr) (nb bc : Nat) (lv tv : Value) (wr : World) : Prop :=
  ∃ (t : Nat) (ao : Option Addr) (cap : Nat), tv = .int .i64 t ∧ t ≤ nb ∧ lv = .slice ao (upB s (l * 64) ++ partB s l t).length cap ∧ RowO wr 54 2 ao (upB s (l * 64) ++ partB s l t).length cap ((upB s (l * 64) ++ partB s l t).flatMap itVs) ∧ (∀ c ∈ blkO ao, w.heap.size ≤ c) ∧ Upd [] w wr ∧
    RowO wr 3 1 bo nb bc (nVs (bitsB (s.mw l) 64)) ∧ ∀ c ∈ blkO ao, c ∉ blkO bo

theorem all_round {w wr w3 : World} {s : WS} {l t b nb bc n m : Nat} {bo ao ao1 : Option Addr} {cap1 : Nat} (hb : (bitsB (s.mw l) 64)[t]? = some b) (ht : t < nb) (hn : (upB s (l * 64) ++ partB s l t).length = n) (hm : (s.bk (l * 64 + b)).L.length = m) (hf : ∀ c ∈ blkO ao, w.heap.size ≤ c) (hU : Upd [] w wr)
    (hB : RowO wr 3 1 bo nb bc (nVs (bitsB (s.mw l) 64))) (hd : ∀ c ∈ blkO ao, c ∉ blkO bo) (hA : Apped wr 54 2 ao (n + m) ((upB s (l * 64) ++ partB s l t).flatMap itVs ++ (s.bk (l * 64 + b)).L.flatMap itVs) ao1 cap1 w3) :
    PartAt w s l bo nb bc (.slice ao1 (n + m) cap1) (.int .i64 ((t : Int) + 1)) w3 := by
  have e : upB s (l * 64) ++ partB s l (t + 1) = (upB s (l * 64) ++ partB s l t) ++ (s.bk (l * 64 + b)).L := by rw [partB_succ hb, List.append_assoc]
  have hs := hU.size
  refine ⟨t + 1, ao1, cap1, by congr 1, by omega, by rw [e, List.length_append, hn, hm], ?_, fun c hc => ?_, hU.then hA.upd (fun _ _ h => h) (fun i hi h => by have := hf i h; omega), hB.upd hA.upd (fun c hc h => hd c h hc), fun c hc h => ?_⟩
  · rw [e, List.length_append, hn, hm, List.flatMap_append]; exact hA.row
  · rcases hA.at_ c hc with h | h
    · exact hf c h
    · omega
  · rcases hA.at_ c hc with h' | h'
    · exact hd c h' h
    · have := hB.lt c h; omega


set_option maxRecDepth 100000 in
set_option maxHeartbeats 16000000 in
theorem wall_any (wb : Nat) (s : WS) (L : List It) (w : World) (h : WhAt w wb s) (hk : WOk s L) (hT : TabAt 0 Lib.deBruijn64tab w) :
    Calls Tryz.prog 89 #[.pointer (some ⟨wb, 0, none⟩)] w (Told w L []) := by
  obtain ⟨i0, hi0, hz0, hz1, hz2⟩ := info_parts infoItem
  have HH := Lib.hid h
  have HT := Lib.hid hT
  have HK := Lib.hid hk
  have hbl : (allB s).length ≤ 1000 := by rw [hk.perm.length_eq]; exact hk.len
  clear h hT hk
  go_enter Tryz.func89, Tryz.ntmps89
  go_wp2
  go_loopw [3, 7] (fun lv iv wr => AllAt w s lv iv wr) (fun _ iv _ => 3 - (intOf iv).toNat)
  case atStart => exact ⟨0, none, 0, rfl, by omega, rfl, RowO.nil _ _ _, fun c hc => (by cases hc), Upd.refl _ _⟩
  case round =>
    obtain ⟨l, ao, cap, rfl, hl, rfl, hR, hf, hU⟩ := hrel
    have HR := Lib.hid hR
    have HF := Lib.hid hf
    have HU := Lib.hid hU
    obtain ⟨n, hn⟩ : ∃ n, (upB s (l * 64)).length = n := ⟨_, rfl⟩
    rw [hn] at HR ⊢
    have HN := Lib.hid hn
    clear hR hf hU hn
    by_cases hlt : l < 3
    · have t1 : decide ((l : Int) < 3) = true := by simp; omega
      have bl : (l : Int) < 3 := by omega
      have hW := HH.out.up HU.out
      have c1 := hW.top.cell (o := 194 + l) (by omega)
      rw [wheelF_mw s hlt] at c1
      have HBA := Lib.hid (bits_all (s.mw l) (HH.out.mw64 l hlt) wr (tab_upd HT.out HU.out))
      have HX := Lib.hid (show s.mw l = s.mw l from rfl)
      clear hW
      go_wp2_with fail
      refine HBA.out.mono ?_
      rintro e w2 ⟨bo, bc, rfl, hB, hbf, hU2⟩
      have HB := Lib.hid hB
      have HBF := Lib.hid hbf
      have HU2 := Lib.hid hU2
      have hnb := bitsB_len (s.mw l) 64
      obtain ⟨nb, hnbe⟩ : ∃ nb, (bitsB (s.mw l) 64).length = nb := ⟨_, rfl⟩
      rw [hnbe] at HB hnb ⊢
      have HNB := Lib.hid hnbe
      clear hB hbf hU2 hnbe
      go_wp2
      go_loopw [3, 18] (fun lv tv wr => PartAt w s l bo nb bc lv tv wr) (fun _ tv _ => nb - (intOf tv).toNat)
      case atStart =>
        have e : upB s (l * 64) ++ partB s l 0 = upB s (l * 64) := by simp [partB]
        refine ⟨0, ao, cap, rfl, by omega, by rw [e, HN.out], by rw [e, HN.out]; exact HR.out.upd HU2.out (by simp), HF.out, HU.out.trans HU2.out, HB.out, fun c hc hc2 => ?_⟩
        have h1 := HBF.out c hc2
        have h2 := HR.out.lt c hc
        omega
      case round =>
        clear HR HF HN
        obtain ⟨t, ao, cap, rfl, ht, rfl, hR, hf, hU3, hB3, hd⟩ := hrel
        obtain ⟨n, hn⟩ : ∃ n, (upB s (l * 64) ++ partB s l t).length = n := ⟨_, rfl⟩
        rw [hn] at hR ⊢
        have hn1 : n ≤ 1000 := by have := part_len hlt HK.out.bits t; omega
        have HN := Lib.hid hn
        have HR := Lib.hid hR
        have HF := Lib.hid hf
        have HU3 := Lib.hid hU3
        have HB3 := Lib.hid hB3
        have HD := Lib.hid hd
        clear hn hR hf hU3 hB3 hd
        by_cases hin : t < nb
        · have u1 : decide (t < nb) = true := by simp [hin]
          have b1 : (t : Int) < (nb : Int) := by omega
          obtain ⟨b, hb⟩ : ∃ b, (bitsB (s.mw l) 64)[t]? = some b := ⟨_, List.getElem?_eq_getElem (by rw [HNB.out]; exact hin)⟩
          have hb64 : b < 64 := (bitsB_mem.1 (List.mem_of_getElem? hb)).1
          have bb : (b : Int) < 64 := by omega
          obtain ⟨gb, hgb, hrb⟩ := HB3.out.row (by omega)
          have k0 : wr.cell? ⟨gb, t, none⟩ = some (.int .i64 b) := hrb.cell (by unfold nVs; rw [List.getElem?_map, hb]; rfl)
          have lgb := hrb.lt
          have hW := HH.out.up HU3.out
          have c0 := hW.top.cell (o := 2 + (l * 64 + b)) (by omega)
          rw [wheelF_bk s (by omega), ← Nat.add_assoc] at c0
          have HSRC := Lib.hid (row_src (hW.rows (l * 64 + b) (by omega)))
          have hpl := part_len hlt HK.out.bits (t + 1)
          rw [partB_succ hb, ← List.append_assoc, List.length_append, HN.out] at hpl
          obtain ⟨m, hm⟩ : ∃ m, (s.bk (l * 64 + b)).L.length = m := ⟨_, rfl⟩
          rw [hm] at c0 hpl HSRC
          have HMM := Lib.hid hm
          obtain ⟨sx, hsx⟩ : ∃ sx, (s.bk (l * 64 + b)).ao = sx := ⟨_, rfl⟩
          obtain ⟨sc, hsc⟩ : ∃ sc, (s.bk (l * 64 + b)).cap = sc := ⟨_, rfl⟩
          rw [hsx, hsc] at c0
          rw [hsx] at HSRC
          have HBT := Lib.hid hb
          have H63 : Hid (n + m ≤ maxLen) := by unfold Hid maxLen; omega
          have HBY : Hid ((n + m) * 16 ≤ 140737488355328) := by unfold Hid; omega
          subst hgb
          have lw := hW.top.lt
          clear hb hrb hW hpl hm hsx hsc
          go_wp2_with (at_builtin; refine wpList_app2 _ rfl _ _ _ rfl 54 i0 _ 2 16 underlyingItems hi0 hz0 hz1 hz2 rfl Nat.zero_lt_two ao n cap ((upB s (l * 64) ++ partB s l t).flatMap itVs) rfl HR.out sx m sc ((s.bk (l * 64 + b)).L.flatMap itVs) rfl HSRC.out H63.out HBY.out ?_; intro ao1 cap1 w3 hA; have HA := Lib.hid hA; clear hA)
          go_wp2
          exact ⟨all_round HBT.out hin HN.out HMM.out HF.out HU3.out HB3.out HD.out HA.out, by first | (simp [intOf]; done) | (simp [intOf]; omega)⟩
        · have u1 : decide (t < nb) = false := by simp; omega
          have htn : t = nb := by omega
          have hall := partB_all hlt HK.out.bits
          rw [HNB.out, ← htn] at hall
          have HALL := Lib.hid hall
          clear hall htn
          go_wp2
          exact ⟨⟨l + 1, ao, cap, by congr 1, by omega, by rw [← HALL.out, HN.out], by rw [← HALL.out, HN.out]; exact HR.out, HF.out, HU3.out⟩, by first | (simp [intOf]; done) | (simp [intOf]; omega)⟩
    · have t1 : decide ((l : Int) < 3) = false := by simp; omega
      have hl3 : l = 3 := by omega
      subst hl3
      have HA : Hid (upB s (3 * 64) = allB s) := upB_all s
      rw [HA.out] at HR HN
      have hnn := HN.out
      have hn1 : n ≤ 1000 := by omega
      have HLL : Hid (L.length = n) := by unfold Hid; rw [← HK.out.perm.length_eq, hnn]
      clear hnn
      rcases HR.out.cases with ⟨rfl, hn0, hc0, hx0⟩ | ⟨g, rfl, hr⟩
      · subst hn0 hc0
        have hcon := AnyF.slices_SortFunc_none { Tryz.laysSort with } none 0 (.func (.func 111) #[] #[]) wr
        change Calls Tryz.prog 70 _ _ _ at hcon
        have HCON := Lib.hid hcon
        have hL0 : Hid (L = []) := List.eq_nil_of_length_eq_zero HLL.out
        clear hcon hx0
        go_wp2_with fail
        refine HCON.out.mono ?_
        rintro e w3 ⟨rfl, rfl⟩
        go_wp2
        go_ret
        rw [hL0.out]
        exact ⟨none, 0, rfl, RowO.nil _ _ _, fun c hc => (by cases hc), HU.out⟩
      · have hr2 : Row wr 54 2 g (allB s).length cap ((allB s).flatMap itVs) := by rw [HN.out]; exact hr
        have hso := wsort_items g cap (allB s) wr hr2 (by rw [HN.out]; exact hn1)
        rw [HN.out] at hso
        have HSO := Lib.hid hso
        clear hr hr2 hso
        go_wp2_with fail
        refine HSO.out.mono ?_
        rintro e w3 ⟨rfl, D, hp, hs, hrow, hU3⟩
        have hDL : Hid (D = L) := sorted_eq (hp.trans HK.out.perm) HK.out.srt HK.out.nd hs
        have HROW := Lib.hid hrow
        have HU3 := Lib.hid hU3
        clear hp hs hrow hU3
        go_wp2
        go_ret
        refine ⟨some ⟨g, 0, none⟩, cap, by rw [HLL.out]; rfl, ?_, HF.out, HU.out.then HU3.out (fun _ _ hm => hm) (fun i hi hm => by simp at hm; have := HF.out g (by simp [blkO]); omega)⟩
        rw [HLL.out]
        have := HROW.out
        rw [hDL.out] at this
        exact this.o
theorem WG.all {W w : World} {wb base wd : Nat} {L : List It} {fp : List Nat} (h : WG W wb base wd L fp w) :
    Calls Tryz.prog 89 #[.pointer (some ⟨wb, 0, none⟩)] w (Told w L []) := by
  obtain ⟨s, h1, h2, rfl, rfl, rfl, h3, h4, h5⟩ := h
  exact wall_any wb s L w h1 h2 (tab_upd h5 h4)
end Go.Proofs.YtolohheflbmfaaaGreatDoor
