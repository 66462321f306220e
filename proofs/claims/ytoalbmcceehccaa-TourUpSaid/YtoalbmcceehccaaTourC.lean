/-
  The walks of tour.New and of the reference's NewTour: a tour of n leaves, none of which has an item. No condition.
-/
import Derived.Test.YtoalbmcceehccaaTourB
import Derived.Lib.MinMax
namespace Go.Proofs.Ytoalbmcceehccaa
open Go.RowKit

theorem underlyingLeaves : Try.prog.underlying 54 = some (.slice 61) := by kernel_rfl
theorem underlyingInts : Try.prog.underlying 55 = some (.slice 3) := by kernel_rfl
theorem underlyingBools : Try.prog.underlying 29 = some (.slice 4) := by kernel_rfl
theorem underlyingItems : Try.prog.underlying 30 = some (.slice 43) := by kernel_rfl
theorem infoLeaf : (Try.prog.info? 61).map (fun i => (i.zero, i.size, i.bytes)) = some (some (.agg #[.int .u64 0, .int .i64 0, .bool false]), 3, 24) := by kernel_rfl
theorem infoInt : (Try.prog.info? 3).map (fun i => (i.zero, i.size, i.bytes)) = some (some (.int .i64 0), 1, 8) := by kernel_rfl
theorem infoBool : (Try.prog.info? 4).map (fun i => (i.zero, i.size, i.bytes)) = some (some (.bool false), 1, 1) := by kernel_rfl
theorem infoItem : (Try.prog.info? 43).map (fun i => (i.zero, i.size, i.bytes)) = some (some (.agg #[.int .u64 0, .int .i64 0]), 2, 16) := by kernel_rfl

theorem made_flat {α : Type} (f : α → List Value) (m : Nat) (hf : ∀ x, (f x).length = m) (x : α) (n : Nat) : (madeCells (f x).toArray (n * m)).toList = (List.replicate n x).flatMap f := by
  apply List.ext_getElem?
  intro j
  by_cases hj : j < n * m
  · have hm : 0 < m := by rcases Nat.eq_zero_or_pos m with rfl | h; simp at hj; exact h
    have hq : j / m < n := Nat.div_lt_of_lt_mul (by rw [Nat.mul_comm]; exact hj)
    have hr : j % m < m := Nat.mod_lt _ hm
    have e : j = j / m * m + j % m := by rw [Nat.mul_comm]; exact (Nat.div_add_mod j m).symm
    rw [show ((List.replicate n x).flatMap f)[j]? = ((List.replicate n x).flatMap f)[j / m * m + j % m]? by rw [← e], flat_get f m hf _ (j / m) (j % m) hr x (by simp [hq])]
    have : (j % (f x).toArray.size) < (f x).length := by simp [hf, hr]
    simp [madeCells, hj, hf, hr]
  · rw [List.getElem?_eq_none (by simp [madeCells]; omega), List.getElem?_eq_none (by rw [flat_len f m hf]; simp; omega)]

/-- How many leaves there are, of any number that was asked for. -/
def leavesOf (n : Int) : Nat := (min (max n 1) 16).toNat
theorem leavesOf_cast (n : Int) : ((leavesOf n : Nat) : Int) = min (max n 1) 16 := by unfold leavesOf; omega
theorem leavesOf_bd (n : Int) : 1 ≤ leavesOf n ∧ leavesOf n ≤ 16 := by unfold leavesOf; omega
def sizeOf2 (m : Nat) : Nat := if m ≤ 1 then 1 else if m ≤ 2 then 2 else if m ≤ 4 then 4 else if m ≤ 8 then 8 else 16
def Pow (s : Nat) : Prop := s = 1 ∨ s = 2 ∨ s = 4 ∨ s = 8 ∨ s = 16
theorem Pow.step {s m : Nat} (h : Pow s) (hm : m ≤ 16) (hs : s < m) : Pow (2 * s) := by unfold Pow at *; omega
theorem Pow.done {s m : Nat} (h : Pow s) (hb : s = 1 ∨ s / 2 < m) (hs : m ≤ s) (hm : m ≤ 16) : s = sizeOf2 m := by unfold Pow at h; unfold sizeOf2; (repeat' split) <;> omega
theorem sizeOf2_ge (m : Nat) (h : m ≤ 16) : m ≤ sizeOf2 m := by unfold sizeOf2; (repeat' split) <;> omega
theorem sizeOf2_le (m : Nat) : sizeOf2 m ≤ 16 := by unfold sizeOf2; (repeat' split) <;> omega

def newTr (bt bl bn cap m : Nat) : Tr := ⟨bt, bl, bn, cap, sizeOf2 m, List.replicate m zLeaf, List.replicate (2 * sizeOf2 m) (-1)⟩

def NewPost (n : Int) (w : World) (e : Ending) (w' : World) : Prop :=
  ∃ bt bl bn cap, e = .returned (.pointer (some ⟨bt, 0, none⟩)) ∧ TourAt w' (newTr bt bl bn cap (leavesOf n)) ∧ Upd [] w w' ∧ w.heap.size ≤ bt ∧ w.heap.size ≤ bl ∧ w.heap.size ≤ bn

/-- While the size is found. -/
def SizeAt (w : World) (m bt bl : Nat) (wr : World) : Prop :=
  ∃ s : Nat, Pow s ∧ (s = 1 ∨ s / 2 < m) ∧ Blk wr bt 57 [.slice (some ⟨bl, 0, none⟩) m m, .int .i64 s, .slice none 0 0] ∧ Row wr 61 3 bl m m ((List.replicate m zLeaf).flatMap leafVs) ∧ Upd [] w wr

/-- While the nodes are made. -/
def FillAt (w : World) (m s bt bl : Nat) (iv : Value) (wr : World) : Prop :=
  ∃ (i : Nat) (ao : Option Addr) (cp : Nat), iv = .int .i64 i ∧ i ≤ 2 * s ∧ Blk wr bt 57 [.slice (some ⟨bl, 0, none⟩) m m, .int .i64 s, .slice ao i cp] ∧ Row wr 61 3 bl m m ((List.replicate m zLeaf).flatMap leafVs) ∧ Upd [] w wr ∧
    wr.ownsRow (w.heap.size + 2) 3 1 (.slice ao i cp) i (List.replicate i (.int .i64 (-1)))

theorem new_start {w w1 : World} {m : Nat} (hown : w1.ownsRow 0 61 3 (.slice (some ⟨w.heap.size, 0, none⟩) m m) m (madeCells (Value.agg #[.int .u64 0, .int .i64 0, .bool false]).cells (m * 3)).toList) (hg : w.grownBy w1 none) :
    SizeAt w m w1.heap.size w.heap.size (w1.alloc (.cells #[.slice (some ⟨w.heap.size, 0, none⟩) m m, .int .i64 1, .slice none 0 0] 57)) := by
  have hr : Row w1 61 3 w.heap.size m m ((List.replicate m zLeaf).flatMap leafVs) := by
    have := made_flat leafVs 3 leafVs_len zLeaf m
    rw [← this]; exact hown
  refine ⟨1, .inl rfl, .inl rfl, ?_, hr.alloc _, ((Upd.refl _ w).grown hg (by simp)).alloc _⟩
  exact Blk.new w1 _ [.slice (some ⟨w.heap.size, 0, none⟩) m m, .int .i64 1, .slice none 0 0]

theorem size_round {w wr : World} {m bt bl s : Nat} (hB : Blk wr bt 57 [.slice (some ⟨bl, 0, none⟩) m m, .int .i64 s, .slice none 0 0]) (hR : Row wr 61 3 bl m m ((List.replicate m zLeaf).flatMap leafVs)) (hU : Upd [] w wr)
    (hp : Pow s) (hm : m ≤ 16) (hs : s < m) (hbt : w.heap.size ≤ bt ∧ bl ≠ bt) :
    SizeAt w m bt bl (wr.setCell ⟨bt, 1, none⟩ (.int .i64 ((s : Int) * 2))) ∧
      m - cellNat (wr.setCell ⟨bt, 1, none⟩ (.int .i64 ((s : Int) * 2))) bt 1 < m - cellNat wr bt 1 := by
  have h2 := hB.set 1 (.int .i64 ((s : Int) * 2))
  constructor
  · refine ⟨2 * s, hp.step hm hs, .inr (by omega), ?_, hR.setFar (fun e => hbt.2 e.symm) _, hU.setCell (.inr hbt.1) _⟩
    rw [show ((2 * s : Nat) : Int) = (s : Int) * 2 by omega]
    exact h2
  · unfold cellNat
    rw [h2.cell (j := 1) rfl, hB.cell (j := 1) rfl]
    unfold Pow at hp
    simp [intOf]; omega

theorem fill_start {w wr : World} {m bt bl s : Nat} (hB : Blk wr bt 57 [.slice (some ⟨bl, 0, none⟩) m m, .int .i64 s, .slice none 0 0]) (hR : Row wr 61 3 bl m m ((List.replicate m zLeaf).flatMap leafVs)) (hU : Upd [] w wr) :
    FillAt w m s bt bl (.int .i64 0) wr := ⟨0, none, 0, rfl, by omega, hB, hR, hU, World.ownsRow_nil _ _ _ _⟩

theorem fill_keep {w wr w2 : World} {m bt bl s i g cap : Nat} {v : Value} (hB : Blk wr bt 57 [.slice (some ⟨bl, 0, none⟩) m m, .int .i64 s, v]) (hR : Row wr 61 3 bl m m ((List.replicate m zLeaf).flatMap leafVs)) (hU : Upd [] w wr)
    (ho : wr.ownsRow (w.heap.size + 2) 3 1 v i (List.replicate i (.int .i64 (-1)))) (ho2 : w2.ownsRow (w.heap.size + 2) 3 1 (.slice (some ⟨g, 0, none⟩) (i + 1) cap) (i + 1) (List.replicate i (.int .i64 (-1)) ++ [.int .i64 (-1)]))
    (hg : (wr.alloc (.cells #[.int .i64 (-1)] 3)).grownBy w2 v.ownBlock) (hbt : bt = w.heap.size + 1 ∧ bl = w.heap.size) :
    Blk w2 bt 57 [.slice (some ⟨bl, 0, none⟩) m m, .int .i64 s, v] ∧ Row w2 61 3 bl m m ((List.replicate m zLeaf).flatMap leafVs) ∧ Upd [] w w2 ∧ w.heap.size + 2 ≤ g ∧ Row w2 3 1 g (i + 1) cap (List.replicate (i + 1) (.int .i64 (-1))) := by
  have hv := ho.lt
  have hgg : w.heap.size + 2 ≤ g := by
    rcases ho2.2 with ⟨h, _⟩ | ⟨g', _, _, h, hb, _⟩
    · simp at h
    · simp only [Value.slice.injEq, Option.some.injEq, Addr.mk.injEq, and_true, true_and] at h
      omega
  have hu : Upd (match v.ownBlock with | some k => [k] | none => []) wr w2 := by
    refine ((Upd.refl _ wr).alloc _).grown hg (fun k hk => .inl ?_)
    rw [hk]; simp
  have hne : ∀ k, v.ownBlock = some k → w.heap.size + 2 ≤ k := fun k hk => (hv k hk).1
  have hnb : ∀ b, b < w.heap.size + 2 → b ∉ (match v.ownBlock with | some k => [k] | none => []) := by
    intro b hb
    cases hk : v.ownBlock with
    | none => simp
    | some k => simp only [List.mem_singleton]; have := hne k hk; omega
  refine ⟨hB.upd hu (hnb _ (by omega)), hR.upd hu (hnb _ (by omega)), hU.then hu (fun _ _ h => h) (fun j hj h => absurd h (hnb j (by omega))), hgg, ?_⟩
  have : List.replicate (i + 1) (Value.int .i64 (-1)) = List.replicate i (.int .i64 (-1)) ++ [.int .i64 (-1)] := by rw [List.replicate_succ']
  rw [this]
  exact ⟨ho2.1, by
    rcases ho2.2 with ⟨h, _⟩ | ⟨g', c', cur, h, _, r⟩
    · simp at h
    · exact .inr ⟨g', c', cur, h, Nat.zero_le _, r⟩⟩

theorem fill_round {w w2 : World} {m s i g cap : Nat} {v : Value} (h : Blk w2 (w.heap.size + 1) 57 [.slice (some ⟨w.heap.size, 0, none⟩) m m, .int .i64 s, v] ∧ Row w2 61 3 w.heap.size m m ((List.replicate m zLeaf).flatMap leafVs) ∧ Upd [] w w2 ∧ w.heap.size + 2 ≤ g ∧ Row w2 3 1 g (i + 1) cap (List.replicate (i + 1) (.int .i64 (-1))))
    (hi : i < 2 * s) :
    FillAt w m s (w.heap.size + 1) w.heap.size (.int .i64 ((i : Int) + 1)) (w2.setCell ⟨w.heap.size + 1, 2, none⟩ (.slice (some ⟨g, 0, none⟩) (i + 1) cap)) ∧
      2 * s - (intOf (.int .i64 ((i : Int) + 1))).toNat < 2 * s - (intOf (.int .i64 (i : Int))).toNat := by
  obtain ⟨hB, hR, hU, hg, hN⟩ := h
  refine ⟨⟨i + 1, some ⟨g, 0, none⟩, cap, by congr 1, by omega, hB.set 2 _, hR.setFar (by simp) _, hU.setCell (.inr (by simp)) _, ?_⟩, by simp [intOf]; omega⟩
  have hN' := hN.setFar (a := ⟨w.heap.size + 1, 2, none⟩) (by simp; omega) (.slice (some ⟨g, 0, none⟩) (i + 1) cap)
  obtain ⟨h1, cur, h2, r⟩ := hN'.parts
  exact ⟨h1, .inr ⟨g, cap, cur, rfl, hg, h2, r⟩⟩

theorem newTr_inr (bt bl bn cap m : Nat) : InR (newTr bt bl bn cap m).L.length (newTr bt bl bn cap m).N := by
  intro v hv
  simp only [newTr, List.mem_replicate] at hv
  simp only [newTr, List.length_replicate]
  omega

theorem new_done {n : Int} {w wr : World} {m s cp : Nat} {ao : Option Addr} (hB : Blk wr (w.heap.size + 1) 57 [.slice (some ⟨w.heap.size, 0, none⟩) m m, .int .i64 s, .slice ao (2 * s) cp]) (hR : Row wr 61 3 w.heap.size m m ((List.replicate m zLeaf).flatMap leafVs)) (hU : Upd [] w wr)
    (ho : wr.ownsRow (w.heap.size + 2) 3 1 (.slice ao (2 * s) cp) (2 * s) (List.replicate (2 * s) (.int .i64 (-1)))) (hs : s = sizeOf2 m) (hm : leavesOf n = m) (h1 : 1 ≤ m) (h2 : m ≤ 16) :
    NewPost n w (.returned (.pointer (some ⟨w.heap.size + 1, 0, none⟩))) wr := by
  subst hs hm
  have hge := sizeOf2_ge (leavesOf n) h2
  rcases ho.2 with ⟨_, h⟩ | ⟨g, cap, cur, h, hg, r⟩
  · omega
  · simp only [Value.slice.injEq, true_and] at h
    obtain ⟨rfl, rfl⟩ := h
    refine ⟨w.heap.size + 1, w.heap.size, g, cp, rfl, ?_, hU, by omega, by omega, by omega⟩
    exact { top := by simpa [newTr] using hB, leaves := by simpa [newTr] using hR, nodes := by simp only [newTr, List.map_replicate]; exact ⟨ho.1, .inr ⟨g, cp, cur, rfl, Nat.zero_le _, r⟩⟩, tl := by simp [newTr], tn := by simp only [newTr]; omega, ln := by simp only [newTr]; omega, nlen := by simp [newTr], one := by simpa [newTr] using h1, fits := by simpa [newTr] using hge, small := sizeOf2_le _, inr := newTr_inr _ _ _ _ _ }

set_option maxHeartbeats 4000000 in
theorem tnew_any (n : Int) (w : World) : Calls Try.prog 20 #[.int .i64 n] w (NewPost n w) := by
  obtain ⟨il, hil, hzl, hsl, hbl⟩ := info_parts infoLeaf
  obtain ⟨ii, hii, hzi, hsi, hbi⟩ := info_parts infoInt
  have hm := leavesOf_bd n
  have hc := leavesOf_cast n
  obtain ⟨m, hmm⟩ : ∃ m, leavesOf n = m := ⟨_, rfl⟩
  rw [hmm] at hm hc
  have HM := Lib.hid hmm
  have HC := Lib.hid hc
  clear hmm hc
  have hm1 := hm.1
  have hm2 := hm.2
  clear hm
  go_enter Try.func20, Try.ntmps20
  go_wp2_with (at_make; refine wpList_make_full' _ rfl (.tmp 7) (.tmp 7) 54 rfl 0 61 il _ 3 underlyingLeaves hil hzl hsl .i64 .i64 (min (max n 1) 16) (min (max n 1) 16) m rfl rfl HC.out.symm HC.out.symm (by rw [hbl]; omega) (by unfold maxLen; omega) (Nat.zero_le _) ?_; intro w1 hown hgrow hsize)
  rw [← HC.out]
  have hst := new_start hown hgrow
  rw [hsize] at hst
  generalize hW : World.alloc w1 _ = W1 at *
  have HS := Lib.hid hst
  clear hown hgrow hst hsize
  clear hW
  go_loopw [] (fun wr => SizeAt w m (w.heap.size + 1) w.heap.size wr) (fun wr => m - cellNat wr (w.heap.size + 1) 1)
  case atStart => exact HS.out
  case round =>
    clear HS
    obtain ⟨s, hp, hs, hB, hR, hU⟩ := hrel
    have b0 := hB.cell (j := 0) rfl
    have b1 := hB.cell (j := 1) rfl
    have b2 := hB.cell (j := 2) rfl
    have z1 := hB.free 1
    have z2 := hB.free 2
    have HB := Lib.hid hB
    have HR := Lib.hid hR
    have HU := Lib.hid hU
    have HP := Lib.hid hp
    have Hs := Lib.hid hs
    clear hB hR hU hp hs
    by_cases hsm : s < m
    · go_wp2
      exact size_round HB.out HR.out HU.out HP.out hm2 hsm ⟨by omega, by omega⟩
    · have h16 : s ≤ 16 := by have := HP.out; unfold Pow at this; omega
      go_wp2
      have hsz : s = sizeOf2 m := HP.out.done Hs.out (by omega) hm2
      have hF := fill_start HB.out HR.out HU.out
      have HZ := Lib.hid hsz
      have HF := Lib.hid hF
      clear b0 b1 b2 z1 z2 HB HR HU HP Hs hsz hF
      go_loopw [29] (fun i wr => FillAt w m s (w.heap.size + 1) w.heap.size i wr) (fun i _ => 2 * s - (intOf i).toNat)
      case atStart => exact HF.out
      case round =>
        clear HF
        obtain ⟨i, ao, cp, rfl, hi, hB, hR, hU, hown⟩ := hrel
        have b0 := hB.cell (j := 0) rfl
        have b1 := hB.cell (j := 1) rfl
        have b2 := hB.cell (j := 2) rfl
        have z2 := hB.free 2
        have HB := Lib.hid hB
        have HR := Lib.hid hR
        have HU := Lib.hid hU
        have hbs := hU.size
        have ltb := hB.lt
        have HO := Lib.hid hown
        clear hB hR hU hown
        by_cases hsm : i < 2 * s
        · have hd : decide ((i : Int) < 2 * (s : Int)) = true := by simp; omega
          go_wp2_with (at_builtin; refine wpList_append_lies _ rfl (.tmp 35) (.tmp 36) 55 rfl (w.heap.size + 2) 3 ii _ 1 8 underlyingInts hii hzi hsi hbi rfl (by omega) (.slice ao i cp) i _ rfl (HO.out.alloc _) ⟨wr.heap.size, 0, none⟩ 1 1 [.int .i64 (-1)] rfl rfl (World.news_of_block (cs := #[.int .i64 (-1)]) (t := 3) (fr := (0, 0)) (heap_alloc_new wr _)) (by simp [Value.oneCell']) (by omega) (by unfold maxLen; omega) (by omega) (by simp; omega) (wr.heap.size + 1) (by simp) ?_; intro g cap w2 hown2 hgrow hat hgl; have hK := fill_keep HB.out HR.out HU.out HO.out hown2 hgrow ⟨rfl, rfl⟩; have HK := Lib.hid hK; have b0 := hK.1.cell (j := 0) rfl; have b2 := hK.1.cell (j := 2) rfl; have z2 := hK.1.free 2; clear hK hown2 hgrow HB HR HU HO)
          exact fill_round HK.out hsm
        · have hd : decide ((i : Int) < 2 * (s : Int)) = false := by simp; omega
          go_wp2
          go_ret
          have e : i = 2 * s := by omega
          subst e
          exact new_done HB.out HR.out HU.out HO.out HZ.out HM.out hm1 hm2
end Go.Proofs.Ytoalbmcceehccaa
