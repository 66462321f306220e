/-
  The document's wheel: Map. No condition.
-/
import Derived.Test.YtbnifhdnpeiheaaDoorPR
set_option linter.unusedVariables false
set_option linter.unusedSimpArgs false
namespace Go.Proofs.YtbnifhdnpeiheaaDoor
open Go.RowKit

/-- Does an item lie in a bucket of a level? -/
def okB (wd base l b : Nat) (x : It) : Bool := decide (base ≤ kn x) && decide (lev3 wd base (kn x) = l) && decide (bucN wd (kn x) l = b)
theorem wok_map {s : WS} {L : List It} (h : WOk s L) {l b : Nat} (hl : l < 3) (hb : b < 64) : (s.mw l).testBit b = L.any (okB s.wd s.base l b) := by
  rw [h.bits l hl b hb, Bool.eq_iff_iff, decide_eq_true_iff, List.any_eq_true]
  have e1 : (l * 64 + b) / 64 = l := by omega
  have e2 : (l * 64 + b) % 64 = b := by omega
  constructor
  · intro hp
    obtain ⟨B, hB⟩ : ∃ B, (s.bk (l * 64 + b)).L = B := ⟨_, rfl⟩
    rw [hB] at hp
    cases B with
    | nil => simp at hp
    | cons x r =>
      have hx : x ∈ (s.bk (l * 64 + b)).L := by rw [hB]; simp
      have hxL : x ∈ L := h.perm.mem_iff.1 (mem_allB.2 ⟨_, by omega, hx⟩)
      have hp := h.pl _ (by omega) x hx
      unfold okP at hp
      rw [e1, e2] at hp
      refine ⟨x, hxL, ?_⟩
      unfold okB
      simp [(h.key x hxL).2, hp.1, hp.2]
  · rintro ⟨x, hx, ho⟩
    unfold okB at ho
    simp at ho
    obtain ⟨q, hq, hxq⟩ := mem_allB.1 (h.perm.mem_iff.2 hx)
    have hp := h.pl q hq x hxq
    unfold okP at hp
    have hq2 : q = l * 64 + b := by
      have : q / 64 = l := by rw [← hp.1]; exact ho.1.2
      rw [this] at hp
      have := hp.2
      rw [ho.2] at this
      omega
    subst hq2
    exact List.length_pos_of_mem hxq
theorem mod_step (X b : Nat) : X % 2 ^ (b + 1) = X % 2 ^ b + if X.testBit b = true then 2 ^ b else 0 := by
  rw [Nat.mod_pow_succ, Nat.testBit_eq_decide_div_mod_eq]
  rcases Nat.mod_two_eq_zero_or_one (X / 2 ^ b) with h | h <;> simp [h]
theorem any_at {L : List It} {p : It → Bool} (h : ∀ i, i < L.length → p (atI L i) = false) : L.any p = false := by
  rw [List.any_eq_false]
  intro x hx
  obtain ⟨i, hi, rfl⟩ := List.getElem_of_mem hx
  have := h i hi
  rw [atI_get L i hi] at this
  simp [this]
theorem any_of {L : List It} {p : It → Bool} {i : Nat} (hi : i < L.length) (h : p (atI L i) = true) : L.any p = true := by
  rw [List.any_eq_true]
  exact ⟨_, List.getElem_mem hi, by rw [← atI_get L i hi]; exact h⟩

def MapAt (w : World) (X : Nat) (ov bv : Value) (wr : World) : Prop := ∃ c : Nat, c ≤ 64 ∧ bv = .int .i64 c ∧ ov = .int .u64 (X % 2 ^ c : Nat) ∧ Upd [] w wr
def MapIn (w : World) (L : List It) (p : It → Bool) (s : Nat) (ov iv : Value) (wr : World) : Prop := ∃ i : Nat, iv = .int .i64 i ∧ i ≤ L.length ∧ ov = .int .u64 s ∧ (∀ j, j < i → p (atI L j) = false) ∧ Upd [] w wr
theorem levN_ok {wd base l c : Nat} {x : It} : okB wd base l c x = true ↔ levN wd base (kn x) = l ∧ bucN wd (kn x) l = c := by
  unfold okB levN
  simp only [Bool.and_eq_true, decide_eq_true_eq]
  by_cases h : kn x < base
  · rw [if_pos h]; omega
  · rw [if_neg h]; omega
theorem mod_on {X c p s : Nat} (hp : 2 ^ c = p) (hs : X % 2 ^ c = s) (hX : X < 18446744073709551616) (h : X.testBit c = true) : X % 2 ^ (c + 1) = s + p ∧ s + p < 18446744073709551616 := by
  have := mod_step X c
  rw [if_pos h, hs, hp] at this
  refine ⟨this, ?_⟩
  rw [← this]
  exact Nat.lt_of_le_of_lt (Nat.mod_le _ _) hX
theorem mod_off {X c s : Nat} (hs : X % 2 ^ c = s) (h : X.testBit c = false) : X % 2 ^ (c + 1) = s := by
  have := mod_step X c
  rw [if_neg (by rw [h]; simp), hs] at this
  simpa using this
set_option maxRecDepth 100000 in
set_option maxHeartbeats 4000000 in
theorem rwmap_any {b base wd : Nat} {far : Bool} {ao : Option Addr} {cap : Nat} {L : List It} {w : World} (h : RAt w b base wd far ao cap L) (l : Nat) (hl : l < 3) (X : Nat) (hX : X < 18446744073709551616) (hm : ∀ c, c < 64 → X.testBit c = L.any (okB wd base l c)) (hk : ∀ x ∈ L, x.1 = (kn x : Int) ∧ kn x < 18446744073709551616) :
    Calls Tryd.prog 20 #[.pointer (some ⟨b, 0, none⟩), .int .i64 l] w (RetUpd [] w (.int .u64 X)) := by
  have HH := Lib.hid h
  have HX := Lib.hid hX
  have HM := Lib.hid hm
  have HK := Lib.hid hk
  have hsm := h.its.small
  have wid := Lib.hid h.wid
  have b64 := Lib.hid h.b64
  have hX64 : Hid (X % 2 ^ 64 = X) := Nat.mod_eq_of_lt (by omega)
  have hX1 : Hid (X % 2 ^ 0 = 0) := by unfold Hid; rw [Nat.pow_zero]; omega
  have t1 : decide ((0 : Int) ≤ (l : Int)) = true := by simp
  have t2 : decide ((l : Int) < 3) = true := by simp; omega
  have hl3 : (l : Int) < 3 := by omega
  obtain ⟨n, hn⟩ : ∃ n, L.length = n := ⟨_, rfl⟩
  rw [hn] at hsm
  have HN := Lib.hid hn
  clear h hX hm hk hn
  go_enter Tryd.func20, Tryd.ntmps20
  go_wp2
  go_loopw [5, 6] (fun ov bv wr => MapAt w X ov bv wr) (fun _ bv _ => 64 - (intOf bv).toNat)
  case atStart => exact ⟨0, by omega, rfl, by rw [hX1.out]; rfl, Upd.refl _ _⟩
  case round =>
    obtain ⟨c, hc, rfl, rfl, hU⟩ := hrel
    have HR := Lib.hid (HH.out.up hU (by simp) (by simp))
    have HU := Lib.hid hU
    clear hU
    by_cases hlt : c < 64
    · have u1 : decide ((c : Int) < 64) = true := by simp; omega
      obtain ⟨s, hs⟩ : ∃ s, X % 2 ^ c = s := ⟨_, rfl⟩
      rw [hs]
      have HS := Lib.hid hs
      clear hs
      go_wp2
      obtain ⟨w0, hw0⟩ : ∃ w0, w0 = wr := ⟨_, rfl⟩
      rw [← hw0] at HR HU
      go_loopw [5, 7] (fun ov iv wr => MapIn w0 L (okB wd base l c) s ov iv wr) (fun _ iv _ => n - (intOf iv).toNat)
      case atStart => exact ⟨0, rfl, by omega, rfl, fun j hj => by omega, by rw [hw0]; exact Upd.refl _ _⟩
      case round =>
        obtain ⟨i, rfl, hi, rfl, hj, hU2⟩ := hrel
        have HJ := Lib.hid hj
        rw [HN.out] at hi
        have HR2 := HR.out.up hU2 (by simp) (by simp)
        have HU2 := Lib.hid hU2
        have q0 := HR2.blk.cell (j := 0) rfl
        have q1 := HR2.blk.cell (j := 1) rfl
        have q2 := HR2.blk.cell (j := 2) rfl
        have lb := HR2.blk.lt
        rw [HN.out] at q0
        clear hj hU2
        by_cases hin : i < n
        · have v1 : decide (i < n) = true := by simp [hin]
          have b1 : (i : Int) < (n : Int) := by omega
          obtain ⟨g, hg, hr⟩ := HR2.its.row.row (by rw [HN.out]; omega)
          subst hg
          obtain ⟨x0, x1⟩ := item_cells hr (i := i) (by rw [HN.out]; exact hin)
          obtain ⟨x, hx⟩ : ∃ x, atI L i = x := ⟨_, rfl⟩
          rw [hx] at x0 x1
          have hxL : x ∈ L := by rw [← hx, atI_get L i (by rw [HN.out]; exact hin)]; exact List.getElem_mem _
          obtain ⟨hk1, hk2⟩ := HK.out x hxL
          obtain ⟨k, hkk⟩ : ∃ k, kn x = k := ⟨_, rfl⟩
          rw [hkk] at hk1 hk2
          rw [hk1] at x0
          have lg := hr.lt
          have HLV := Lib.hid (fun w => rlevel_any base k b64.out hk2 wd w)
          have HBU := Lib.hid (fun w => rbucket_any k l hk2 hl wd w)
          have HXX := Lib.hid hx
          have HKK := Lib.hid hkk
          obtain ⟨lv, hlv⟩ : ∃ lv, levN wd base k = lv := ⟨_, rfl⟩
          obtain ⟨bu, hbu⟩ : ∃ bu, bucN wd k l = bu := ⟨_, rfl⟩
          rw [wid.out, hlv] at HLV
          rw [wid.out, hbu] at HBU
          have HOK : Hid (okB wd base l c x = true ↔ lv = (l : Int) ∧ bu = c) := by unfold Hid; rw [levN_ok, hkk, hlv, hbu]
          clear hr hx hxL hk1 hk2 hkk hlv hbu HR2 lg x1
          by_cases hlv : lv = (l : Int)
          · subst hlv
            by_cases hbu : bu = c
            · have v3 : ((bu : Int) == (c : Int)) = true := by simp [hbu]
              have hon : X.testBit c = true := by rw [HM.out c hlt]; exact any_of (i := i) (by rw [HN.out]; exact hin) (by rw [HXX.out]; exact HOK.out.2 ⟨rfl, hbu⟩)
              have hp64 := pow_lt64 hlt
              obtain ⟨p, hp⟩ : ∃ p, 2 ^ c = p := ⟨_, rfl⟩
              have HP := Lib.hid (fun w => by rw [← hp]; exact rone_any c c rfl hlt w : ∀ w, Calls Tryd.prog 75 #[.int .i64 c] w (fun e w' => e = .returned (.int .u64 p) ∧ w = w'))
              obtain ⟨hq, hq64⟩ := mod_on hp HS.out HX.out hon
              have HQ := Lib.hid hq
              obtain ⟨q, hqq⟩ : ∃ q, s + p = q := ⟨_, rfl⟩
              have e1 : (s : Int) + (p : Int) = (q : Int) := by omega
              have e2 : IntKind.u64.wrap (q : Int) = (q : Int) := by rw [IntKind.wrap_u64]; omega
              have HQQ := Lib.hid hqq
              clear hbu hon hp hq hq64 hqq hp64
              go_wp2
              go_quiet ((first | (go_at_call 73; exact Calls.quiet_of_same ((HLV.out _).mono (fun _ _ h => ⟨h.1, h.2.symm⟩))) | (go_at_call 74; exact Calls.quiet_of_same ((HBU.out _).mono (fun _ _ h => ⟨h.1, h.2.symm⟩)))))
              go_wp2_with fail
              refine (HP.out _).mono ?_
              rintro e w5 ⟨rfl, rfl⟩
              go_wp2
              exact ⟨⟨c + 1, by omega, by congr 1, by rw [HQ.out, HQQ.out], HU.out.trans (HU2.out.drewN _)⟩, by first | (simp [intOf]; done) | (simp [intOf]; omega)⟩
            · have v3 : ((bu : Int) == (c : Int)) = false := by simp; omega
              have hno : Hid (okB wd base l c x = false) := by
                unfold Hid; rw [← Bool.not_eq_true]; exact fun h => hbu (HOK.out.1 h).2
              clear hbu
              go_wp2
              go_quiet ((first | (go_at_call 73; exact Calls.quiet_of_same ((HLV.out _).mono (fun _ _ h => ⟨h.1, h.2.symm⟩))) | (go_at_call 74; exact Calls.quiet_of_same ((HBU.out _).mono (fun _ _ h => ⟨h.1, h.2.symm⟩)))))
              go_wp2
              exact ⟨⟨i + 1, by congr 1, by rw [HN.out]; omega, rfl, fun j hj => by
                by_cases e : j = i
                · subst e; rw [HXX.out]; exact hno.out
                · exact HJ.out j (by omega), HU2.out.drewN _⟩, by first | (simp [intOf]; done) | (simp [intOf]; omega)⟩
          · have v2 : (lv == (l : Int)) = false := by simp [hlv]
            have hno : Hid (okB wd base l c x = false) := by
              unfold Hid; rw [← Bool.not_eq_true]; exact fun h => hlv (HOK.out.1 h).1
            clear hlv
            go_wp2
            go_quiet ((go_at_call 73; exact Calls.quiet_of_same ((HLV.out _).mono (fun _ _ h => ⟨h.1, h.2.symm⟩))))
            go_wp2
            exact ⟨⟨i + 1, by congr 1, by rw [HN.out]; omega, rfl, fun j hj => by
              by_cases e : j = i
              · subst e; rw [HXX.out]; exact hno.out
              · exact HJ.out j (by omega), HU2.out.drewN _⟩, by first | (simp [intOf]; done) | (simp [intOf]; omega)⟩
        · have v1 : decide (i < n) = false := by simp; omega
          go_wp2
          have hoff : X.testBit c = false := by rw [HM.out c hlt]; exact any_at (fun j hj => HJ.out j (by have := HN.out; omega))
          exact ⟨⟨c + 1, by omega, by congr 1, by rw [mod_off HS.out hoff], HU.out.trans HU2.out⟩, by first | (simp [intOf]; done) | (simp [intOf]; omega)⟩
    · have u1 : decide ((c : Int) < 64) = false := by simp; omega
      go_wp2
      go_ret
      have hc64 : c = 64 := by omega
      subst hc64
      exact ⟨by rw [hX64.out]; rfl, HU.out⟩
set_option maxRecDepth 100000 in
set_option maxHeartbeats 4000000 in
theorem rwmap_out (b : Nat) (base wd : Nat) {far : Bool} {ao : Option Addr} {cap : Nat} {L : List It} {w : World} (h : RAt w b base wd far ao cap L) (l : Int) (hl : l < 0 ∨ 3 ≤ l) :
    Calls Tryd.prog 20 #[.pointer (some ⟨b, 0, none⟩), .int .i64 l] w (RetUpd [] w (.int .u64 0)) := by
  have HH := Lib.hid h
  have hsm := h.its.small
  obtain ⟨n, hn⟩ : ∃ n, L.length = n := ⟨_, rfl⟩
  rw [hn] at hsm
  have HN := Lib.hid hn
  clear h hn
  rcases hl with hl | hl
  · have t1 : decide (0 ≤ l) = false := by simp; omega
    clear hl
    go_enter Tryd.func20, Tryd.ntmps20
    go_wp2
    go_loopw [5, 6] (fun ov bv wr => MapAt w 0 ov bv wr) (fun _ bv _ => 64 - (intOf bv).toNat)
    case atStart => exact ⟨0, by omega, rfl, by simp, Upd.refl _ _⟩
    case round =>
      obtain ⟨c, hc, rfl, rfl, hU⟩ := hrel
      have HR := Lib.hid (HH.out.up hU (by simp) (by simp))
      have HU := Lib.hid hU
      clear hU
      rw [Nat.zero_mod]
      by_cases hlt : c < 64
      · have u1 : decide ((c : Int) < 64) = true := by simp; omega
        go_wp2
        obtain ⟨w0, hw0⟩ : ∃ w0, w0 = wr := ⟨_, rfl⟩
        rw [← hw0] at HR HU
        go_loopw [5, 7] (fun ov iv wr => MapIn w0 L (fun _ => false) 0 ov iv wr) (fun _ iv _ => n - (intOf iv).toNat)
        case atStart => exact ⟨0, rfl, by omega, rfl, fun j hj => rfl, by rw [hw0]; exact Upd.refl _ _⟩
        case round =>
          obtain ⟨i, rfl, hi, rfl, -, hU2⟩ := hrel
          rw [HN.out] at hi
          have HR2 := HR.out.up hU2 (by simp) (by simp)
          have HU2 := Lib.hid hU2
          have q0 := HR2.blk.cell (j := 0) rfl
          have lb := HR2.blk.lt
          rw [HN.out] at q0
          clear hU2
          by_cases hin : i < n
          · have v1 : decide (i < n) = true := by simp [hin]
            have b1 : (i : Int) < (n : Int) := by omega
            obtain ⟨g, hg, hr⟩ := HR2.its.row.row (by rw [HN.out]; omega)
            subst hg
            obtain ⟨x0, x1⟩ := item_cells hr (i := i) (by rw [HN.out]; exact hin)
            obtain ⟨x, hx⟩ : ∃ x, atI L i = x := ⟨_, rfl⟩
            rw [hx] at x0 x1
            clear hr hx HR2
            go_wp2
            go_quiet (fail)
            go_wp2
            exact ⟨⟨i + 1, by congr 1, by rw [HN.out]; omega, rfl, fun j hj => rfl, HU2.out.drewN _⟩, by first | (simp [intOf]; done) | (simp [intOf]; omega)⟩
          · have v1 : decide (i < n) = false := by simp; omega
            go_wp2
            exact ⟨⟨c + 1, by omega, by congr 1, by rw [Nat.zero_mod], HU.out.trans HU2.out⟩, by first | (simp [intOf]; done) | (simp [intOf]; omega)⟩
      · have u1 : decide ((c : Int) < 64) = false := by simp; omega
        go_wp2
        go_ret
        exact ⟨rfl, HU.out⟩
  · have t1 : decide (0 ≤ l) = true := by simp; omega
    have t2 : decide (l < 3) = false := by simp; omega
    clear hl
    go_enter Tryd.func20, Tryd.ntmps20
    go_wp2
    go_loopw [5, 6] (fun ov bv wr => MapAt w 0 ov bv wr) (fun _ bv _ => 64 - (intOf bv).toNat)
    case atStart => exact ⟨0, by omega, rfl, by simp, Upd.refl _ _⟩
    case round =>
      obtain ⟨c, hc, rfl, rfl, hU⟩ := hrel
      have HR := Lib.hid (HH.out.up hU (by simp) (by simp))
      have HU := Lib.hid hU
      clear hU
      rw [Nat.zero_mod]
      by_cases hlt : c < 64
      · have u1 : decide ((c : Int) < 64) = true := by simp; omega
        go_wp2
        obtain ⟨w0, hw0⟩ : ∃ w0, w0 = wr := ⟨_, rfl⟩
        rw [← hw0] at HR HU
        go_loopw [5, 7] (fun ov iv wr => MapIn w0 L (fun _ => false) 0 ov iv wr) (fun _ iv _ => n - (intOf iv).toNat)
        case atStart => exact ⟨0, rfl, by omega, rfl, fun j hj => rfl, by rw [hw0]; exact Upd.refl _ _⟩
        case round =>
          obtain ⟨i, rfl, hi, rfl, -, hU2⟩ := hrel
          rw [HN.out] at hi
          have HR2 := HR.out.up hU2 (by simp) (by simp)
          have HU2 := Lib.hid hU2
          have q0 := HR2.blk.cell (j := 0) rfl
          have lb := HR2.blk.lt
          rw [HN.out] at q0
          clear hU2
          by_cases hin : i < n
          · have v1 : decide (i < n) = true := by simp [hin]
            have b1 : (i : Int) < (n : Int) := by omega
            obtain ⟨g, hg, hr⟩ := HR2.its.row.row (by rw [HN.out]; omega)
            subst hg
            obtain ⟨x0, x1⟩ := item_cells hr (i := i) (by rw [HN.out]; exact hin)
            obtain ⟨x, hx⟩ : ∃ x, atI L i = x := ⟨_, rfl⟩
            rw [hx] at x0 x1
            clear hr hx HR2
            go_wp2
            go_quiet (fail)
            go_wp2
            exact ⟨⟨i + 1, by congr 1, by rw [HN.out]; omega, rfl, fun j hj => rfl, HU2.out.drewN _⟩, by first | (simp [intOf]; done) | (simp [intOf]; omega)⟩
          · have v1 : decide (i < n) = false := by simp; omega
            go_wp2
            exact ⟨⟨c + 1, by omega, by congr 1, by rw [Nat.zero_mod], HU.out.trans HU2.out⟩, by first | (simp [intOf]; done) | (simp [intOf]; omega)⟩
      · have u1 : decide ((c : Int) < 64) = false := by simp; omega
        go_wp2
        go_ret
        exact ⟨rfl, HU.out⟩
end Go.Proofs.YtbnifhdnpeiheaaDoor
