/-
  The walk of the program's Plays; points apart from memory. No condition.
-/
import Derived.Test.YtfeobcmcellcpaaGreatMi
set_option linter.unusedVariables false
set_option linter.unusedSimpArgs false
namespace Go.Proofs.YtfeobcmcellcpaaGreat
open Go.RowKit

set_option maxHeartbeats 4000000 in
theorem wplays_any {w : World} {ok : Cl → Prop} {pv v : Value} {p : Pl} {l : List Pt} (hp : PlanAt w pv p) (hl : PtsAt' w v l) (hdo : DoOk w p.c ok) (hok : ∀ x ∈ l, ∀ k, callP p.L x = some k → ok k) (hlen : l.length ≤ 288230376151711744) : Calls Tryz.prog 29 #[pv, v] w (RetUpd [] w (.bool (playsM p l).isSome)) := by
  have HM : Hid (∀ w', Upd [] w w' → Calls Tryz.prog 27 #[pv, v] w' (WMTo w p l w')) := fun w' hu => wmodel_any (W := w) hu.size (hp.upd hu) (hl.upd hu) hdo hok hlen
  obtain ⟨lv, rfl, -⟩ := hp
  obtain ⟨-, ao, cap, rfl, -⟩ := pts_at hl
  clear hl hdo hok hlen
  obtain ⟨r, hr⟩ : ∃ y, playsM p l = y := ⟨_, rfl⟩
  have HR := Lib.hid hr
  rw [hr]
  clear hr
  go_enter Tryz.func29, Tryz.ntmps29
  go_wp2_with fail
  refine (HM.out _ ((Upd.refl [] w).alloc _)).mono ?_
  rintro e w2 hto
  rcases hto with ⟨m, mb, G, h1, rfl, -, -, hu, -⟩ | ⟨h1, rfl, hu⟩
  · have e1 : r = some m := HR.out.symm.trans h1
    subst e1
    have HU := Lib.hid (((Upd.refl [] w).alloc _).trans hu)
    clear h1 hu
    go_wp2
    go_ret
    exact ⟨rfl, HU.out⟩
  · have e1 : r = none := HR.out.symm.trans h1
    subst e1
    have HU := Lib.hid (((Upd.refl [] w).alloc _).trans hu)
    clear h1 hu
    go_wp2
    go_ret
    exact ⟨rfl, HU.out⟩
end Go.Proofs.YtfeobcmcellcpaaGreat
