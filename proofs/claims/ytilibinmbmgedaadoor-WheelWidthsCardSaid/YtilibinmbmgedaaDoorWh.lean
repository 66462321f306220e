/-
  The walks of WheelLevels and WheelWidths. Condition: where a table of the library's lies.
-/
import Derived.Test.YtilibinmbmgedaaDoorWg
import Derived.Test.YtilibinmbmgedaaDoorNear
namespace Go.Proofs.YtilibinmbmgedaaDoor
open Go.RowKit

set_option maxRecDepth 100000 in
set_option maxHeartbeats 8000000 in
theorem wlevels_walk (base key width level : Int) (W : World) (hT : TabAt 0 Lib.deBruijn64tab W) (h0 : (Lit.int .u64 base).wf = true) (h1 : (Lit.int .u64 key).wf = true) (_ : (Lit.int .i64 width).wf = true) (_ : (Lit.int .i64 level).wf = true) :
    Calls Tryd.prog 3 #[.int .u64 base, .int .u64 key, .int .i64 width, .int .i64 level] W (RetUpd [] W (.bool true)) := by
  have hb0 := wf_u64_bd h0
  have hk0 := wf_u64_bd h1
  obtain ⟨b, rfl⟩ := Int.eq_ofNat_of_zero_le hb0.1
  obtain ⟨k, rfl⟩ := Int.eq_ofNat_of_zero_le hk0.1
  have hb : b < 18446744073709551616 := by omega
  have hk : k < 18446744073709551616 := by omega
  have HT := Lib.hid hT
  have HB := Lib.hid hb
  have HK := Lib.hid hk
  have hm1 := modI_bd width 60 (by omega) (by omega)
  obtain ⟨m1, hm1e⟩ : ∃ m, modI width 60 = m := ⟨_, rfl⟩
  rw [hm1e] at hm1
  have HM1 := Lib.hid hm1e
  have hm1a := hm1.1
  have hm1b := hm1.2
  have hm2 := modI_bd level 5 (by omega) (by omega)
  obtain ⟨m2, hm2e⟩ : ∃ m, modI level 5 = m := ⟨_, rfl⟩
  rw [hm2e] at hm2
  have HM2 := Lib.hid hm2e
  have hm2a := hm2.1
  have hm2b := hm2.2
  clear hT h0 h1 hb0 hk0 hb hk hm1 hm1e hm2 hm2e
  go_enter Tryd.func3, Tryd.ntmps3
  go_wp2_with fail
  refine (mod_any width 60 (by omega) (by omega) _).mono ?_
  rintro e w1 ⟨rfl, rfl⟩
  rw [HM1.out]
  go_wp2_with fail
  refine (near_any 0 k b 0 HK.out _).mono ?_
  rintro e w2 ⟨k2, hk2, rfl, hU2⟩
  have HK2 := Lib.hid hk2
  have HU2 := Lib.hid hU2
  clear hk2 hU2
  go_wp2_with fail
  refine (mod_any level 5 (by omega) (by omega) _).mono ?_
  rintro e w3 ⟨rfl, rfl⟩
  rw [HM2.out]
  go_wp2_with fail
  refine (awake5_any _ (tab_upd HT.out HU2.out)).mono ?_
  rintro e w4 ⟨rfl, hU4⟩
  have HU4 : Hid (Upd [] W w4) := HU2.out.trans hU4
  clear hU4
  go_wp2_with fail
  refine (level_any b k2 HB.out HK2.out _ _).mono ?_
  rintro e w5 ⟨rfl, rfl⟩
  go_wp2_with fail
  refine (rlevel_any b k2 HB.out HK2.out _ _).mono ?_
  rintro e w5 ⟨rfl, rfl⟩
  go_wp2_with fail
  refine (level_any b k HB.out HK.out _ _).mono ?_
  rintro e w5 ⟨rfl, rfl⟩
  go_wp2_with fail
  refine (rlevel_any b k HB.out HK.out _ _).mono ?_
  rintro e w5 ⟨rfl, rfl⟩
  go_wp2_with fail
  refine (wbucket_any k2 _ _ _).mono ?_
  rintro e w5 ⟨rfl, rfl⟩
  go_wp2_with fail
  refine (rbucketI_any k2 HK2.out _ _ _).mono ?_
  rintro e w5 ⟨rfl, rfl⟩
  go_wp2_with fail
  refine (wbucket_any k _ _ _).mono ?_
  rintro e w5 ⟨rfl, rfl⟩
  go_wp2_with fail
  refine (rbucketI_any k HK.out _ _ _).mono ?_
  rintro e w5 ⟨rfl, rfl⟩
  go_wp2
  go_ret
  exact ⟨rfl, HU4.out⟩
end Go.Proofs.YtilibinmbmgedaaDoor
