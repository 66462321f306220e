/-
  The program's model: Do does as the plain words say, whatever the call. No condition.
-/
import Derived.Test.YtfeobcmcellcpaaGreatOq
import Derived.Test.YtfeobcmcellcpaaGreatMo
set_option linter.unusedVariables false
set_option linter.unusedSimpArgs false
namespace Go.Proofs.YtfeobcmcellcpaaGreat
open Go.RowKit

set_option maxRecDepth 100000 in
set_option maxHeartbeats 8000000 in
theorem mdo_no {W w : World} {mb : Nat} {c : Cf} {m : Ms} {G : List Nat} (h : MG W mb c m G w) (k : Cl) (hk : ¬ (1 ≤ k.op ∧ k.op ≤ 6)) : Calls Tryz.prog 61 #[.pointer (some ⟨mb, 0, none⟩), clV k] w (MTo W mb c (rtE 2, m) G w) := by
  have HM := Lib.hid h
  have hd := Deed27.new w k
  obtain ⟨w2, hw2⟩ : ∃ y, (w.alloc (.cells #[.int .i64 k.op, .int .i64 k.flow, .int .i64 k.a, .int .i64 k.b] 46)).alloc (.cells #[.int .i64 0, .slice none 0 0, .int .i64 0, .int .u64 0] 57) = y := ⟨_, rfl⟩
  obtain ⟨b3, hb3⟩ : ∃ y, w.heap.size = y := ⟨_, rfl⟩
  rw [hw2, hb3] at hd
  obtain ⟨b4, hb4⟩ : ∃ y, b3 + 1 = y := ⟨_, rfl⟩
  rw [hb4] at hd
  have HD := Lib.hid hd
  have HWI := Lib.hid (fun w' => mwithin_any k.op 1 6 w')
  rw [decide_eq_false hk] at HWI
  have y0 := hd.box.cell (j := 0) rfl
  have ly := hd.box.lt
  unfold clV
  clear hd hk h
  go_enter Tryz.func61, Tryz.ntmps61
  go_upto_region 2 with (fail)
  have HA7 : Hid (Upd [] w2 (w2.alloc (.cells #[.nilFunc, .func (.func 89) #[] #[], .func (.func 90) #[] #[], .func (.func 91) #[] #[], .func (.func 92) #[] #[], .func (.func 93) #[] #[], .func (.func 94) #[] #[]] 147))) := (Upd.refl [] w2).alloc _
  have HR4 := Lib.hid (HD.out.ret.upd HA7.out (by simp))
  go_wp2_with fail
  refine (HWI.out _).mono ?_
  rintro e w3 ⟨rfl, rfl⟩
  go_wp2_with fail
  refine (mrefused_any _ _).mono ?_
  rintro e9 w9 ⟨rfl, hu9⟩
  have hr9 := HR4.out.upd hu9 (by simp)
  have HR9 := Lib.hid hr9
  have q0 := hr9.cell (j := 0) rfl
  have q1 := hr9.cell (j := 1) rfl
  have q2 := hr9.cell (j := 2) rfl
  have q3 := hr9.cell (j := 3) rfl
  have f0 := hr9.free 0
  have f1 := hr9.free 1
  have f2 := hr9.free 2
  have f3 := hr9.free 3
  have l9 := hr9.lt
  have HU9 := Lib.hid hu9
  clear hr9 hu9
  go_wp2_with fail
  refine bodyPost_ret (v := .agg #[.int .i64 2, .slice none 0 0, .int .i64 0, .int .u64 0]) (by simp [results, Tryz.results61, go_sem, q0, q1, q2, q3]) rfl ?_
  exact MTo.keep HM.out (T := [b4]) ((HD.out.upd.trans (HA7.out.trans HU9.out)).nil.trans ((((((Upd.refl [b4] w9).setCell (.inl (by simp)) _).setCell (.inl (by simp)) _).setCell (.inl (by simp)) _).setCell (.inl (by simp)) _))) (fun x hx => by simp only [List.mem_cons, List.not_mem_nil, or_false] at hx; subst hx; have := HD.out.n3; have := HD.out.n4; omega) _ _ _
theorem do_ok (W : World) (c : Cf) : DoOk W c (fun _ => True) := fun w mb m G k hm _ hn => by
  have h1 := oneM_len m
  by_cases e1 : k.op = 1
  · have e : doM c m k = regM c m k := by unfold doM; rw [if_pos e1]
    rw [e]
    exact ⟨mdo_register hm hn k e1, by unfold regM; split <;> simp⟩
  by_cases e2 : k.op = 2
  · have e : doM c m k = delM_ m k := by unfold doM; rw [if_neg e1, if_pos e2]
    rw [e]
    exact ⟨mdo_shut hm hn k e2, by show m.n ≤ m.n + 16; omega⟩
  by_cases e3 : k.op = 3
  · have e : doM c m k = enqM m k := by unfold doM; rw [if_neg e1, if_neg e2, if_pos e3]
    rw [e]
    exact ⟨mdo_enqueue hm hn k e3, by unfold enqM; split <;> simp⟩
  by_cases e4 : k.op = 4
  · have e : doM c m k = oneM m := by unfold doM; rw [if_neg e1, if_neg e2, if_neg e3, if_pos e4]
    rw [e]
    exact ⟨mdo_dequeue hm hn k e4, by omega⟩
  by_cases e5 : k.op = 5
  · have e : doM c m k = batchM m k := by unfold doM; rw [if_neg e1, if_neg e2, if_neg e3, if_neg e4, if_pos e5]
    rw [e]
    refine ⟨mdo_batch hm hn k e5, ?_⟩
    have key : ∀ (j : Nat) (m : Ms) (L : List Pk), (batM j m L).2.n ≤ m.n + j := by
      intro j
      induction j with
      | zero => intro m L; exact Nat.le_refl _
      | succ j ih =>
        intro m L
        have h1 := oneM_len m
        show (if (oneM m).1.e = 0 then batM j (oneM m).2 (L ++ (oneM m).1.L) else (⟨(oneM m).1.e, L, 0, 0⟩, (oneM m).2)).2.n ≤ _
        split
        · have := ih (oneM m).2 (L ++ (oneM m).1.L); omega
        · show (oneM m).2.n ≤ _; omega
    unfold batchM
    split
    · show m.n ≤ m.n + 16; omega
    · have := key k.a.toNat m []; omega
  by_cases e6 : k.op = 6
  · exact aw_do W c w mb m G k hm e6 hn
  · have e : doM c m k = (rtE 2, m) := by unfold doM; rw [if_neg e1, if_neg e2, if_neg e3, if_neg e4, if_neg e5, if_neg e6]
    rw [e]
    exact ⟨mdo_no hm k (by omega), by show m.n ≤ m.n + 16; omega⟩
end Go.Proofs.YtfeobcmcellcpaaGreat
