/-
  Two heaps side by side inside a law. No condition.
-/
import Derived.Test.YtilibinmbmgedaaHeapR
namespace Go.Proofs.Ytilibinmbmgedaa
open Go.RowKit

def HH2 (W : World) (h1 : Nat) (L1 : List It) (h2 : Nat) (L2 : List It) (w : World) : Prop := ∃ fp1 fp2, HG W h1 L1 fp1 w ∧ HG W h2 L2 fp2 w ∧ ∀ b ∈ fp1, b ∉ fp2
theorem HH2.swap {W w : World} {h1 h2 : Nat} {L1 L2 : List It} (h : HH2 W h1 L1 h2 L2 w) : HH2 W h2 L2 h1 L1 w := by
  obtain ⟨fp1, fp2, a, b, d⟩ := h
  exact ⟨fp2, fp1, b, a, fun x h2 h1 => d x h1 h2⟩
theorem HH2.updW {W w : World} {h1 h2 : Nat} {L1 L2 : List It} (h : HH2 W h1 L1 h2 L2 w) : Upd [] W w := by obtain ⟨fp1, fp2, a, b, d⟩ := h; exact a.2.2
theorem HH2.upd {W w w' : World} {h1 h2 : Nat} {L1 L2 : List It} (h : HH2 W h1 L1 h2 L2 w) (hu : Upd [] w w') : HH2 W h1 L1 h2 L2 w' := by
  obtain ⟨fp1, fp2, a, b, d⟩ := h
  exact ⟨fp1, fp2, a.upd hu, b.upd hu, d⟩
theorem HH2.step {W w w' : World} {h1 h2 : Nat} {L1 L2 L1' : List It} {fp1 fp2 : List Nat} (a : HG W h1 L1 fp1 w) (b : HG W h2 L2 fp2 w) (d : ∀ x ∈ fp1, x ∉ fp2) (k : HGTo W h1 L1' fp1 w w') : HH2 W h1 L1' h2 L2 w' := by
  obtain ⟨fp', hG, hf, hU⟩ := k
  refine ⟨fp', fp2, hG, b.updS hU (fun x hx e => d x e hx) a.2.1, fun x hx e => ?_⟩
  rcases hf x hx with h | h
  · exact d x h e
  · have := b.1.lt x e; omega
theorem HH2.push {W w : World} {h1 h2 : Nat} {L1 L2 : List It} (h : HH2 W h1 L1 h2 L2 w) (x : It) (hs : L1.length < 1000) :
    Calls Try.prog 13 #[.pointer (some ⟨h1, 0, none⟩), .agg #[.int .u64 x.1, .int .i64 x.2]] w (fun e w' => e = .returned (.bool (!hasI L1 x.2)) ∧ HH2 W h1 (if hasI L1 x.2 then L1 else insI x L1) h2 L2 w') := by
  obtain ⟨fp1, fp2, a, b, d⟩ := h
  exact (a.push x hs).mono fun _ _ k => ⟨k.1, HH2.step a b d k.2⟩
theorem HH2.pop {W w : World} {h1 h2 : Nat} {L1 L2 : List It} (h : HH2 W h1 L1 h2 L2 w) :
    Calls Try.prog 15 #[.pointer (some ⟨h1, 0, none⟩)] w (fun e w' => e = .returned (firstV L1) ∧ HH2 W h1 L1.tail h2 L2 w') := by
  obtain ⟨fp1, fp2, a, b, d⟩ := h
  exact a.pop.mono fun _ _ k => ⟨k.1, HH2.step a b d k.2⟩
theorem HH2.all {W w : World} {h1 h2 : Nat} {L1 L2 : List It} (h : HH2 W h1 L1 h2 L2 w) (hs : L1.length ≤ 1000) :
    Calls Try.prog 12 #[.pointer (some ⟨h1, 0, none⟩)] w (fun e w' => Told w L1 [] e w' ∧ HH2 W h1 L1 h2 L2 w') := by
  have h0 := h
  obtain ⟨fp1, fp2, a, b, d⟩ := h
  exact (heap_all h1 L1 fp1 w a.1 hs).mono fun _ _ k => ⟨k, by obtain ⟨_, _, _, _, _, hU⟩ := k; exact h0.upd hU⟩

theorem srt_mem_eq {L M : List It} (hL : Srt L) (hM : Srt M) (h : ∀ x, x ∈ L ↔ x ∈ M) : L = M :=
  srt_unique hL hM ((List.perm_ext_iff_of_nodup hL.nd hM.nd).2 h)
end Go.Proofs.Ytilibinmbmgedaa
