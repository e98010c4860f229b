/- The ready nodes behind the first of them: plain lists. No condition. -/
import Derived.Test.YteelobokjidphaaUsePure
import Derived.Test.YteelobokjidphaaOrder
namespace Go.Proofs.Yteelobokjidphaa
open Go.RowKit
set_option maxRecDepth 100000

theorem ready_one {ns : List Nd} {done : List Int} {q : List Nat} (hq : q = readyN ns done ns.length) {i : Nat} (h0 : 0 < i) (hi : i < q.length) :
    hasB (numL (readyN ns (done ++ [((q.getD 0 0 : Nat) : Int)]) ns.length)) ((q.getD i 0 : Nat) : Int) = true := by
  have hs : q.Pairwise (· < ·) := by rw [hq]; exact List.Pairwise.filter _ (List.pairwise_lt_range)
  have hne : q.getD 0 0 < q.getD i 0 := by
    have e0 : q.getD 0 0 = q[0] := by simp [show 0 < q.length by omega]
    have e1 : q.getD i 0 = q[i] := by simp [hi]
    rw [e0, e1]
    exact List.pairwise_iff_getElem.1 hs 0 i (by omega) hi h0
  have hm : q.getD i 0 ∈ readyN ns done ns.length := by
    have e1 : q.getD i 0 = q[i] := by simp [hi]
    rw [← hq, e1]
    exact List.getElem_mem _
  obtain ⟨h1, h2⟩ := mem_readyN.1 hm
  refine hasB_true.2 (mem_numL.2 ⟨_, mem_readyN.2 ⟨h1, ?_⟩, rfl⟩)
  unfold readyB at h2 ⊢
  simp only [Bool.and_eq_true, Bool.not_eq_true', List.all_eq_true] at h2 ⊢
  refine ⟨?_, fun x hx => ?_⟩
  · rw [hasB_snoc, h2.1, Bool.false_or]; exact decide_eq_false (by omega)
  · rw [hasB_snoc, h2.2 x hx]; rfl
theorem ready_not {ns : List Nd} {done : List Int} (a : Nat) : hasB (numL (readyN ns (done ++ [(a : Int)]) ns.length)) (a : Int) = false := by
  refine hasB_false.2 fun h => ?_
  obtain ⟨i, hi, e⟩ := mem_numL.1 h
  obtain rfl : a = i := by omega
  obtain ⟨-, h2⟩ := mem_readyN.1 hi
  unfold readyB at h2
  rw [hasB_snoc] at h2
  simp at h2
end Go.Proofs.Yteelobokjidphaa
