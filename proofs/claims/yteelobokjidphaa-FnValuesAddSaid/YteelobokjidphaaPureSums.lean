/- Plain laws on the sums of a row's beginnings. No condition. -/
import Derived.Test.YteelobokjidphaaSums
import Derived.Test.YteelobokjidphaaPure
namespace Go.Proofs.Yteelobokjidphaa

theorem sumsR_of {xs : List Int} (h : rvB xs = true) : sumsR xs = (List.range xs.length).map fun i => psum xs (i + 1) := by unfold sumsR; rw [if_pos h]
theorem sumsR_length {xs : List Int} (h : rvB xs = true) : (sumsR xs).length = xs.length := by rw [sumsR_of h]; simp
theorem sumsR_get {xs : List Int} (h : rvB xs = true) {i : Nat} (hi : i < xs.length) : (sumsR xs).getD i 0 = psum xs (i + 1) := by
  rw [sumsR_of h]; simp [hi]
theorem sumsR_valid {xs : List Int} (h : rvB xs = true) : rvB (sumsR xs) = true := by
  refine rvB_of (by rw [sumsR_length h]; exact rvB_len h) fun j hj => ?_
  rw [sumsR_length h] at hj
  rw [sumsR_get h hj]
  exact psum_range _ _
theorem psum_add {xs ys : List Int} (h : bothB xs ys = true) : ∀ k, k ≤ xs.length → psum (joinR addF xs ys) k = addF (psum xs k) (psum ys k)
  | 0, _ => by simp [psum, addF]
  | k + 1, hk => by
    have ih := psum_add h k (by omega)
    unfold psum
    rw [ih, joinR_get h (by omega)]
    unfold addF
    omega
theorem sums_add {xs : List Int} (h : rvB xs = true) :
    bothB xs xs = true ∧ rvB (joinR addF xs xs) = true ∧ bothB (sumsR xs) (sumsR xs) = true ∧ sumsR (joinR addF xs xs) = joinR addF (sumsR xs) (sumsR xs) := by
  have h1 : bothB xs xs = true := bothB_of h h rfl
  have h2 := add_valid h1
  have h3 : bothB (sumsR xs) (sumsR xs) = true := bothB_of (sumsR_valid h) (sumsR_valid h) rfl
  refine ⟨h1, h2, h3, rows_ext (by rw [sumsR_length h2, joinR_length h1, joinR_length h3, sumsR_length h]) fun j hj => ?_⟩
  rw [sumsR_length h2, joinR_length h1] at hj
  rw [sumsR_get h2 (by rw [joinR_length h1]; exact hj), psum_add h1 _ (by omega), joinR_get h3 (by rw [sumsR_length h]; exact hj), sumsR_get h hj]
theorem psum_sum (xs : List Int) : ∀ k, k ≤ xs.length → psum xs k = (xs.take k).sum % 1009
  | 0, _ => by simp [psum]
  | k + 1, hk => by
    have ih := psum_sum xs k (by omega)
    unfold psum
    rw [ih, List.take_succ_eq_append_getElem (by omega), List.sum_append]
    have e : xs.getD k 0 = xs[k] := by simp [show k < xs.length by omega]
    rw [e]
    simp
theorem psum_rev (xs : List Int) : psum xs.reverse xs.length = psum xs xs.length := by
  rw [psum_sum xs.reverse _ (by simp), psum_sum xs _ (Nat.le_refl _), List.take_of_length_le (by simp), List.take_of_length_le (Nat.le_refl _), List.sum_reverse]
end Go.Proofs.Yteelobokjidphaa
