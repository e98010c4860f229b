/- Plain laws on rows: sums and products place by place. No program in sight, no condition. -/
import Derived.Test.YteelobokjidphaaPure
namespace Go.Proofs.Yteelobokjidphaa

theorem rows_ext {xs ys : List Int} (hl : xs.length = ys.length) (h : ∀ j, j < xs.length → xs.getD j 0 = ys.getD j 0) : xs = ys := by
  refine List.ext_getElem hl fun i h1 h2 => ?_
  have := h i h1
  simpa [h1, h2] using this
theorem joinR_of {f : Int → Int → Int} {xs ys : List Int} (h : bothB xs ys = true) : joinR f xs ys = zipR f xs ys := by unfold joinR; rw [if_pos h]
theorem joinR_length {f : Int → Int → Int} {xs ys : List Int} (h : bothB xs ys = true) : (joinR f xs ys).length = xs.length := by rw [joinR_of h]; simp [zipR]
theorem joinR_get {f : Int → Int → Int} {xs ys : List Int} (h : bothB xs ys = true) {i : Nat} (hi : i < xs.length) : (joinR f xs ys).getD i 0 = f (xs.getD i 0) (ys.getD i 0) := by
  rw [joinR_of h]
  simp [zipR, hi]
theorem rvB_of {xs : List Int} (hl : xs.length ≤ 6) (h : ∀ j, j < xs.length → 0 ≤ xs.getD j 0 ∧ xs.getD j 0 ≤ 1008) : rvB xs = true := by
  rw [rvB_of_all (fun j hj => inB_true.2 (h j hj))]
  exact decide_eq_true hl
theorem bothB_of {xs ys : List Int} (h1 : rvB xs = true) (h2 : rvB ys = true) (h3 : xs.length = ys.length) : bothB xs ys = true := by
  unfold bothB; rw [h1, h2, decide_eq_true h3]; rfl
theorem bothB_comm (xs ys : List Int) : bothB ys xs = bothB xs ys := by
  cases h : bothB xs ys
  · cases h' : bothB ys xs
    · rfl
    · obtain ⟨a, b, c⟩ := bothB_parts h'
      rw [bothB_of b a c.symm] at h
      cases h
  · obtain ⟨a, b, c⟩ := bothB_parts h
    exact bothB_of b a c.symm
theorem joinR_valid {f : Int → Int → Int} (hf : ∀ x y, 0 ≤ f x y ∧ f x y ≤ 1008) {xs ys : List Int} (h : bothB xs ys = true) : rvB (joinR f xs ys) = true := by
  obtain ⟨a, b, c⟩ := bothB_parts h
  refine rvB_of (by rw [joinR_length h]; exact rvB_len a) fun j hj => ?_
  rw [joinR_length h] at hj
  rw [joinR_get h hj]
  exact hf _ _
theorem addF_range (x y : Int) : 0 ≤ addF x y ∧ addF x y ≤ 1008 := by unfold addF; omega
theorem mulF_range (x y : Int) : 0 ≤ mulF x y ∧ mulF x y ≤ 1008 := by unfold mulF; omega
theorem add_valid {xs ys : List Int} (h : bothB xs ys = true) : rvB (joinR addF xs ys) = true := joinR_valid addF_range h
theorem mul_valid {xs ys : List Int} (h : bothB xs ys = true) : rvB (joinR mulF xs ys) = true := joinR_valid mulF_range h
theorem joinR_comm {f : Int → Int → Int} (hf : ∀ x y, f x y = f y x) (xs ys : List Int) : joinR f ys xs = joinR f xs ys := by
  cases h : bothB xs ys
  · unfold joinR; rw [bothB_comm xs ys, h]; rfl
  · have h' := (bothB_comm xs ys).trans h
    obtain ⟨a, b, c⟩ := bothB_parts h
    refine rows_ext (by rw [joinR_length h, joinR_length h', c]) fun j hj => ?_
    rw [joinR_length h'] at hj
    rw [joinR_get h' hj, joinR_get h (by omega), hf]
theorem addF_comm (x y : Int) : addF x y = addF y x := by unfold addF; rw [Int.add_comm]
theorem mulF_comm (x y : Int) : mulF x y = mulF y x := by unfold mulF; rw [Int.mul_comm]

theorem add_add {xs ys : List Int} (h : bothB xs ys = true) :
    bothB xs (joinR addF xs ys) = true ∧ bothB xs xs = true ∧ bothB (joinR addF xs xs) ys = true ∧ joinR addF xs (joinR addF xs ys) = joinR addF (joinR addF xs xs) ys := by
  obtain ⟨a, b, c⟩ := bothB_parts h
  have h1 : bothB xs (joinR addF xs ys) = true := bothB_of a (add_valid h) (joinR_length h).symm
  have h2 : bothB xs xs = true := bothB_of a a rfl
  have h3 : bothB (joinR addF xs xs) ys = true := bothB_of (add_valid h2) b (by rw [joinR_length h2, c])
  refine ⟨h1, h2, h3, rows_ext (by rw [joinR_length h1, joinR_length h3, joinR_length h2]) fun j hj => ?_⟩
  rw [joinR_length h1] at hj
  rw [joinR_get h1 hj, joinR_get h hj, joinR_get h3 (by rw [joinR_length h2]; exact hj), joinR_get h2 hj]
  unfold addF
  omega

theorem zeros_valid {xs : List Int} (h : rvB xs = true) : bothB xs (List.replicate xs.length 0) = true := by
  refine bothB_of h (rvB_of (by simpa using rvB_len h) fun j hj => ?_) (by simp)
  simp only [List.length_replicate] at hj
  simp [hj]
theorem add_zero {xs : List Int} (h : rvB xs = true) : joinR addF xs (List.replicate xs.length 0) = xs := by
  have h1 := zeros_valid h
  refine rows_ext (joinR_length h1) fun j hj => ?_
  rw [joinR_length h1] at hj
  rw [joinR_get h1 hj]
  have := rvB_get h hj
  have e : (List.replicate xs.length (0 : Int)).getD j 0 = 0 := by simp [hj]
  rw [e]
  unfold addF
  omega
theorem mul_zero {xs : List Int} (h : rvB xs = true) : joinR mulF xs (List.replicate xs.length 0) = List.replicate xs.length 0 := by
  have h1 := zeros_valid h
  refine rows_ext (by rw [joinR_length h1]; simp) fun j hj => ?_
  rw [joinR_length h1] at hj
  rw [joinR_get h1 hj]
  have e : (List.replicate xs.length (0 : Int)).getD j 0 = 0 := by simp [hj]
  rw [e]
  unfold mulF
  omega
theorem ones_valid {xs : List Int} (h : rvB xs = true) : bothB xs (List.replicate xs.length 1) = true := by
  refine bothB_of h (rvB_of (by simpa using rvB_len h) fun j hj => ?_) (by simp)
  simp only [List.length_replicate] at hj
  simp [hj]
theorem mul_one {xs : List Int} (h : rvB xs = true) : joinR mulF xs (List.replicate xs.length 1) = xs := by
  have h1 := ones_valid h
  refine rows_ext (joinR_length h1) fun j hj => ?_
  rw [joinR_length h1] at hj
  rw [joinR_get h1 hj]
  have := rvB_get h hj
  have e : (List.replicate xs.length (1 : Int)).getD j 0 = 1 := by simp [hj]
  rw [e]
  unfold mulF
  omega
theorem mul_add {xs ys : List Int} (h : bothB xs ys = true) :
    bothB ys ys = true ∧ bothB xs (joinR addF ys ys) = true ∧ bothB (joinR mulF xs ys) (joinR mulF xs ys) = true ∧ joinR mulF xs (joinR addF ys ys) = joinR addF (joinR mulF xs ys) (joinR mulF xs ys) := by
  obtain ⟨a, b, c⟩ := bothB_parts h
  have h1 : bothB ys ys = true := bothB_of b b rfl
  have h2 : bothB xs (joinR addF ys ys) = true := bothB_of a (add_valid h1) (by rw [joinR_length h1, c])
  have h3 : bothB (joinR mulF xs ys) (joinR mulF xs ys) = true := bothB_of (mul_valid h) (mul_valid h) rfl
  refine ⟨h1, h2, h3, rows_ext (by rw [joinR_length h2, joinR_length h3, joinR_length h]) fun j hj => ?_⟩
  rw [joinR_length h2] at hj
  rw [joinR_get h2 hj, joinR_get h1 (by omega), joinR_get h3 (by rw [joinR_length h]; exact hj), joinR_get h hj]
  unfold addF mulF
  rw [Int.mul_emod, Int.emod_emod_of_dvd _ (Int.dvd_refl _), ← Int.mul_emod, ← Int.add_emod, Int.mul_add]
end Go.Proofs.Yteelobokjidphaa
