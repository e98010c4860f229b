/- Plain laws on sorting by insertion. No program in sight, no condition. -/
import Derived.Test.YteelobokjidphaaPure
namespace Go.Proofs.Yteelobokjidphaa

def put : List Int → Int → List Int
  | [], x => [x]
  | y :: ys, x => if x < y then x :: y :: ys else y :: put ys x
def sortL (xs : List Int) : List Int := xs.foldl put []
def sortR (xs : List Int) : List Int := if rvB xs then sortL xs else []

theorem put_perm : ∀ (P : List Int) (x : Int), (put P x).Perm (x :: P)
  | [], x => List.Perm.refl _
  | y :: ys, x => by
    unfold put
    split
    · exact List.Perm.refl _
    · exact ((put_perm ys x).cons y).trans (List.Perm.swap x y ys)
theorem put_length (P : List Int) (x : Int) : (put P x).length = P.length + 1 := by rw [(put_perm P x).length_eq]; rfl
theorem put_sorted : ∀ (P : List Int) (x : Int), P.Pairwise (· ≤ ·) → (put P x).Pairwise (· ≤ ·)
  | [], x, _ => by simp [put]
  | y :: ys, x, h => by
    have h1 := (List.pairwise_cons.1 h).1
    have h2 := (List.pairwise_cons.1 h).2
    unfold put
    split
    · rename_i hlt
      refine List.pairwise_cons.2 ⟨fun a ha => ?_, h⟩
      rcases List.mem_cons.1 ha with rfl | ha
      · omega
      · have := h1 a ha; omega
    · rename_i hlt
      refine List.pairwise_cons.2 ⟨fun a ha => ?_, put_sorted ys x h2⟩
      rcases List.mem_cons.1 ((put_perm ys x).mem_iff.1 ha) with rfl | ha
      · omega
      · exact h1 a ha
theorem put_first : ∀ (P : List Int) (x : Int) (j : Nat), j ≤ P.length → (∀ i, i < j → P.getD i 0 ≤ x) → (j < P.length → x < P.getD j 0) → put P x = P.take j ++ x :: P.drop j
  | [], x, j, hj, _, _ => by simp [put]
  | y :: ys, x, 0, _, _, h2 => by
    have := h2 (by simp)
    simp at this
    simp [put, this]
  | y :: ys, x, j + 1, hj, h1, h2 => by
    have h0 := h1 0 (by omega)
    simp at h0
    unfold put
    rw [if_neg (by omega), put_first ys x j (by simpa using hj) (fun i hi => by simpa using h1 (i + 1) (by omega)) (fun hlt => by simpa using h2 (by simpa using hlt))]
    simp
theorem foldl_put_perm : ∀ (xs P : List Int), (xs.foldl put P).Perm (P ++ xs)
  | [], P => by simp
  | x :: xs, P => by
    show (xs.foldl put (put P x)).Perm _
    refine (foldl_put_perm xs (put P x)).trans ?_
    refine ((put_perm P x).append_right xs).trans ?_
    exact (List.perm_middle (a := x) (l₁ := P) (l₂ := xs)).symm
theorem foldl_put_sorted : ∀ (xs P : List Int), P.Pairwise (· ≤ ·) → (xs.foldl put P).Pairwise (· ≤ ·)
  | [], _, h => h
  | x :: xs, P, h => foldl_put_sorted xs (put P x) (put_sorted P x h)
theorem sortL_perm (xs : List Int) : (sortL xs).Perm xs := by simpa [sortL] using foldl_put_perm xs []
theorem sortL_sorted (xs : List Int) : (sortL xs).Pairwise (· ≤ ·) := foldl_put_sorted xs [] List.Pairwise.nil
theorem sortL_length (xs : List Int) : (sortL xs).length = xs.length := (sortL_perm xs).length_eq
theorem sorted_eq {xs ys : List Int} (h1 : xs.Pairwise (· ≤ ·)) (h2 : ys.Pairwise (· ≤ ·)) (hp : xs.Perm ys) : xs = ys :=
  List.Perm.eq_of_pairwise (le := (· ≤ ·)) (fun _ _ _ _ h h' => Int.le_antisymm h h') h1 h2 hp
theorem sortL_of_perm {xs ys : List Int} (h : xs.Perm ys) : sortL xs = sortL ys :=
  sorted_eq (sortL_sorted xs) (sortL_sorted ys) ((sortL_perm xs).trans (h.trans (sortL_perm ys).symm))
theorem sortL_twice (xs : List Int) : sortL (sortL xs) = sortL xs := sorted_eq (sortL_sorted _) (sortL_sorted _) (sortL_perm _)
theorem sortL_rev (xs : List Int) : sortL xs.reverse = sortL xs := sortL_of_perm (List.reverse_perm xs)
theorem sortL_snoc (xs : List Int) (x : Int) : sortL (xs ++ [x]) = put (sortL xs) x := by simp [sortL]
theorem sortL_take_succ {xs : List Int} {k : Nat} (hk : k < xs.length) : sortL (xs.take (k + 1)) = put (sortL (xs.take k)) (xs.getD k 0) := by
  rw [List.take_succ_eq_append_getElem hk, sortL_snoc]
  simp [hk]
theorem rvB_perm {xs ys : List Int} (h : xs.Perm ys) : rvB xs = rvB ys := by
  unfold rvB
  rw [h.length_eq]
  congr 1
  rw [Bool.eq_iff_iff, List.all_eq_true, List.all_eq_true]
  exact ⟨fun hh x hx => hh x (h.mem_iff.2 hx), fun hh x hx => hh x (h.mem_iff.1 hx)⟩
theorem sortR_len (xs : List Int) : (sortR xs).length ≤ 1048576 := by
  unfold sortR
  split
  · rename_i h
    have := rvB_len h
    rw [sortL_length]; omega
  · simp
theorem sortR_of {xs : List Int} (h : rvB xs = true) : sortR xs = sortL xs := by unfold sortR; rw [if_pos h]
theorem sorted_getD {P : List Int} (h : P.Pairwise (· ≤ ·)) {i j : Nat} (hij : i ≤ j) (hj : j < P.length) : P.getD i 0 ≤ P.getD j 0 := by
  have e1 : P.getD i 0 = P[i] := by simp [show i < P.length by omega]
  have e2 : P.getD j 0 = P[j] := by simp [hj]
  rw [e1, e2]
  rcases Nat.eq_or_lt_of_le hij with rfl | hlt
  · exact Int.le_refl _
  · exact List.pairwise_iff_getElem.1 h i j (by omega) hj hlt

/-- The row while a value moves down to its place: 'x' stands at place j of the sorted beginning P. -/
def mid (P : List Int) (x : Int) (R : List Int) (j : Nat) : List Int := P.take j ++ x :: (P.drop j ++ R)
theorem mid_length (P : List Int) (x : Int) (R : List Int) (j : Nat) (hj : j ≤ P.length) : (mid P x R j).length = P.length + 1 + R.length := by
  simp [mid]; omega
theorem getD_append_right (A B : List Int) (i : Nat) : (A ++ B).getD (A.length + i) 0 = B.getD i 0 := by
  simp [List.getElem?_append_right]
theorem mid_at (P : List Int) (x : Int) (R : List Int) (j : Nat) (hj : j ≤ P.length) : (mid P x R j).getD j 0 = x := by
  have h : (P.take j).length = j := by simp; omega
  have := getD_append_right (P.take j) (x :: (P.drop j ++ R)) 0
  rw [h] at this
  exact this
theorem mid_cut (P : List Int) (x : Int) (R : List Int) (j : Nat) (hj : j + 1 ≤ P.length) : mid P x R (j + 1) = P.take j ++ P.getD j 0 :: x :: (P.drop (j + 1) ++ R) := by
  unfold mid
  rw [List.take_succ_eq_append_getElem (by omega), List.append_assoc]
  simp [show j < P.length by omega]
theorem mid_pred (P : List Int) (x : Int) (R : List Int) (j : Nat) (hj : j + 1 ≤ P.length) : (mid P x R (j + 1)).getD j 0 = P.getD j 0 := by
  have h : (P.take j).length = j := by simp; omega
  rw [mid_cut P x R j hj]
  have := getD_append_right (P.take j) (P.getD j 0 :: x :: (P.drop (j + 1) ++ R)) 0
  rw [h] at this
  exact this
theorem set_two (A C : List Int) (p q x : Int) : ((A ++ p :: x :: C).set (A.length + 1) q).set A.length x = A ++ x :: q :: C := by
  simp
theorem mid_swap (P : List Int) (x : Int) (R : List Int) (j : Nat) (hj : j + 1 ≤ P.length) : ((mid P x R (j + 1)).set (j + 1) (P.getD j 0)).set j x = mid P x R j := by
  have h : (P.take j).length = j := by simp; omega
  have := set_two (P.take j) (P.drop (j + 1) ++ R) (P.getD j 0) (P.getD j 0) x
  rw [h] at this
  rw [mid_cut P x R j hj, this]
  unfold mid
  have hd : P.drop j = P.getD j 0 :: P.drop (j + 1) := by
    rw [List.drop_eq_getElem_cons (by omega)]
    simp [show j < P.length by omega]
  rw [hd, List.cons_append]
theorem mid_start (P : List Int) (x : Int) (R : List Int) : mid P x R P.length = P ++ x :: R := by simp [mid]
theorem mid_end {P : List Int} {x : Int} {R : List Int} {j : Nat} (hs : P.Pairwise (· ≤ ·)) (hj : j ≤ P.length) (h1 : ∀ i, j ≤ i → i < P.length → x < P.getD i 0) (h2 : 0 < j → P.getD (j - 1) 0 ≤ x) : mid P x R j = put P x ++ R := by
  rw [put_first P x j hj (fun i hi => ?_) (fun hlt => h1 j (Nat.le_refl _) hlt)]
  · simp [mid]
  · have := h2 (by omega)
    have := sorted_getD hs (i := i) (j := j - 1) (by omega) (by omega)
    omega

/-- How often x stands among the first k. -/
def cntI (xs : List Int) (x : Int) : Nat → Int
  | 0 => 0
  | k + 1 => cntI xs x k + (if xs.getD k 0 = x then 1 else 0)
theorem cntI_range (xs : List Int) (x : Int) : ∀ k, 0 ≤ cntI xs x k ∧ cntI xs x k ≤ k
  | 0 => by simp [cntI]
  | k + 1 => by
    have := cntI_range xs x k
    unfold cntI
    split <;> omega
theorem cntI_count (xs : List Int) (x : Int) : ∀ k, k ≤ xs.length → cntI xs x k = ((xs.take k).count x : Int)
  | 0, _ => by simp [cntI]
  | k + 1, hk => by
    have ih := cntI_count xs x k (by omega)
    unfold cntI
    rw [ih, List.take_succ_eq_append_getElem (by omega), List.count_append]
    have e : xs.getD k 0 = xs[k] := by simp [show k < xs.length by omega]
    rw [e]
    by_cases h : xs[k] = x
    · simp [h]
    · simp [h]
theorem cntI_perm {xs ys : List Int} (h : xs.Perm ys) (x : Int) : cntI xs x xs.length = cntI ys x ys.length := by
  rw [cntI_count _ _ _ (Nat.le_refl _), cntI_count _ _ _ (Nat.le_refl _), List.take_length, List.take_length, h.count_eq]
end Go.Proofs.Yteelobokjidphaa
