/- Plain definitions and laws on lists of numbers: what the rows' functions compute. No program in sight, no condition. -/
namespace Go.Proofs.Yteelobokjidphaa

def inB (n lo hi : Int) : Bool := decide (lo ≤ n) && decide (n ≤ hi)
def rvB (xs : List Int) : Bool := (xs.all fun n => inB n 0 1008) && decide (xs.length ≤ 6)
def bothB (xs ys : List Int) : Bool := rvB xs && rvB ys && decide (xs.length = ys.length)
/-- Place by place. -/
def zipR (f : Int → Int → Int) (xs ys : List Int) : List Int := (List.range xs.length).map fun i => f (xs.getD i 0) (ys.getD i 0)
def addF (x y : Int) : Int := (x + y) % 1009
def mulF (x y : Int) : Int := (x * y) % 1009
def joinR (f : Int → Int → Int) (xs ys : List Int) : List Int := if bothB xs ys then zipR f xs ys else []

theorem natBeq (m n : Nat) : ((m : Int) == (n : Int)) = decide (m = n) := by rw [Bool.eq_iff_iff]; simp; omega

theorem inB_true {n lo hi : Int} : inB n lo hi = true ↔ lo ≤ n ∧ n ≤ hi := by simp [inB]
theorem inB_false {n lo hi : Int} : inB n lo hi = false ↔ ¬ (lo ≤ n ∧ n ≤ hi) := by rw [← inB_true]; simp

theorem all_getD {xs : List Int} {p : Int → Bool} : xs.all p = true ↔ ∀ j, j < xs.length → p (xs.getD j 0) = true := by
  rw [List.all_eq_true]
  constructor
  · intro h j hj
    have : xs.getD j 0 = xs[j] := by simp [hj]
    rw [this]
    exact h _ (List.getElem_mem hj)
  · intro h x hx
    obtain ⟨j, hj, rfl⟩ := List.getElem_of_mem hx
    have := h j hj
    simpa [hj] using this

theorem rvB_of_all {xs : List Int} (h : ∀ j, j < xs.length → inB (xs.getD j 0) 0 1008 = true) : rvB xs = decide (xs.length ≤ 6) := by
  unfold rvB
  rw [all_getD.2 h, Bool.true_and]

theorem rvB_false_of {xs : List Int} {k : Nat} (hk : k < xs.length) (h : inB (xs.getD k 0) 0 1008 = false) : rvB xs = false := by
  unfold rvB
  have : (xs.all fun n => inB n 0 1008) = false := by
    rw [Bool.eq_false_iff]
    intro ha
    have := all_getD.1 ha k hk
    rw [h] at this
    cases this
  rw [this, Bool.false_and]

theorem rvB_get {xs : List Int} (h : rvB xs = true) {k : Nat} (hk : k < xs.length) : 0 ≤ xs.getD k 0 ∧ xs.getD k 0 ≤ 1008 := by
  unfold rvB at h
  rw [Bool.and_eq_true] at h
  exact inB_true.1 (all_getD.1 h.1 k hk)

theorem rvB_len {xs : List Int} (h : rvB xs = true) : xs.length ≤ 6 := by
  unfold rvB at h
  rw [Bool.and_eq_true] at h
  exact of_decide_eq_true h.2

theorem bothB_parts {xs ys : List Int} (h : bothB xs ys = true) : rvB xs = true ∧ rvB ys = true ∧ xs.length = ys.length := by
  unfold bothB at h
  simp only [Bool.and_eq_true, decide_eq_true_eq] at h
  exact ⟨h.1.1, h.1.2, h.2⟩

theorem range_map_succ (f : Nat → Int) (k : Nat) : (List.range (k + 1)).map f = (List.range k).map f ++ [f k] := by
  rw [List.range_succ, List.map_append]; rfl

/-- A made row, filled as far as k. -/
def filled (f : Nat → Int) (n k : Nat) : List Int := (List.range k).map f ++ List.replicate (n - k) 0
theorem filled_zero (f : Nat → Int) (n : Nat) : filled f n 0 = List.replicate n 0 := by simp [filled]
theorem filled_all (f : Nat → Int) (n : Nat) : filled f n n = (List.range n).map f := by simp [filled]
theorem filled_length (f : Nat → Int) {n k : Nat} (h : k ≤ n) : (filled f n k).length = n := by simp [filled]; omega
theorem filled_set (f : Nat → Int) {n k : Nat} (h : k < n) : (filled f n k).set k (f k) = filled f n (k + 1) := by
  unfold filled
  have e : n - k = (n - (k + 1)) + 1 := by omega
  rw [range_map_succ, List.append_assoc, e, List.replicate_succ, List.set_append_right _ _ (by simp)]
  simp

theorem joinR_len (f : Int → Int → Int) (xs ys : List Int) : (joinR f xs ys).length ≤ 1048576 := by
  unfold joinR
  split
  · rename_i h
    have := rvB_len (bothB_parts h).1
    simp [zipR]; omega
  · simp

/-- Two rows are the same. -/
def sameB (xs ys : List Int) : Bool := decide (xs = ys)
theorem sameB_self (xs : List Int) : sameB xs xs = true := by simp [sameB]
theorem sameB_of {xs ys : List Int} (hl : xs.length = ys.length) (h : ∀ j, j < xs.length → xs.getD j 0 = ys.getD j 0) : sameB xs ys = true := by
  unfold sameB
  rw [decide_eq_true]
  refine List.ext_getElem hl fun i h1 h2 => ?_
  have := h i h1
  simpa [h1, h2] using this
theorem sameB_len {xs ys : List Int} (hl : ¬ xs.length = ys.length) : sameB xs ys = false := by
  unfold sameB
  rw [decide_eq_false]
  intro e
  exact hl (by rw [e])
theorem sameB_at {xs ys : List Int} {j : Nat} (h : ¬ xs.getD j 0 = ys.getD j 0) : sameB xs ys = false := by
  unfold sameB
  rw [decide_eq_false]
  intro e
  exact h (by rw [e])

/-- The numbers k, k+1, .. -/
def marks (k : Int) (n : Nat) : List Int := (List.range n).map fun (i : Nat) => k + (i : Int)
theorem marks_length (k : Int) (n : Nat) : (marks k n).length = n := by simp [marks]
theorem marks_get (k : Int) {n i : Nat} (h : i < n) : (marks k n).getD i 0 = k + (i : Int) := by simp [marks, h]
/-- A row that is marked as far as i. -/
def marked (xs : List Int) (k : Int) (i : Nat) : List Int := marks k i ++ xs.drop i
theorem marked_zero (xs : List Int) (k : Int) : marked xs k 0 = xs := by simp [marked, marks]
theorem marked_all (xs : List Int) (k : Int) : marked xs k xs.length = marks k xs.length := by simp [marked]
theorem marked_length (xs : List Int) (k : Int) {i : Nat} (h : i ≤ xs.length) : (marked xs k i).length = xs.length := by simp [marked, marks]; omega
theorem marked_set (xs : List Int) (k : Int) {i : Nat} (h : i < xs.length) : (marked xs k i).set i (k + (i : Int)) = marked xs k (i + 1) := by
  unfold marked marks
  rw [range_map_succ, List.append_assoc, List.set_append_right _ _ (by simp), List.drop_eq_getElem_cons h]
  simp only [List.length_map, List.length_range, Nat.sub_self, List.set_cons_zero, List.singleton_append]
theorem copied_eq (xs : List Int) : (List.range xs.length).map (fun i => xs.getD i 0) = xs := by
  refine List.ext_getElem (by simp) fun i h1 h2 => ?_
  simp [h2]

theorem rows_ext {xs ys : List Int} (hl : xs.length = ys.length) (h : ∀ j, j < xs.length → xs.getD j 0 = ys.getD j 0) : xs = ys := by
  refine List.ext_getElem hl fun i h1 h2 => ?_
  have := h i h1
  simpa [h1, h2] using this
theorem joinR_of {f : Int → Int → Int} {xs ys : List Int} (h : bothB xs ys = true) : joinR f xs ys = zipR f xs ys := by unfold joinR; rw [if_pos h]
theorem joinR_length {f : Int → Int → Int} {xs ys : List Int} (h : bothB xs ys = true) : (joinR f xs ys).length = xs.length := by rw [joinR_of h]; simp [zipR]
theorem joinR_get {f : Int → Int → Int} {xs ys : List Int} (h : bothB xs ys = true) {i : Nat} (hi : i < xs.length) : (joinR f xs ys).getD i 0 = f (xs.getD i 0) (ys.getD i 0) := by
  rw [joinR_of h]
  simp [zipR, hi]
theorem rvB_of {xs : List Int} (hl : xs.length ≤ 6) (h : ∀ j, j < xs.length → 0 ≤ xs.getD j 0 ∧ xs.getD j 0 ≤ 1008) : rvB xs = true := by
  rw [rvB_of_all (fun j hj => inB_true.2 (h j hj))]
  exact decide_eq_true hl
theorem bothB_of {xs ys : List Int} (h1 : rvB xs = true) (h2 : rvB ys = true) (h3 : xs.length = ys.length) : bothB xs ys = true := by
  unfold bothB; rw [h1, h2, decide_eq_true h3]; rfl
theorem bothB_comm (xs ys : List Int) : bothB ys xs = bothB xs ys := by
  cases h : bothB xs ys
  · cases h' : bothB ys xs
    · rfl
    · obtain ⟨a, b, c⟩ := bothB_parts h'
      rw [bothB_of b a c.symm] at h
      cases h
  · obtain ⟨a, b, c⟩ := bothB_parts h
    exact bothB_of b a c.symm
theorem joinR_valid {f : Int → Int → Int} (hf : ∀ x y, 0 ≤ f x y ∧ f x y ≤ 1008) {xs ys : List Int} (h : bothB xs ys = true) : rvB (joinR f xs ys) = true := by
  obtain ⟨a, b, c⟩ := bothB_parts h
  refine rvB_of (by rw [joinR_length h]; exact rvB_len a) fun j hj => ?_
  rw [joinR_length h] at hj
  rw [joinR_get h hj]
  exact hf _ _
theorem addF_range (x y : Int) : 0 ≤ addF x y ∧ addF x y ≤ 1008 := by unfold addF; omega
theorem mulF_range (x y : Int) : 0 ≤ mulF x y ∧ mulF x y ≤ 1008 := by unfold mulF; omega
theorem add_valid {xs ys : List Int} (h : bothB xs ys = true) : rvB (joinR addF xs ys) = true := joinR_valid addF_range h
theorem mul_valid {xs ys : List Int} (h : bothB xs ys = true) : rvB (joinR mulF xs ys) = true := joinR_valid mulF_range h
theorem joinR_comm {f : Int → Int → Int} (hf : ∀ x y, f x y = f y x) (xs ys : List Int) : joinR f ys xs = joinR f xs ys := by
  cases h : bothB xs ys
  · unfold joinR; rw [bothB_comm xs ys, h]; rfl
  · have h' := (bothB_comm xs ys).trans h
    obtain ⟨a, b, c⟩ := bothB_parts h
    refine rows_ext (by rw [joinR_length h, joinR_length h', c]) fun j hj => ?_
    rw [joinR_length h'] at hj
    rw [joinR_get h' hj, joinR_get h (by omega), hf]
theorem addF_comm (x y : Int) : addF x y = addF y x := by unfold addF; rw [Int.add_comm]
theorem mulF_comm (x y : Int) : mulF x y = mulF y x := by unfold mulF; rw [Int.mul_comm]

theorem add_add {xs ys : List Int} (h : bothB xs ys = true) :
    bothB xs (joinR addF xs ys) = true ∧ bothB xs xs = true ∧ bothB (joinR addF xs xs) ys = true ∧ joinR addF xs (joinR addF xs ys) = joinR addF (joinR addF xs xs) ys := by
  obtain ⟨a, b, c⟩ := bothB_parts h
  have h1 : bothB xs (joinR addF xs ys) = true := bothB_of a (add_valid h) (joinR_length h).symm
  have h2 : bothB xs xs = true := bothB_of a a rfl
  have h3 : bothB (joinR addF xs xs) ys = true := bothB_of (add_valid h2) b (by rw [joinR_length h2, c])
  refine ⟨h1, h2, h3, rows_ext (by rw [joinR_length h1, joinR_length h3, joinR_length h2]) fun j hj => ?_⟩
  rw [joinR_length h1] at hj
  rw [joinR_get h1 hj, joinR_get h hj, joinR_get h3 (by rw [joinR_length h2]; exact hj), joinR_get h2 hj]
  unfold addF
  omega

theorem zeros_valid {xs : List Int} (h : rvB xs = true) : bothB xs (List.replicate xs.length 0) = true := by
  refine bothB_of h (rvB_of (by simpa using rvB_len h) fun j hj => ?_) (by simp)
  simp only [List.length_replicate] at hj
  simp [hj]
theorem add_zero {xs : List Int} (h : rvB xs = true) : joinR addF xs (List.replicate xs.length 0) = xs := by
  have h1 := zeros_valid h
  refine rows_ext (joinR_length h1) fun j hj => ?_
  rw [joinR_length h1] at hj
  rw [joinR_get h1 hj]
  have := rvB_get h hj
  have e : (List.replicate xs.length (0 : Int)).getD j 0 = 0 := by simp [hj]
  rw [e]
  unfold addF
  omega
theorem mul_zero {xs : List Int} (h : rvB xs = true) : joinR mulF xs (List.replicate xs.length 0) = List.replicate xs.length 0 := by
  have h1 := zeros_valid h
  refine rows_ext (by rw [joinR_length h1]; simp) fun j hj => ?_
  rw [joinR_length h1] at hj
  rw [joinR_get h1 hj]
  have e : (List.replicate xs.length (0 : Int)).getD j 0 = 0 := by simp [hj]
  rw [e]
  unfold mulF
  omega
theorem ones_valid {xs : List Int} (h : rvB xs = true) : bothB xs (List.replicate xs.length 1) = true := by
  refine bothB_of h (rvB_of (by simpa using rvB_len h) fun j hj => ?_) (by simp)
  simp only [List.length_replicate] at hj
  simp [hj]
theorem mul_one {xs : List Int} (h : rvB xs = true) : joinR mulF xs (List.replicate xs.length 1) = xs := by
  have h1 := ones_valid h
  refine rows_ext (joinR_length h1) fun j hj => ?_
  rw [joinR_length h1] at hj
  rw [joinR_get h1 hj]
  have := rvB_get h hj
  have e : (List.replicate xs.length (1 : Int)).getD j 0 = 1 := by simp [hj]
  rw [e]
  unfold mulF
  omega
theorem mul_add {xs ys : List Int} (h : bothB xs ys = true) :
    bothB ys ys = true ∧ bothB xs (joinR addF ys ys) = true ∧ bothB (joinR mulF xs ys) (joinR mulF xs ys) = true ∧ joinR mulF xs (joinR addF ys ys) = joinR addF (joinR mulF xs ys) (joinR mulF xs ys) := by
  obtain ⟨a, b, c⟩ := bothB_parts h
  have h1 : bothB ys ys = true := bothB_of b b rfl
  have h2 : bothB xs (joinR addF ys ys) = true := bothB_of a (add_valid h1) (by rw [joinR_length h1, c])
  have h3 : bothB (joinR mulF xs ys) (joinR mulF xs ys) = true := bothB_of (mul_valid h) (mul_valid h) rfl
  refine ⟨h1, h2, h3, rows_ext (by rw [joinR_length h2, joinR_length h3, joinR_length h]) fun j hj => ?_⟩
  rw [joinR_length h2] at hj
  rw [joinR_get h2 hj, joinR_get h1 (by omega), joinR_get h3 (by rw [joinR_length h]; exact hj), joinR_get h hj]
  unfold addF mulF
  rw [Int.mul_emod, Int.emod_emod_of_dvd _ (Int.dvd_refl _), ← Int.mul_emod, ← Int.add_emod, Int.mul_add]

def put : List Int → Int → List Int
  | [], x => [x]
  | y :: ys, x => if x < y then x :: y :: ys else y :: put ys x
def sortL (xs : List Int) : List Int := xs.foldl put []
def sortR (xs : List Int) : List Int := if rvB xs then sortL xs else []

theorem put_perm : ∀ (P : List Int) (x : Int), (put P x).Perm (x :: P)
  | [], x => List.Perm.refl _
  | y :: ys, x => by
    unfold put
    split
    · exact List.Perm.refl _
    · exact ((put_perm ys x).cons y).trans (List.Perm.swap x y ys)
theorem put_length (P : List Int) (x : Int) : (put P x).length = P.length + 1 := by rw [(put_perm P x).length_eq]; rfl
theorem put_sorted : ∀ (P : List Int) (x : Int), P.Pairwise (· ≤ ·) → (put P x).Pairwise (· ≤ ·)
  | [], x, _ => by simp [put]
  | y :: ys, x, h => by
    have h1 := (List.pairwise_cons.1 h).1
    have h2 := (List.pairwise_cons.1 h).2
    unfold put
    split
    · rename_i hlt
      refine List.pairwise_cons.2 ⟨fun a ha => ?_, h⟩
      rcases List.mem_cons.1 ha with rfl | ha
      · omega
      · have := h1 a ha; omega
    · rename_i hlt
      refine List.pairwise_cons.2 ⟨fun a ha => ?_, put_sorted ys x h2⟩
      rcases List.mem_cons.1 ((put_perm ys x).mem_iff.1 ha) with rfl | ha
      · omega
      · exact h1 a ha
theorem put_first : ∀ (P : List Int) (x : Int) (j : Nat), j ≤ P.length → (∀ i, i < j → P.getD i 0 ≤ x) → (j < P.length → x < P.getD j 0) → put P x = P.take j ++ x :: P.drop j
  | [], x, j, hj, _, _ => by simp [put]
  | y :: ys, x, 0, _, _, h2 => by
    have := h2 (by simp)
    simp at this
    simp [put, this]
  | y :: ys, x, j + 1, hj, h1, h2 => by
    have h0 := h1 0 (by omega)
    simp at h0
    unfold put
    rw [if_neg (by omega), put_first ys x j (by simpa using hj) (fun i hi => by simpa using h1 (i + 1) (by omega)) (fun hlt => by simpa using h2 (by simpa using hlt))]
    simp
theorem foldl_put_perm : ∀ (xs P : List Int), (xs.foldl put P).Perm (P ++ xs)
  | [], P => by simp
  | x :: xs, P => by
    show (xs.foldl put (put P x)).Perm _
    refine (foldl_put_perm xs (put P x)).trans ?_
    refine ((put_perm P x).append_right xs).trans ?_
    exact (List.perm_middle (a := x) (l₁ := P) (l₂ := xs)).symm
theorem foldl_put_sorted : ∀ (xs P : List Int), P.Pairwise (· ≤ ·) → (xs.foldl put P).Pairwise (· ≤ ·)
  | [], _, h => h
  | x :: xs, P, h => foldl_put_sorted xs (put P x) (put_sorted P x h)
theorem sortL_perm (xs : List Int) : (sortL xs).Perm xs := by simpa [sortL] using foldl_put_perm xs []
theorem sortL_sorted (xs : List Int) : (sortL xs).Pairwise (· ≤ ·) := foldl_put_sorted xs [] List.Pairwise.nil
theorem sortL_length (xs : List Int) : (sortL xs).length = xs.length := (sortL_perm xs).length_eq
theorem sorted_eq {xs ys : List Int} (h1 : xs.Pairwise (· ≤ ·)) (h2 : ys.Pairwise (· ≤ ·)) (hp : xs.Perm ys) : xs = ys :=
  List.Perm.eq_of_pairwise (le := (· ≤ ·)) (fun _ _ _ _ h h' => Int.le_antisymm h h') h1 h2 hp
theorem sortL_of_perm {xs ys : List Int} (h : xs.Perm ys) : sortL xs = sortL ys :=
  sorted_eq (sortL_sorted xs) (sortL_sorted ys) ((sortL_perm xs).trans (h.trans (sortL_perm ys).symm))
theorem sortL_twice (xs : List Int) : sortL (sortL xs) = sortL xs := sorted_eq (sortL_sorted _) (sortL_sorted _) (sortL_perm _)
theorem sortL_rev (xs : List Int) : sortL xs.reverse = sortL xs := sortL_of_perm (List.reverse_perm xs)
theorem sortL_snoc (xs : List Int) (x : Int) : sortL (xs ++ [x]) = put (sortL xs) x := by simp [sortL]
theorem sortL_take_succ {xs : List Int} {k : Nat} (hk : k < xs.length) : sortL (xs.take (k + 1)) = put (sortL (xs.take k)) (xs.getD k 0) := by
  rw [List.take_succ_eq_append_getElem hk, sortL_snoc]
  simp [hk]
theorem rvB_perm {xs ys : List Int} (h : xs.Perm ys) : rvB xs = rvB ys := by
  unfold rvB
  rw [h.length_eq]
  congr 1
  rw [Bool.eq_iff_iff, List.all_eq_true, List.all_eq_true]
  exact ⟨fun hh x hx => hh x (h.mem_iff.2 hx), fun hh x hx => hh x (h.mem_iff.1 hx)⟩
theorem sortR_len (xs : List Int) : (sortR xs).length ≤ 1048576 := by
  unfold sortR
  split
  · rename_i h
    have := rvB_len h
    rw [sortL_length]; omega
  · simp
theorem sortR_of {xs : List Int} (h : rvB xs = true) : sortR xs = sortL xs := by unfold sortR; rw [if_pos h]
theorem sorted_getD {P : List Int} (h : P.Pairwise (· ≤ ·)) {i j : Nat} (hij : i ≤ j) (hj : j < P.length) : P.getD i 0 ≤ P.getD j 0 := by
  have e1 : P.getD i 0 = P[i] := by simp [show i < P.length by omega]
  have e2 : P.getD j 0 = P[j] := by simp [hj]
  rw [e1, e2]
  rcases Nat.eq_or_lt_of_le hij with rfl | hlt
  · exact Int.le_refl _
  · exact List.pairwise_iff_getElem.1 h i j (by omega) hj hlt

/-- The row while a value moves down to its place: 'x' stands at place j of the sorted beginning P. -/
def mid (P : List Int) (x : Int) (R : List Int) (j : Nat) : List Int := P.take j ++ x :: (P.drop j ++ R)
theorem mid_length (P : List Int) (x : Int) (R : List Int) (j : Nat) (hj : j ≤ P.length) : (mid P x R j).length = P.length + 1 + R.length := by
  simp [mid]; omega
theorem getD_append_right (A B : List Int) (i : Nat) : (A ++ B).getD (A.length + i) 0 = B.getD i 0 := by
  simp [List.getElem?_append_right]
theorem mid_at (P : List Int) (x : Int) (R : List Int) (j : Nat) (hj : j ≤ P.length) : (mid P x R j).getD j 0 = x := by
  have h : (P.take j).length = j := by simp; omega
  have := getD_append_right (P.take j) (x :: (P.drop j ++ R)) 0
  rw [h] at this
  exact this
theorem mid_cut (P : List Int) (x : Int) (R : List Int) (j : Nat) (hj : j + 1 ≤ P.length) : mid P x R (j + 1) = P.take j ++ P.getD j 0 :: x :: (P.drop (j + 1) ++ R) := by
  unfold mid
  rw [List.take_succ_eq_append_getElem (by omega), List.append_assoc]
  simp [show j < P.length by omega]
theorem mid_pred (P : List Int) (x : Int) (R : List Int) (j : Nat) (hj : j + 1 ≤ P.length) : (mid P x R (j + 1)).getD j 0 = P.getD j 0 := by
  have h : (P.take j).length = j := by simp; omega
  rw [mid_cut P x R j hj]
  have := getD_append_right (P.take j) (P.getD j 0 :: x :: (P.drop (j + 1) ++ R)) 0
  rw [h] at this
  exact this
theorem set_two (A C : List Int) (p q x : Int) : ((A ++ p :: x :: C).set (A.length + 1) q).set A.length x = A ++ x :: q :: C := by
  simp
theorem mid_swap (P : List Int) (x : Int) (R : List Int) (j : Nat) (hj : j + 1 ≤ P.length) : ((mid P x R (j + 1)).set (j + 1) (P.getD j 0)).set j x = mid P x R j := by
  have h : (P.take j).length = j := by simp; omega
  have := set_two (P.take j) (P.drop (j + 1) ++ R) (P.getD j 0) (P.getD j 0) x
  rw [h] at this
  rw [mid_cut P x R j hj, this]
  unfold mid
  have hd : P.drop j = P.getD j 0 :: P.drop (j + 1) := by
    rw [List.drop_eq_getElem_cons (by omega)]
    simp [show j < P.length by omega]
  rw [hd, List.cons_append]
theorem mid_start (P : List Int) (x : Int) (R : List Int) : mid P x R P.length = P ++ x :: R := by simp [mid]
theorem mid_end {P : List Int} {x : Int} {R : List Int} {j : Nat} (hs : P.Pairwise (· ≤ ·)) (hj : j ≤ P.length) (h1 : ∀ i, j ≤ i → i < P.length → x < P.getD i 0) (h2 : 0 < j → P.getD (j - 1) 0 ≤ x) : mid P x R j = put P x ++ R := by
  rw [put_first P x j hj (fun i hi => ?_) (fun hlt => h1 j (Nat.le_refl _) hlt)]
  · simp [mid]
  · have := h2 (by omega)
    have := sorted_getD hs (i := i) (j := j - 1) (by omega) (by omega)
    omega

/-- How often x stands among the first k. -/
def cntI (xs : List Int) (x : Int) : Nat → Int
  | 0 => 0
  | k + 1 => cntI xs x k + (if xs.getD k 0 = x then 1 else 0)
theorem cntI_range (xs : List Int) (x : Int) : ∀ k, 0 ≤ cntI xs x k ∧ cntI xs x k ≤ k
  | 0 => by simp [cntI]
  | k + 1 => by
    have := cntI_range xs x k
    unfold cntI
    split <;> omega
theorem cntI_count (xs : List Int) (x : Int) : ∀ k, k ≤ xs.length → cntI xs x k = ((xs.take k).count x : Int)
  | 0, _ => by simp [cntI]
  | k + 1, hk => by
    have ih := cntI_count xs x k (by omega)
    unfold cntI
    rw [ih, List.take_succ_eq_append_getElem (by omega), List.count_append]
    have e : xs.getD k 0 = xs[k] := by simp [show k < xs.length by omega]
    rw [e]
    by_cases h : xs[k] = x
    · simp [h]
    · simp [h]
theorem cntI_perm {xs ys : List Int} (h : xs.Perm ys) (x : Int) : cntI xs x xs.length = cntI ys x ys.length := by
  rw [cntI_count _ _ _ (Nat.le_refl _), cntI_count _ _ _ (Nat.le_refl _), List.take_length, List.take_length, h.count_eq]
end Go.Proofs.Yteelobokjidphaa
