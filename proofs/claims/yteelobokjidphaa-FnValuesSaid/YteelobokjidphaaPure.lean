/- Plain definitions and laws on lists of numbers: what the rows' functions compute. No program in sight, no condition. -/
namespace Go.Proofs.Yteelobokjidphaa

def inB (n lo hi : Int) : Bool := decide (lo ≤ n) && decide (n ≤ hi)
def rvB (xs : List Int) : Bool := (xs.all fun n => inB n 0 1008) && decide (xs.length ≤ 6)
def bothB (xs ys : List Int) : Bool := rvB xs && rvB ys && decide (xs.length = ys.length)
/-- Place by place. -/
def zipR (f : Int → Int → Int) (xs ys : List Int) : List Int := (List.range xs.length).map fun i => f (xs.getD i 0) (ys.getD i 0)
def addF (x y : Int) : Int := (x + y) % 1009
def mulF (x y : Int) : Int := (x * y) % 1009
def joinR (f : Int → Int → Int) (xs ys : List Int) : List Int := if bothB xs ys then zipR f xs ys else []

theorem natBeq (m n : Nat) : ((m : Int) == (n : Int)) = decide (m = n) := by rw [Bool.eq_iff_iff]; simp; omega

theorem inB_true {n lo hi : Int} : inB n lo hi = true ↔ lo ≤ n ∧ n ≤ hi := by simp [inB]
theorem inB_false {n lo hi : Int} : inB n lo hi = false ↔ ¬ (lo ≤ n ∧ n ≤ hi) := by rw [← inB_true]; simp

theorem all_getD {xs : List Int} {p : Int → Bool} : xs.all p = true ↔ ∀ j, j < xs.length → p (xs.getD j 0) = true := by
  rw [List.all_eq_true]
  constructor
  · intro h j hj
    have : xs.getD j 0 = xs[j] := by simp [hj]
    rw [this]
    exact h _ (List.getElem_mem hj)
  · intro h x hx
    obtain ⟨j, hj, rfl⟩ := List.getElem_of_mem hx
    have := h j hj
    simpa [hj] using this

theorem rvB_of_all {xs : List Int} (h : ∀ j, j < xs.length → inB (xs.getD j 0) 0 1008 = true) : rvB xs = decide (xs.length ≤ 6) := by
  unfold rvB
  rw [all_getD.2 h, Bool.true_and]

theorem rvB_false_of {xs : List Int} {k : Nat} (hk : k < xs.length) (h : inB (xs.getD k 0) 0 1008 = false) : rvB xs = false := by
  unfold rvB
  have : (xs.all fun n => inB n 0 1008) = false := by
    rw [Bool.eq_false_iff]
    intro ha
    have := all_getD.1 ha k hk
    rw [h] at this
    cases this
  rw [this, Bool.false_and]

theorem rvB_get {xs : List Int} (h : rvB xs = true) {k : Nat} (hk : k < xs.length) : 0 ≤ xs.getD k 0 ∧ xs.getD k 0 ≤ 1008 := by
  unfold rvB at h
  rw [Bool.and_eq_true] at h
  exact inB_true.1 (all_getD.1 h.1 k hk)

theorem rvB_len {xs : List Int} (h : rvB xs = true) : xs.length ≤ 6 := by
  unfold rvB at h
  rw [Bool.and_eq_true] at h
  exact of_decide_eq_true h.2

theorem bothB_parts {xs ys : List Int} (h : bothB xs ys = true) : rvB xs = true ∧ rvB ys = true ∧ xs.length = ys.length := by
  unfold bothB at h
  simp only [Bool.and_eq_true, decide_eq_true_eq] at h
  exact ⟨h.1.1, h.1.2, h.2⟩

theorem range_map_succ (f : Nat → Int) (k : Nat) : (List.range (k + 1)).map f = (List.range k).map f ++ [f k] := by
  rw [List.range_succ, List.map_append]; rfl

/-- A made row, filled as far as k. -/
def filled (f : Nat → Int) (n k : Nat) : List Int := (List.range k).map f ++ List.replicate (n - k) 0
theorem filled_zero (f : Nat → Int) (n : Nat) : filled f n 0 = List.replicate n 0 := by simp [filled]
theorem filled_all (f : Nat → Int) (n : Nat) : filled f n n = (List.range n).map f := by simp [filled]
theorem filled_length (f : Nat → Int) {n k : Nat} (h : k ≤ n) : (filled f n k).length = n := by simp [filled]; omega
theorem filled_set (f : Nat → Int) {n k : Nat} (h : k < n) : (filled f n k).set k (f k) = filled f n (k + 1) := by
  unfold filled
  have e : n - k = (n - (k + 1)) + 1 := by omega
  rw [range_map_succ, List.append_assoc, e, List.replicate_succ, List.set_append_right _ _ (by simp)]
  simp

theorem joinR_len (f : Int → Int → Int) (xs ys : List Int) : (joinR f xs ys).length ≤ 1048576 := by
  unfold joinR
  split
  · rename_i h
    have := rvB_len (bothB_parts h).1
    simp [zipR]; omega
  · simp

/-- Two rows are the same. -/
def sameB (xs ys : List Int) : Bool := decide (xs = ys)
theorem sameB_self (xs : List Int) : sameB xs xs = true := by simp [sameB]
theorem sameB_of {xs ys : List Int} (hl : xs.length = ys.length) (h : ∀ j, j < xs.length → xs.getD j 0 = ys.getD j 0) : sameB xs ys = true := by
  unfold sameB
  rw [decide_eq_true]
  refine List.ext_getElem hl fun i h1 h2 => ?_
  have := h i h1
  simpa [h1, h2] using this
theorem sameB_len {xs ys : List Int} (hl : ¬ xs.length = ys.length) : sameB xs ys = false := by
  unfold sameB
  rw [decide_eq_false]
  intro e
  exact hl (by rw [e])
theorem sameB_at {xs ys : List Int} {j : Nat} (h : ¬ xs.getD j 0 = ys.getD j 0) : sameB xs ys = false := by
  unfold sameB
  rw [decide_eq_false]
  intro e
  exact h (by rw [e])

/-- The numbers k, k+1, .. -/
def marks (k : Int) (n : Nat) : List Int := (List.range n).map fun (i : Nat) => k + (i : Int)
theorem marks_length (k : Int) (n : Nat) : (marks k n).length = n := by simp [marks]
theorem marks_get (k : Int) {n i : Nat} (h : i < n) : (marks k n).getD i 0 = k + (i : Int) := by simp [marks, h]
/-- A row that is marked as far as i. -/
def marked (xs : List Int) (k : Int) (i : Nat) : List Int := marks k i ++ xs.drop i
theorem marked_zero (xs : List Int) (k : Int) : marked xs k 0 = xs := by simp [marked, marks]
theorem marked_all (xs : List Int) (k : Int) : marked xs k xs.length = marks k xs.length := by simp [marked]
theorem marked_length (xs : List Int) (k : Int) {i : Nat} (h : i ≤ xs.length) : (marked xs k i).length = xs.length := by simp [marked, marks]; omega
theorem marked_set (xs : List Int) (k : Int) {i : Nat} (h : i < xs.length) : (marked xs k i).set i (k + (i : Int)) = marked xs k (i + 1) := by
  unfold marked marks
  rw [range_map_succ, List.append_assoc, List.set_append_right _ _ (by simp), List.drop_eq_getElem_cons h]
  simp only [List.length_map, List.length_range, Nat.sub_self, List.set_cons_zero, List.singleton_append]
theorem copied_eq (xs : List Int) : (List.range xs.length).map (fun i => xs.getD i 0) = xs := by
  refine List.ext_getElem (by simp) fun i h1 h2 => ?_
  simp [h2]
end Go.Proofs.Yteelobokjidphaa
