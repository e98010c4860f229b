/- The rows of a plan's nodes: plain lists. No condition. -/
import Derived.Test.YteelobokjidphaaPlanPure
import Derived.Test.YteelobokjidphaaKindRun
import Derived.Test.YteelobokjidphaaPureSums
import Derived.Test.YteelobokjidphaaRunHelp
namespace Go.Proofs.Yteelobokjidphaa
open Go.RowKit
set_option maxRecDepth 100000

/-- The row of a node out of the rows ahead of it. -/
def pickR (rows : List (List Int)) (fs : List Int) : List (List Int) := fs.map fun f => rows.getD f.toNat []
def stepL (n : Nd) (rows : List (List Int)) : List Int := if n.kind = 0 then n.row else krL n.kind (pickR rows n.fs)
/-- The rows of the first k nodes. -/
def valsN (ns : List Nd) : Nat → List (List Int)
  | 0 => []
  | k + 1 => valsN ns k ++ [stepL (ns.getD k nd0) (valsN ns k)]
theorem pickR_length (rows : List (List Int)) (fs : List Int) : (pickR rows fs).length = fs.length := by simp [pickR]
theorem pickR_get {rows : List (List Int)} {fs : List Int} {i : Nat} (h : i < fs.length) : (pickR rows fs).getD i [] = rows.getD (fs.getD i 0).toNat [] := by
  simp [pickR, h]
theorem valsN_length (ns : List Nd) : ∀ k, (valsN ns k).length = k
  | 0 => rfl
  | k + 1 => by simp [valsN, valsN_length ns k]
theorem valsN_take (ns : List Nd) {k : Nat} : ∀ {m : Nat}, k ≤ m → (valsN ns m).take k = valsN ns k
  | 0, h => by obtain rfl : k = 0 := by omega
               rfl
  | m + 1, h => by
    by_cases e : k = m + 1
    · subst e
      exact List.take_of_length_le (by rw [valsN_length]; exact Nat.le_refl _)
    · show List.take k (valsN ns m ++ _) = _
      rw [List.take_append_of_le_length (by rw [valsN_length]; omega), valsN_take ns (show k ≤ m by omega)]
theorem valsN_stable (ns : List Nd) {k m i : Nat} (hk : k ≤ m) (hi : i < k) : (valsN ns m).getD i [] = (valsN ns k).getD i [] := by
  rw [← valsN_take ns hk]
  simp [hi]
theorem valsN_get (ns : List Nd) {k i : Nat} (h : i < k) : (valsN ns k).getD i [] = stepL (ns.getD i nd0) (valsN ns i) := by
  rw [valsN_stable ns (show i + 1 ≤ k by omega) (Nat.lt_succ_self i)]
  show (valsN ns i ++ [_]).getD i [] = _
  rw [getD_snoc, valsN_length, if_neg (by omega), if_pos rfl]
theorem pickR_congr {rows rows' : List (List Int)} {fs : List Int} (h : ∀ q, q < fs.length → rows.getD (fs.getD q 0).toNat [] = rows'.getD (fs.getD q 0).toNat []) : pickR rows fs = pickR rows' fs := by
  refine List.ext_getElem (by simp [pickR]) fun i h1 h2 => ?_
  have hi : i < fs.length := by simpa [pickR] using h1
  have := h i hi
  simp only [pickR, List.getElem_map]
  have e : fs.getD i 0 = fs[i] := by simp [hi]
  rw [e] at this
  exact this

/-- What a valid node is. -/
theorem node_parts {ns : List Nd} (h : planB ns = true) {k : Nat} (hk : k < ns.length) :
    ((ns.getD k nd0).fs.length : Int) = knI (ns.getD k nd0).kind ∧ (∀ q, q < (ns.getD k nd0).fs.length → 0 ≤ (ns.getD k nd0).fs.getD q 0 ∧ (ns.getD k nd0).fs.getD q 0 < (k : Int)) ∧ ((ns.getD k nd0).kind = 0 → rvB (ns.getD k nd0).row = true ∧ ((ns.getD k nd0).row.length : Int) = wideF ns) := by
  have hn := planB_node h hk
  have hn2 := hn
  rw [nodeB_fits] at hn
  simp only [Bool.and_eq_true] at hn
  obtain ⟨p1, p2⟩ := fits_parts hn.1
  refine ⟨p1, p2, fun hz => ?_⟩
  unfold nodeB at hn2
  simp only [Bool.and_eq_true, hz, if_pos, decide_eq_true_eq] at hn2
  exact ⟨hn2.1.1.2, hn2.2⟩
theorem node_kind {n : Nd} (h : (n.fs.length : Int) = knI n.kind) : n.kind = 0 ∧ n.fs.length = 0 ∨ (n.kind = 1 ∨ n.kind = 2) ∧ n.fs.length = 2 ∨ (n.kind = 3 ∨ n.kind = 4 ∨ n.kind = 5) ∧ n.fs.length = 1 := by
  rcases kind_cases n.kind with e | e | e | e | e | e | e
  · rw [e, kn0] at h; left; exact ⟨e, by omega⟩
  · rw [e, kn1] at h; right; left; exact ⟨.inl e, by omega⟩
  · rw [e, kn2] at h; right; left; exact ⟨.inr e, by omega⟩
  · rw [e, kn3] at h; right; right; exact ⟨.inl e, by omega⟩
  · rw [e, kn4] at h; right; right; exact ⟨.inr (.inl e), by omega⟩
  · rw [e, kn5] at h; right; right; exact ⟨.inr (.inr e), by omega⟩
  · rw [knI_none e] at h; omega

theorem turnR_valid {xs : List Int} (h : rvB xs = true) : rvB (turnR xs) = true ∧ (turnR xs).length = xs.length := by
  have e : turnR xs = xs.reverse := by unfold turnR; rw [if_pos h]
  rw [e]
  exact ⟨(rvB_perm (List.reverse_perm xs)).trans h, by simp⟩
theorem sortR_valid {xs : List Int} (h : rvB xs = true) : rvB (sortR xs) = true ∧ (sortR xs).length = xs.length := by
  rw [sortR_of h]
  exact ⟨(rvB_perm (sortL_perm xs)).trans h, sortL_length xs⟩

/-- What a kind does with valid rows of one width. -/
theorem run_ok {k : Int} {xss : List (List Int)} {wide : Int} (hk : (k = 1 ∨ k = 2) ∧ xss.length = 2 ∨ (k = 3 ∨ k = 4 ∨ k = 5) ∧ xss.length = 1)
    (hr : ∀ i, i < xss.length → rvB (xss.getD i []) = true ∧ ((xss.getD i []).length : Int) = wide) :
    krB k xss = true ∧ rvB (krL k xss) = true ∧ ((krL k xss).length : Int) = wide := by
  rcases hk with ⟨hk, h2⟩ | ⟨hk, h1⟩
  · obtain ⟨xa, xb, rfl⟩ := rs_two h2
    obtain ⟨ra, la⟩ := hr 0 (by simp)
    obtain ⟨rb, lb⟩ := hr 1 (by simp)
    simp only [List.getD_cons_zero, List.getD_cons_succ] at ra la rb lb
    have hb := bothB_of ra rb (by omega)
    refine ⟨by rw [krB_two hk]; exact hb, ?_⟩
    rcases hk with rfl | rfl
    · rw [krL_two_add]; exact ⟨add_valid hb, by rw [joinR_length hb]; exact la⟩
    · rw [krL_two_mul]; exact ⟨mul_valid hb, by rw [joinR_length hb]; exact la⟩
  · obtain ⟨xa, rfl⟩ := rs_one h1
    obtain ⟨ra, la⟩ := hr 0 (by simp)
    simp only [List.getD_cons_zero] at ra la
    refine ⟨by rw [krB_one hk]; exact ra, ?_⟩
    rcases hk with rfl | rfl | rfl
    · rw [krL_one_sums]; exact ⟨sumsR_valid ra, by rw [sumsR_length ra]; exact la⟩
    · rw [krL_one_sort]; obtain ⟨h1, h2⟩ := sortR_valid ra; exact ⟨h1, by rw [h2]; exact la⟩
    · rw [krL_one_turn]; obtain ⟨h1, h2⟩ := turnR_valid ra; exact ⟨h1, by rw [h2]; exact la⟩

/-- The step from valid rows. -/
theorem step_ok {ns : List Nd} (h : planB ns = true) {k : Nat} (hk : k < ns.length) {rows : List (List Int)} (_hl : k ≤ rows.length)
    (hr : ∀ i, i < k → rvB (rows.getD i []) = true ∧ ((rows.getD i []).length : Int) = wideF ns) :
    rvB (stepL (ns.getD k nd0) rows) = true ∧ ((stepL (ns.getD k nd0) rows).length : Int) = wideF ns ∧ (¬ (ns.getD k nd0).kind = 0 → krB (ns.getD k nd0).kind (pickR rows (ns.getD k nd0).fs) = true) := by
  obtain ⟨p1, p2, p3⟩ := node_parts h hk
  by_cases hz : (ns.getD k nd0).kind = 0
  · unfold stepL
    rw [if_pos hz]
    exact ⟨(p3 hz).1, (p3 hz).2, fun h => (h hz).elim⟩
  · have hk' : ((ns.getD k nd0).kind = 1 ∨ (ns.getD k nd0).kind = 2) ∧ (pickR rows (ns.getD k nd0).fs).length = 2 ∨ ((ns.getD k nd0).kind = 3 ∨ (ns.getD k nd0).kind = 4 ∨ (ns.getD k nd0).kind = 5) ∧ (pickR rows (ns.getD k nd0).fs).length = 1 := by
      rw [pickR_length]
      rcases node_kind p1 with h | h | h
      · exact (hz h.1).elim
      · exact .inl h
      · exact .inr h
    have := run_ok hk' (wide := wideF ns) fun i hi => by
      rw [pickR_length] at hi
      rw [pickR_get hi]
      have := p2 i hi
      exact hr _ (by omega)
    unfold stepL
    rw [if_neg hz]
    exact ⟨this.2.1, this.2.2, fun _ => this.1⟩
theorem vals_ok {ns : List Nd} (h : planB ns = true) : ∀ k, k ≤ ns.length → ∀ i, i < k → rvB ((valsN ns k).getD i []) = true ∧ (((valsN ns k).getD i []).length : Int) = wideF ns
  | 0, _, i, hi => by omega
  | k + 1, hk, i, hi => by
    have ih := vals_ok h k (by omega)
    by_cases e : i < k
    · rw [valsN_stable ns (Nat.le_succ k) e]
      exact ih i e
    · obtain rfl : i = k := by omega
      rw [valsN_get ns (Nat.lt_succ_self i)]
      have := step_ok h (k := i) (by omega) (rows := valsN ns i) (by rw [valsN_length]; exact Nat.le_refl _) ih
      exact ⟨this.1, this.2.1⟩
/-- The step does not look at later rows. -/
theorem step_stable {ns : List Nd} (h : planB ns = true) {k m : Nat} (hk : k < ns.length) (hm : k ≤ m) : stepL (ns.getD k nd0) (valsN ns m) = stepL (ns.getD k nd0) (valsN ns k) := by
  obtain ⟨-, p2, -⟩ := node_parts h hk
  have e : pickR (valsN ns m) (ns.getD k nd0).fs = pickR (valsN ns k) (ns.getD k nd0).fs := pickR_congr fun q hq => by
    have := p2 q hq
    exact valsN_stable ns hm (by omega)
  unfold stepL
  rw [e]
def valsR (ns : List Nd) : List (List Int) := if planB ns = true then valsN ns ns.length else []
theorem valsR_of {ns : List Nd} (h : planB ns = true) : valsR ns = valsN ns ns.length := by unfold valsR; rw [if_pos h]
theorem valsR_no {ns : List Nd} (h : planB ns = false) : valsR ns = [] := by unfold valsR; rw [h]; rfl
theorem valsN_congr {ns ms : List Nd} : ∀ k, (∀ i, i < k → ns.getD i nd0 = ms.getD i nd0) → valsN ns k = valsN ms k
  | 0, _ => rfl
  | k + 1, h => by
    show valsN ns k ++ [_] = valsN ms k ++ [_]
    rw [valsN_congr k fun i hi => h i (by omega), h k (Nat.lt_succ_self k)]
/-- The row of one node. -/
def valR (ns : List Nd) (a : Int) : List Int := if planB ns = true ∧ 0 ≤ a ∧ a < ns.length then (valsN ns ns.length).getD a.toNat [] else []
def valB (ns : List Nd) (a : Int) : Bool := planB ns && decide (0 ≤ a) && decide (a < ns.length)
/-- A step from rows that are handed in. -/
def rowsB (wide : Int) (xss : List (List Int)) : Bool := xss.all fun r => rvB r && decide ((r.length : Int) = wide)
def stpB (ns : List Nd) (a : Int) (xss : List (List Int)) : Bool := valB ns a && decide ((xss.length : Int) = a) && rowsB (wideF ns) xss
def stpR (ns : List Nd) (a : Int) (xss : List (List Int)) : List Int := if stpB ns a xss = true then stepL (ns.getD a.toNat nd0) xss else []
theorem rowsB_get {wide : Int} {xss : List (List Int)} : rowsB wide xss = true ↔ ∀ i, i < xss.length → rvB (xss.getD i []) = true ∧ ((xss.getD i []).length : Int) = wide := by
  unfold rowsB
  rw [List.all_eq_true]
  constructor
  · intro h i hi
    have := h (xss.getD i []) (by have e : xss.getD i [] = xss[i] := by simp [hi]
                                  rw [e]; exact List.getElem_mem _)
    simpa using this
  · intro h x hx
    obtain ⟨i, hi, rfl⟩ := List.getElem_of_mem hx
    have := h i hi
    have e : xss.getD i [] = xss[i] := by simp [hi]
    rw [e] at this
    simpa using this
theorem rowsB_false {wide : Int} {xss : List (List Int)} {k : Nat} (hk : k < xss.length) (h : ¬ (rvB (xss.getD k []) = true ∧ ((xss.getD k []).length : Int) = wide)) : rowsB wide xss = false := by
  cases hb : rowsB wide xss
  · rfl
  · exact (h (rowsB_get.1 hb k hk)).elim
theorem valB_of {ns : List Nd} {a : Int} (h : valB ns a = true) : planB ns = true ∧ ∃ k : Nat, a = (k : Int) ∧ k < ns.length := by
  unfold valB at h
  simp only [Bool.and_eq_true, decide_eq_true_eq] at h
  obtain ⟨k, rfl⟩ := Int.eq_ofNat_of_zero_le h.1.2
  exact ⟨h.1.1, k, rfl, by omega⟩
/-- The first node of a valid plan is given. -/
theorem first_wide {ns : List Nd} (h : planB ns = true) (h0 : 0 < ns.length) : ((ns.getD 0 nd0).row.length : Int) = wideF ns := by
  obtain ⟨p1, p2, p3⟩ := node_parts h h0
  rcases node_kind p1 with ⟨e, -⟩ | ⟨-, e⟩ | ⟨-, e⟩
  · exact (p3 e).2
  · have := p2 0 (by omega); omega
  · have := p2 0 (by omega); omega
/-- A row is not longer than six. -/
theorem stepL_len {ns : List Nd} (h : planB ns = true) {k : Nat} (hk : k < ns.length) {rows : List (List Int)} (hl : k ≤ rows.length)
    (hr : ∀ i, i < k → rvB (rows.getD i []) = true ∧ ((rows.getD i []).length : Int) = wideF ns) : (stepL (ns.getD k nd0) rows).length ≤ 6 := rvB_len (step_ok h hk hl hr).1
theorem vals_len {ns : List Nd} (h : planB ns = true) {k i : Nat} (hk : k ≤ ns.length) (hi : i < k) : ((valsN ns k).getD i []).length ≤ 6 := rvB_len (vals_ok h k hk i hi).1
theorem valR_len (ns : List Nd) (a : Int) : (valR ns a).length ≤ 1048576 := by
  unfold valR
  by_cases h : planB ns = true ∧ 0 ≤ a ∧ a < ns.length
  · rw [if_pos h]
    have := vals_len h.1 (Nat.le_refl _) (i := a.toNat) (by omega)
    omega
  · rw [if_neg h]; simp
theorem valsR_len (ns : List Nd) : (valsR ns).length ≤ 1048576 := by
  cases h : planB ns
  · rw [valsR_no h]; simp
  · rw [valsR_of h, valsN_length]
    have := planB_len h
    omega
theorem valsR_row (ns : List Nd) : ∀ i, i < (valsR ns).length → (((valsR ns).getD i []).length : Int) ≤ 1048576 := fun i hi => by
  cases h : planB ns
  · rw [valsR_no h] at hi; simp at hi
  · rw [valsR_of h] at hi ⊢
    rw [valsN_length] at hi
    have := vals_len h (Nat.le_refl _) hi
    omega
theorem stpR_len (ns : List Nd) (a : Int) (xss : List (List Int)) : (stpR ns a xss).length ≤ 1048576 := by
  cases hb : stpB ns a xss
  · unfold stpR; rw [hb]; simp
  · have hs := hb
    unfold stpR
    rw [if_pos hb]
    unfold stpB at hs
    simp only [Bool.and_eq_true, decide_eq_true_eq] at hs
    obtain ⟨⟨hv, hl⟩, hr⟩ := hs
    obtain ⟨hp, k, rfl, hk⟩ := valB_of hv
    rw [Int.toNat_natCast]
    have hrg := rowsB_get.1 hr
    have := stepL_len hp hk (rows := xss) (by omega) (fun i hi => hrg i (by omega))
    omega
end Go.Proofs.Yteelobokjidphaa
