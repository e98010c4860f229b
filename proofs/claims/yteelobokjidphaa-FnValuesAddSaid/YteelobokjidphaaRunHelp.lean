/- What the statements about the doing of a kind have in common. No condition. -/
import Derived.Test.YteelobokjidphaaKindRun
import Derived.Test.YteelobokjidphaaSameRow
import Derived.Test.YteelobokjidphaaPure
import Derived.Test.YteelobokjidphaaPureSums
namespace Go.Proofs.Yteelobokjidphaa
open Go.RowKit

theorem krL_two_add (xa xb : List Int) : krL 1 [xa, xb] = joinR addF xa xb := by simp [krL]
theorem krL_two_mul (xa xb : List Int) : krL 2 [xa, xb] = joinR mulF xa xb := by simp [krL]
theorem krL_one_sums (xa : List Int) : krL 3 [xa] = sumsR xa := by simp [krL]
theorem krL_one_sort (xa : List Int) : krL 4 [xa] = sortR xa := by simp [krL]
theorem krL_one_turn (xa : List Int) : krL 5 [xa] = turnR xa := by simp [krL]
theorem krB_two {k : Int} (h : k = 1 ∨ k = 2) (xa xb : List Int) : krB k [xa, xb] = bothB xa xb := by
  unfold krB; rw [if_pos ⟨h, rfl⟩]; rfl
theorem krB_one {k : Int} (h : k = 3 ∨ k = 4 ∨ k = 5) (xa : List Int) : krB k [xa] = rvB xa := by
  unfold krB; rw [if_neg (by simp), if_pos ⟨h, rfl⟩]; rfl
theorem krB_two_one {k : Int} (h : k = 1 ∨ k = 2) (xa : List Int) : krB k [xa] = false := by
  unfold krB; rw [if_neg (by simp), if_neg (by omega)]
theorem krB_nil (k : Int) : krB k [] = false := by
  unfold krB; rw [if_neg (by simp), if_neg (by simp)]
theorem rs_two {xss : List (List Int)} (h : xss.length = 2) : ∃ xa xb, xss = [xa, xb] := by
  match xss, h with
  | [a, b], _ => exact ⟨a, b, rfl⟩
theorem rs_one {xss : List (List Int)} (h : xss.length = 1) : ∃ xa, xss = [xa] := by
  match xss, h with
  | [a], _ => exact ⟨a, rfl⟩
/-- Where the doing succeeds. -/
theorem krB_true {k : Int} {xss : List (List Int)} (h : krB k xss = true) :
    (∃ xa xb, xss = [xa, xb] ∧ bothB xa xb = true ∧ (k = 1 ∨ k = 2)) ∨ (∃ xa, xss = [xa] ∧ rvB xa = true ∧ (k = 3 ∨ k = 4 ∨ k = 5)) := by
  unfold krB at h
  by_cases h1 : (k = 1 ∨ k = 2) ∧ xss.length = 2
  · rw [if_pos h1] at h
    obtain ⟨xa, xb, rfl⟩ := rs_two h1.2
    exact .inl ⟨xa, xb, rfl, h, h1.1⟩
  · rw [if_neg h1] at h
    by_cases h2 : (k = 3 ∨ k = 4 ∨ k = 5) ∧ xss.length = 1
    · rw [if_pos h2] at h
      obtain ⟨xa, rfl⟩ := rs_one h2.2
      exact .inr ⟨xa, rfl, h, h2.1⟩
    · rw [if_neg h2] at h
      cases h

theorem RS.nil (w : World) (hi : Nat) (hhi : hi ≤ w.heap.size) (a : Option Addr) (c : Nat) (hc : c ≤ maxLen) : RS w hi (.slice a 0 c) [] :=
  ⟨a, c, rfl, Nat.zero_le _, hc, hhi, fun i hi => by cases hi⟩
/-- A row in a new slice. -/
theorem RS.one (w : World) (u : Value) (xs : List Int) (h : RR w w.heap.size u xs) :
    RS (w.alloc (.cells #[u] 24)) (w.heap.size + 1) (.slice (some ⟨w.heap.size, 0, none⟩) 1 1) [xs] := by
  refine ⟨_, _, rfl, Nat.le_refl _, by unfold maxLen; omega, by rw [World.size_alloc]; exact Nat.le_refl _, fun i hi => ?_⟩
  obtain rfl : i = 0 := by simp at hi; omega
  refine ⟨w.heap.size, 0, u, rfl, by omega, (cell_one_new w u 24) 0 u rfl, ?_⟩
  exact (h.mod (Mod.alloc w _) (.inr (Nat.zero_le _))).up (by omega) (by rw [World.size_alloc]; exact Nat.le_refl _)
theorem RS.two (w : World) (u u' : Value) (xs ys : List Int) (h : RR w w.heap.size u xs) (h' : RR w w.heap.size u' ys) :
    RS (w.alloc (.cells #[u, u'] 24)) (w.heap.size + 1) (.slice (some ⟨w.heap.size, 0, none⟩) 2 2) [xs, ys] := by
  refine ⟨_, _, rfl, Nat.le_refl _, by unfold maxLen; omega, by rw [World.size_alloc]; exact Nat.le_refl _, fun i hi => ?_⟩
  have hup : ∀ {v : Value} {zs : List Int}, RR w w.heap.size v zs → RR (w.alloc (.cells #[u, u'] 24)) (w.heap.size + 1) v zs := fun h =>
    (h.mod (Mod.alloc w _) (.inr (Nat.zero_le _))).up (by omega) (by rw [World.size_alloc]; exact Nat.le_refl _)
  match i, hi with
  | 0, _ => exact ⟨w.heap.size, 0, u, rfl, by omega, by simp, hup h⟩
  | 1, _ => exact ⟨w.heap.size, 0, u', rfl, by omega, by simp, hup h'⟩
end Go.Proofs.Yteelobokjidphaa
