/- An array of ten marks. No condition. -/
import Derived.Test.YteelobokjidphaaLink
namespace Go.Proofs.Yteelobokjidphaa
open Go.RowKit
set_option maxRecDepth 100000

/-! ### The program's array of marks -/
def marksA (s : Nat → Bool) : Array Value := ((List.range 10).map fun x => Value.bool (s x)).toArray
/-- Block S is an array of marks. -/
def SB (w : World) (S : Nat) (s : Nat → Bool) : Prop := w.heap[S]? = some (.cells (marksA s) 74 (0, 0))
theorem marksA_at (s : Nat → Bool) {x : Nat} (h : x < 10) : (marksA s)[x]? = some (.bool (s x)) := by simp [marksA, h]
theorem SB.cell {w : World} {S : Nat} {s : Nat → Bool} (h : SB w S s) {x : Nat} (hx : x < 10) : w.cell? ⟨S, x, none⟩ = some (.bool (s x)) := by
  rw [cell_of_row w S x _ _ _ h, marksA_at s hx]
theorem SB.frozen {w : World} {S : Nat} {s : Nat → Bool} (h : SB w S s) (x : Nat) : w.frozen? ⟨S, x, none⟩ = false := by
  unfold World.frozen?; rw [h]; simp
theorem marksA_set (s : Nat → Bool) {x : Nat} (hx : x < 10) : (marksA s).setIfInBounds x (.bool true) = marksA fun y => s y || decide (y = x) := by
  have hx' : x < (marksA s).size := by simp [marksA, hx]
  refine Array.ext_getElem? fun j => ?_
  by_cases hj : j < 10
  · rw [marksA_at _ hj, Array.getElem?_setIfInBounds]
    by_cases e : x = j
    · subst e; simp [hx']
    · rw [if_neg e, marksA_at _ hj]
      have : decide (j = x) = false := decide_eq_false (fun h => e h.symm)
      rw [this, Bool.or_false]
  · rw [Array.getElem?_eq_none (by simp [marksA]; omega), Array.getElem?_eq_none (by simp [marksA]; omega)]
theorem SB.set {w : World} {S : Nat} {s : Nat → Bool} (h : SB w S s) {x : Nat} (hx : x < 10) : SB (w.setCell ⟨S, x, none⟩ (.bool true)) S fun y => s y || decide (y = x) := by
  unfold SB
  rw [setCell_heap _ _ _ _ h, marksA_set s hx]
theorem SB.lt {w : World} {S : Nat} {s : Nat → Bool} (h : SB w S s) : S < w.heap.size := (Array.getElem?_eq_some_iff.1 h).1
theorem SB.mod {w w' : World} {S A B : Nat} {s : Nat → Bool} (h : SB w S s) (hm : Mod A B w w') (hS : S < A ∨ B ≤ S) : SB w' S s := by
  unfold SB; rw [hm.block S h.lt hS]; exact h
theorem SB.made (w : World) : SB (w.alloc (.cells (marksA fun _ => false) 74)) w.heap.size fun _ => false := heap_alloc_new w _

theorem marksA_index (s : Nat → Bool) (w : World) {k : Nat} (hk : k < 10) : (Instr.index 74 (.agg (marksA s)) (.int .i64 k)).run Try.prog w = .ok (.bool (s k)) w := by
  have h := Try.underlying74
  have hn : 0 ≤ (k : Int) ∧ (k : Int) < 10 := by omega
  simp [Instr.index, run_underlying h, asIntOf, hn, go_sem]
  rw [if_pos hk, marksA_at s hk]
  rfl
theorem marksA_none : marksA (fun _ => false) = #[.bool false, .bool false, .bool false, .bool false, .bool false, .bool false, .bool false, .bool false, .bool false, .bool false] := by rfl
theorem filter_succ (p : Nat → Bool) (k : Nat) : (List.range (k + 1)).filter p = (List.range k).filter p ++ if p k = true then [k] else [] := by
  rw [List.range_succ, List.filter_append]
  by_cases h : p k = true <;> simp [h]
theorem filter_len (p : Nat → Bool) (k : Nat) : ((List.range k).filter p).length ≤ k := by
  have := List.length_filter_le p (List.range k)
  simpa using this

end Go.Proofs.Yteelobokjidphaa
