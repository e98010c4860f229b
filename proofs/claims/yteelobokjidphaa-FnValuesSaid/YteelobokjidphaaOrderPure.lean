/- Which nodes are ready, which orders fit: plain lists. No condition. -/
import Derived.Test.YteelobokjidphaaUsePure
namespace Go.Proofs.Yteelobokjidphaa
open Go.RowKit
set_option maxRecDepth 100000

def readyB (ns : List Nd) (done : List Int) (i : Nat) : Bool := !hasB done i && (fsN ns i).all (hasB done)
def readyN (ns : List Nd) (done : List Int) (k : Nat) : List Nat := (List.range k).filter (readyB ns done)
def readyR (ns : List Nd) (done : List Int) : List Int := if planB ns = true then numL (readyN ns done ns.length) else []
theorem readyN_succ (ns : List Nd) (done : List Int) (k : Nat) : readyN ns done (k + 1) = readyN ns done k ++ if readyB ns done k = true then [k] else [] := by
  unfold readyN
  rw [List.range_succ, List.filter_append]
  by_cases h : readyB ns done k = true <;> simp [h]
theorem mem_readyN {ns : List Nd} {done : List Int} {k i : Nat} : i ∈ readyN ns done k ↔ i < k ∧ readyB ns done i = true := by
  unfold readyN
  rw [List.mem_filter, List.mem_range]
theorem readyN_length (ns : List Nd) (done : List Int) (k : Nat) : (readyN ns done k).length ≤ k := by
  unfold readyN
  have := List.length_filter_le (readyB ns done) (List.range k)
  simpa using this
theorem readyR_len (ns : List Nd) (done : List Int) : (readyR ns done).length ≤ 10 := by
  unfold readyR
  by_cases hp : planB ns = true
  · rw [if_pos hp, numL_length]
    have := readyN_length ns done ns.length
    have := planB_len hp
    omega
  · rw [if_neg hp]; simp

/-- The next one of an order. -/
def stepB (ns : List Nd) (pre : List Int) (x : Int) : Bool := inB x 0 ((ns.length : Int) - 1) && !hasB pre x && (fsN ns x.toNat).all (hasB pre)
def beginsB (ns : List Nd) (order : List Int) : Bool := (List.range order.length).all fun i => stepB ns (order.take i) (order.getD i 0)
def orderB (ns : List Nd) (order : List Int) : Bool := planB ns && decide (order.length = ns.length) && beginsB ns order
theorem beginsB_true {ns : List Nd} {order : List Int} (h : ∀ i, i < order.length → stepB ns (order.take i) (order.getD i 0) = true) : beginsB ns order = true := by
  unfold beginsB
  simp only [List.all_eq_true, List.mem_range]
  exact h
theorem beginsB_at {ns : List Nd} {order : List Int} (h : beginsB ns order = true) {i : Nat} (hi : i < order.length) : stepB ns (order.take i) (order.getD i 0) = true := by
  unfold beginsB at h
  simp only [List.all_eq_true, List.mem_range] at h
  exact h i hi
theorem beginsB_false {ns : List Nd} {order : List Int} {i : Nat} (hi : i < order.length) (h : stepB ns (order.take i) (order.getD i 0) = false) : beginsB ns order = false := by
  cases h1 : beginsB ns order
  · rfl
  · rw [beginsB_at h1 hi] at h; cases h
theorem all_hasB {xs ys : List Int} : xs.all (hasB ys) = true ↔ ∀ x ∈ xs, x ∈ ys := by
  rw [List.all_eq_true]
  exact ⟨fun h x hx => hasB_true.1 (h x hx), fun h x hx => hasB_true.2 (h x hx)⟩
end Go.Proofs.Yteelobokjidphaa
