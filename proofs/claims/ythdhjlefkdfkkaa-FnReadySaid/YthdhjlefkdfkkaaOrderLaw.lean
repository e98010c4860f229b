/- Plain laws of orders, of what is ready. No condition. -/
import Derived.Test.YthdhjlefkdfkkaaOrderPure
import Derived.Test.YthdhjlefkdfkkaaPlanLaw
namespace Go.Proofs.Ythdhjlefkdfkkaa
open Go.RowKit
set_option maxRecDepth 100000

theorem range_getD {n i : Nat} (h : i < n) : (List.range n).getD i 0 = i := by simp [List.getD, h]
theorem numL_take0 (l : List Nat) (k : Nat) : (numL l).take k = numL (l.take k) := by simp [numL, List.map_take]
theorem range_take {n k : Nat} (h : k ≤ n) : (List.range n).take k = List.range k := by rw [List.take_range, Nat.min_eq_left h]
theorem numL_range (k : Nat) : numL (List.range (k + 1)) = numL (List.range k) ++ [(k : Int)] := by rw [List.range_succ, numL_app]; rfl
theorem range_length (k : Nat) : (numL (List.range k)).length = k := by rw [numL_length, List.length_range]
/-- The order of numbers fits. -/
theorem order_numbers {ns : List Nd} (hp : planB ns = true) : orderB ns (numL (List.range ns.length)) = true := by
  unfold orderB
  rw [hp, range_length, decide_eq_true rfl, Bool.true_and, Bool.true_and]
  refine beginsB_true fun i hi => ?_
  rw [range_length] at hi
  rw [numL_take0, range_take (by omega), numL_getD (by rw [List.length_range]; exact hi), range_getD hi]
  unfold stepB
  have h1 : inB (i : Int) 0 ((ns.length : Int) - 1) = true := by unfold inB; simp; omega
  have h2 : hasB (numL (List.range i)) (i : Int) = false := by
    unfold hasB
    refine decide_eq_false fun h => ?_
    obtain ⟨j, hj, e⟩ := mem_numL.1 h
    rw [List.mem_range] at hj
    omega
  rw [h1, h2]
  simp only [Bool.not_false, Bool.true_and, Int.toNat_natCast]
  rw [all_hasB]
  intro x hx
  obtain ⟨q0, q1⟩ := Early.plan hp i hi x hx
  refine mem_numL.2 ⟨x.toNat, ?_, by omega⟩
  rw [List.mem_range]; omega
theorem order_short {ns : List Nd} {order : List Int} (h : order.length ≠ ns.length) : orderB ns order = false := by
  unfold orderB
  rw [decide_eq_false h]
  simp
theorem order_cut {ns : List Nd} {m : Nat} (hm : ns.length = m + 1) : orderB ns ((numL (List.range ns.length)).take m) = false :=
  order_short (by rw [List.length_take, range_length]; omega)
theorem all_take {xs : List Int} {j : Nat} {f : Int → Bool} (h : j < xs.length) : (xs.take (j + 1)).all f = ((xs.take j).all f && f (xs.getD j 0)) := by
  rw [List.take_add_one, List.all_append]
  simp [h]
end Go.Proofs.Ythdhjlefkdfkkaa
