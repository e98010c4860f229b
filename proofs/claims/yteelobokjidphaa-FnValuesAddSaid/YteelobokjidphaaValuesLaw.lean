/- Plain laws of the rows of a plan; parts of slices. No condition. -/
import Derived.Test.YteelobokjidphaaValuesPure
import Derived.Test.YteelobokjidphaaPlanLaw
import Derived.Test.YteelobokjidphaaGrid
namespace Go.Proofs.Yteelobokjidphaa
open Go.RowKit
set_option maxRecDepth 100000

theorem RS.take {w : World} {hi n c : Nat} {a : Option Addr} {xss : List (List Int)} (h : RS w hi (.slice a n c) xss) {k : Nat} (hk : k ≤ n) : RS w hi (.slice a k c) (xss.take k) := by
  obtain ⟨a', c', e, h1, h2, h3, h4⟩ := h
  simp only [Value.slice.injEq] at e
  obtain ⟨rfl, rfl, rfl⟩ := e
  have hl : (xss.take k).length = k := by rw [List.length_take]; omega
  refine ⟨a, c, by rw [hl], by omega, h2, h3, fun i hi' => ?_⟩
  rw [hl] at hi'
  obtain ⟨b, o, u, e, hb, hc, hr⟩ := h4 i (by omega)
  have eg : (xss.take k).getD i [] = xss.getD i [] := by simp [List.getD, hi']
  exact ⟨b, o, u, e, hb, hc, by rw [eg]; exact hr⟩
theorem RS.shape {w : World} {hi : Nat} {v : Value} {xss : List (List Int)} (h : RS w hi v xss) : ∃ a c, v = .slice a xss.length c ∧ xss.length ≤ c ∧ c ≤ 9223372036854775807 := by
  obtain ⟨a, c, e, h1, h2, -⟩ := h
  exact ⟨a, c, e, h1, h2⟩

/-- The step from the rows ahead of a node leads to its row. -/
theorem stp_vals {ns : List Nd} (h : planB ns = true) {k : Nat} (hk : k < ns.length) : stpB ns (k : Int) (valsN ns k) = true ∧ stpR ns (k : Int) (valsN ns k) = (valsN ns ns.length).getD k [] := by
  have hr : rowsB (wideF ns) (valsN ns k) = true := rowsB_get.2 fun i hi => by
    rw [valsN_length] at hi
    exact vals_ok h k (by omega) i hi
  have hb : stpB ns (k : Int) (valsN ns k) = true := by
    unfold stpB valB
    rw [h, hr, valsN_length]
    simp
    omega
  refine ⟨hb, ?_⟩
  unfold stpR
  rw [if_pos hb, Int.toNat_natCast, valsN_get ns hk]
theorem vals_take {ns : List Nd} (h : planB ns = true) {k : Nat} (hk : k ≤ ns.length) : valsR (ns.take k) = (valsN ns ns.length).take k := by
  have hl : (ns.take k).length = k := by rw [List.length_take]; omega
  rw [valsR_of (plan_take h hk), valsN_take ns hk, hl]
  exact valsN_congr k fun i hi => by simp [List.getD, hi]
/-- What a kind makes of a node's rows. -/
theorem vals_run {ns : List Nd} (h : planB ns = true) {k : Nat} (hk : k < ns.length) (hz : ¬ (ns.getD k nd0).kind = 0) :
    krB (ns.getD k nd0).kind (pickR (valsN ns ns.length) (ns.getD k nd0).fs) = true ∧ krL (ns.getD k nd0).kind (pickR (valsN ns ns.length) (ns.getD k nd0).fs) = (valsN ns ns.length).getD k [] := by
  have hs := step_stable h hk (m := ns.length) (by omega)
  have ok := step_ok h hk (rows := valsN ns ns.length) (by rw [valsN_length]; omega) (fun i hi => vals_ok h ns.length (Nat.le_refl _) i (by omega))
  refine ⟨ok.2.2 hz, ?_⟩
  rw [valsN_get ns hk, ← hs]
  unfold stepL
  rw [if_neg hz]
theorem vals_given {ns : List Nd} {k : Nat} (hk : k < ns.length) (hz : (ns.getD k nd0).kind = 0) : (ns.getD k nd0).row = (valsN ns ns.length).getD k [] := by
  rw [valsN_get ns hk]
  unfold stepL
  rw [if_pos hz]
theorem wideF_app (ns : List Nd) (m : Nd) (h : (ns.getD 0 nd0).kind = 0) (h0 : 0 < ns.length) : wideF (ns ++ [m]) = wideF ns := by
  cases ns with
  | nil => simp at h0
  | cons n ns =>
    have h' : n.kind = 0 := h
    rw [List.cons_append, wideF_cons, wideF_cons, if_pos h', if_pos h']
/-- A new node changes no row. -/
theorem vals_add {ns : List Nd} {m : Nd} (h : planB ns = true) (h' : planB (ns ++ [m]) = true) : (valsR (ns ++ [m])).take ns.length = valsR ns ∧ (valsR (ns ++ [m])).length = ns.length + 1 := by
  have hl : (ns ++ [m]).length = ns.length + 1 := by simp
  rw [valsR_of h', valsR_of h]
  refine ⟨?_, by rw [valsN_length, hl]⟩
  rw [hl, valsN_take _ (Nat.le_succ _)]
  exact valsN_congr _ fun i hi => by simp [List.getD, List.getElem?_append, hi]
end Go.Proofs.Yteelobokjidphaa
