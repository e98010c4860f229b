/- Plain law: two neighbours of an order exchanged. No condition. -/
import Derived.Test.YthdhjlefkdfkkaaOrderPure
namespace Go.Proofs.Ythdhjlefkdfkkaa
open Go.RowKit
set_option maxRecDepth 100000

theorem hasB_congr {p q : List Int} (h : ∀ y, y ∈ p ↔ y ∈ q) (y : Int) : hasB p y = hasB q y := by unfold hasB; rw [decide_eq_decide]; exact h y
theorem stepB_congr {ns : List Nd} {p q : List Int} (h : ∀ y, y ∈ p ↔ y ∈ q) (x : Int) : stepB ns p x = stepB ns q x := by
  unfold stepB
  have e : hasB p = hasB q := funext fun y => hasB_congr h y
  rw [e]
/-- Behind `pre` the nodes of the list may be done in their order. -/
def begF (ns : List Nd) : List Int → List Int → Bool
  | _, [] => true
  | pre, x :: Q => stepB ns pre x && begF ns (pre ++ [x]) Q
theorem begF_congr {ns : List Nd} (Q : List Int) : ∀ {p q : List Int}, (∀ y, y ∈ p ↔ y ∈ q) → begF ns p Q = begF ns q Q := by
  induction Q with
  | nil => intro p q _; rfl
  | cons x Q ih =>
    intro p q h
    unfold begF
    rw [stepB_congr h, ih (p := p ++ [x]) (q := q ++ [x]) (fun y => by simp [h y])]
theorem begins_snoc (ns : List Nd) (P : List Int) (x : Int) : beginsB ns (P ++ [x]) = (beginsB ns P && stepB ns P x) := by
  unfold beginsB
  rw [List.length_append, List.length_singleton, List.range_succ, List.all_append]
  congr 1
  · have e : ∀ i, i < P.length → stepB ns ((P ++ [x]).take i) ((P ++ [x]).getD i 0) = stepB ns (P.take i) (P.getD i 0) := fun i hi => by
      rw [List.take_append_of_le_length (by omega)]
      congr 1
      simp [List.getD, List.getElem?_append, hi]
    rw [Bool.eq_iff_iff, List.all_eq_true, List.all_eq_true]
    exact ⟨fun h i hi => by rw [← e i (List.mem_range.1 hi)]; exact h i hi, fun h i hi => by rw [e i (List.mem_range.1 hi)]; exact h i hi⟩
  · simp
theorem begins_app (ns : List Nd) (Q : List Int) : ∀ P : List Int, beginsB ns (P ++ Q) = (beginsB ns P && begF ns P Q) := by
  induction Q with
  | nil => intro P; simp [begF]
  | cons x Q ih =>
    intro P
    rw [show P ++ x :: Q = (P ++ [x]) ++ Q by simp, ih, begins_snoc, begF, Bool.and_assoc]
theorem swap_begins {ns : List Nd} {P Q : List Int} {a b : Int} (h : beginsB ns (P ++ a :: b :: Q) = true) : beginsB ns (P ++ b :: a :: Q) = !hasB (fsN ns b.toNat) a := by
  rw [begins_app] at h ⊢
  simp only [begF, Bool.and_eq_true] at h ⊢
  obtain ⟨h1, h2, h3, h4⟩ := h
  rw [h1, begF_congr (p := P ++ [b] ++ [a]) (q := P ++ [a] ++ [b]) Q (fun y => by simp; constructor <;> (rintro (h | h | h) <;> simp [h])), h4]
  unfold stepB at h2 h3 ⊢
  simp only [Bool.and_eq_true, Bool.not_eq_true', all_hasB] at h2 h3
  obtain ⟨⟨a1, a2⟩, a3⟩ := h2
  obtain ⟨⟨b1, b2⟩, b3⟩ := h3
  unfold hasB at a2 b2
  simp only [decide_eq_false_iff_not, List.mem_append, List.mem_singleton] at a2 b2 b3
  have e1 : hasB P b = false := by unfold hasB; simp; exact fun h => b2 (.inl h)
  have e2 : hasB (P ++ [b]) a = false := by unfold hasB; simp; exact ⟨a2, fun h => b2 (.inr h.symm)⟩
  have e3 : (fsN ns a.toNat).all (hasB (P ++ [b])) = true := all_hasB.2 fun y hy => List.mem_append.2 (.inl (a3 y hy))
  have e4 : (fsN ns b.toNat).all (hasB P) = !hasB (fsN ns b.toNat) a := by
    by_cases ha : a ∈ fsN ns b.toNat
    · have q : hasB (fsN ns b.toNat) a = true := by unfold hasB; exact decide_eq_true ha
      rw [q, Bool.not_true, ← Bool.not_eq_true, all_hasB]
      exact fun h => a2 (h a ha)
    · have q : hasB (fsN ns b.toNat) a = false := by unfold hasB; exact decide_eq_false ha
      rw [q, Bool.not_false, all_hasB]
      intro y hy
      rcases b3 y hy with h | h
      · exact h
      · exact absurd (h ▸ hy) ha
  rw [a1, b1, e1, e2, e3, e4]
  simp
theorem split_at {l : List Int} {k : Nat} (hk : k + 1 < l.length) : l = l.take k ++ l.getD k 0 :: l.getD (k + 1) 0 :: l.drop (k + 2) := by
  have h1 : l.drop k = l.getD k 0 :: l.drop (k + 1) := by
    rw [List.drop_eq_getElem_cons (by omega)]
    simp [List.getD, show k < l.length by omega]
  have h2 : l.drop (k + 1) = l.getD (k + 1) 0 :: l.drop (k + 2) := by
    rw [List.drop_eq_getElem_cons hk]
    simp [List.getD, hk]
  rw [← h2, ← h1, List.take_append_drop]
/-- Neighbours of an order that fits may be exchanged if the later one does not need the earlier one. -/
theorem swap_order {ns : List Nd} {l : List Int} {k : Nat} (hk : k + 1 < l.length) (h : orderB ns l = true) :
    orderB ns ((l.set k (l.getD (k + 1) 0)).set (k + 1) (l.getD k 0)) = !hasB (fsN ns (l.getD (k + 1) 0).toNat) (l.getD k 0) := by
  have hs := split_at hk
  have hl : (l.take k).length = k := by rw [List.length_take]; omega
  obtain ⟨P, hP⟩ : ∃ P, P = l.take k := ⟨_, rfl⟩
  obtain ⟨Q, hQ⟩ : ∃ Q, Q = l.drop (k + 2) := ⟨_, rfl⟩
  obtain ⟨a, ha⟩ : ∃ a, a = l.getD k 0 := ⟨_, rfl⟩
  obtain ⟨b, hb⟩ : ∃ b, b = l.getD (k + 1) 0 := ⟨_, rfl⟩
  rw [← hP, ← hQ, ← ha, ← hb] at hs
  rw [← hP] at hl
  rw [← ha, ← hb]
  clear hP hQ ha hb
  subst hs
  subst hl
  have e : ((P ++ a :: b :: Q).set P.length b).set (P.length + 1) a = P ++ b :: a :: Q := by
    rw [List.set_append_right _ _ (Nat.le_refl _), Nat.sub_self, List.set_append_right _ _ (by omega)]
    simp
  rw [e]
  unfold orderB at h ⊢
  simp only [Bool.and_eq_true] at h
  obtain ⟨⟨h1, h2⟩, h3⟩ := h
  rw [swap_begins h3, h1, show decide ((P ++ b :: a :: Q).length = ns.length) = true by rw [← h2]; simp]
  simp
end Go.Proofs.Ythdhjlefkdfkkaa
