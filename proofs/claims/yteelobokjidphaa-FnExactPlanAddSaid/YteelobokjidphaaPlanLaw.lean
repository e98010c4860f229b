/- Plain laws behind the statements on plans. No condition. -/
import Derived.Test.YteelobokjidphaaUsePure
namespace Go.Proofs.Yteelobokjidphaa
open Go.RowKit
set_option maxRecDepth 100000

theorem filter_split (p : Nat → Bool) {k n : Nat} (h : k ≤ n) : ∃ l, (List.range n).filter p = (List.range k).filter p ++ l := by
  obtain ⟨d, rfl⟩ : ∃ d, n = k + d := ⟨n - k, by omega⟩
  rw [List.range_add, List.filter_append]
  exact ⟨_, rfl⟩
theorem filter_at {p : Nat → Bool} {i n : Nat} (hp : p i = true) (h : i < n) :
    ((List.range i).filter p).length < ((List.range n).filter p).length ∧ ((List.range n).filter p).getD ((List.range i).filter p).length 0 = i := by
  obtain ⟨l, hl⟩ := filter_split p (show i + 1 ≤ n from h)
  rw [hl, List.range_succ, List.filter_append]
  have : [i].filter p = [i] := by simp [hp]
  rw [this]
  refine ⟨by simp, ?_⟩
  rw [List.append_assoc, List.getD, List.getElem?_append_right (Nat.le_refl _), Nat.sub_self]
  rfl
theorem uses_last {ns : List Nd} (hp : planB ns = true) {m : Nat} (hm : ns.length = m + 1) : usesN ns m ns.length = [] := by
  refine List.eq_nil_iff_forall_not_mem.2 fun i hi => ?_
  obtain ⟨h1, h2⟩ := mem_usesN.1 hi
  have := Early.plan hp i h1 _ h2
  omega
/-- The last node is the last end. -/
theorem ends_last {ns : List Nd} (hp : planB ns = true) (h0 : ns.length ≠ 0) : ∃ m L, ns.length = m + 1 ∧ (endsN ns ns.length).length = L + 1 ∧ (endsN ns ns.length).getD L 0 = m := by
  obtain ⟨m, hm⟩ : ∃ m, ns.length = m + 1 := ⟨ns.length - 1, by omega⟩
  have hl := uses_last hp hm
  obtain ⟨h1, h2⟩ := filter_at (p := fun i => decide (usesN ns i ns.length = [])) (i := m) (n := ns.length) (by simp [hl]) (by omega)
  refine ⟨m, (endsN ns m).length, hm, ?_, h2⟩
  have := endsN_succ ns m
  rw [if_pos hl, ← hm] at this
  rw [this]; simp
theorem ends_at {ns : List Nd} {k : Nat} (hk : k < ns.length) (hu : usesN ns k ns.length = []) : (endsN ns k).length < (endsN ns ns.length).length ∧ (endsN ns ns.length).getD (endsN ns k).length 0 = k ∧ (endsN ns (k + 1)).length = (endsN ns k).length + 1 := by
  obtain ⟨h1, h2⟩ := filter_at (p := fun i => decide (usesN ns i ns.length = [])) (i := k) (n := ns.length) (by simp [hu]) hk
  refine ⟨h1, h2, ?_⟩
  rw [endsN_succ, if_pos hu]; simp
theorem ends_not {ns : List Nd} {k : Nat} (hu : usesN ns k ns.length ≠ []) : endsN ns (k + 1) = endsN ns k := by
  rw [endsN_succ, if_neg hu, List.append_nil]
theorem uses_plan {ns : List Nd} (hp : planB ns = true) (a : Int) : usesR ns a = numL (usesN ns a ns.length) := by unfold usesR; rw [if_pos hp]
theorem ends_plan {ns : List Nd} (hp : planB ns = true) : endsR ns = numL (endsN ns ns.length) := by unfold endsR; rw [if_pos hp]
/-- A list of node numbers as it lies in memory. -/
theorem RL.num {w : World} {v : Value} {l : List Nat} (h : RL w v (numL l)) : ∃ a c, v = .slice a l.length c ∧ l.length ≤ c ∧ c ≤ 9223372036854775807 ∧ ∀ i, i < l.length → ∃ b o, a = some ⟨b, o, none⟩ ∧ b < w.heap.size ∧ w.cell? ⟨b, o + i, none⟩ = some (.int .i64 ((l.getD i 0 : Nat) : Int)) := by
  obtain ⟨a, c, e, h1, h2, h3⟩ := h
  rw [numL_length] at e h1 h3
  unfold maxLen at h2
  refine ⟨a, c, e, h1, by omega, fun i hi => ?_⟩
  obtain ⟨b, o, e2, hb, hc⟩ := h3 i hi
  rw [numL_getD hi] at hc
  exact ⟨b, o, e2, hb, hc⟩

/-! ### Needs -/
theorem needs_plan {ns : List Nd} (hp : planB ns = true) {a : Nat} (ha : a < ns.length) : needsR ns a = numL (needsN ns a) := by
  unfold needsR; rw [if_pos ⟨hp, by omega, by omega⟩, Int.toNat_natCast]
theorem needs_none {ns : List Nd} {a : Int} (h : ¬ (planB ns = true ∧ 0 ≤ a ∧ a < ns.length)) : needsR ns a = [] := by
  unfold needsR; rw [if_neg h]
/-- The needs are earlier nodes. -/
theorem needs_lt {ns : List Nd} {a i : Nat} (hi : i < (needsN ns a).length) : (needsN ns a).getD i 0 < a := by
  have hm : (needsN ns a).getD i 0 ∈ needsN ns a := getD_mem hi
  exact (mem_needsN.1 hm).1
theorem filter_asc (p : Nat → Bool) (n : Nat) : ∀ i j, i < j → j < ((List.range n).filter p).length → ((List.range n).filter p).getD i 0 < ((List.range n).filter p).getD j 0 := by
  have hs : ((List.range n).filter p).Pairwise (· < ·) := List.Pairwise.filter p (List.pairwise_lt_range)
  intro i j hij hj
  have h1 : ((List.range n).filter p).getD i 0 = ((List.range n).filter p)[i] := by simp [show i < ((List.range n).filter p).length by omega]
  have h2 : ((List.range n).filter p).getD j 0 = ((List.range n).filter p)[j] := by simp [hj]
  rw [h1, h2]
  exact List.pairwise_iff_getElem.1 hs i j (by omega) hj hij
theorem needs_asc {ns : List Nd} {a i : Nat} (hi : i + 1 < (needsN ns a).length) : (needsN ns a).getD i 0 < (needsN ns a).getD (i + 1) 0 := filter_asc _ _ _ _ (Nat.lt_succ_self _) hi
/-- What a node needs: what it names, and what that needs. -/
theorem needs_step {ns : List Nd} (hp : planB ns = true) {a : Nat} (ha : a < ns.length) {i : Nat} (hi : i < a) :
    (hasB (fsN ns a) i || (needsN ns a).any fun k => hasB (fsN ns k) i) = hasB (numL (needsN ns a)) i := by
  have hE := Early.plan hp
  rw [Bool.eq_iff_iff, Bool.or_eq_true, List.any_eq_true, hasB_true, hasB_true, mem_numL]
  constructor
  · rintro (h | ⟨k, hk, h⟩)
    · exact ⟨i, mem_needsN.2 ⟨hi, goB_closed hE ha (goB_self ns a) h⟩, rfl⟩
    · obtain ⟨h1, h2⟩ := mem_needsN.1 hk
      exact ⟨i, mem_needsN.2 ⟨hi, goB_closed hE (by omega) h2 (hasB_true.1 h)⟩, rfl⟩
  · rintro ⟨j, hj, e⟩
    obtain rfl : i = j := by omega
    obtain ⟨h1, h2⟩ := mem_needsN.1 hj
    have := goB_least (T := fun x => x = a ∨ (x : Int) ∈ fsN ns a ∨ ∃ k, k ∈ needsN ns a ∧ (x : Int) ∈ fsN ns k) (.inl rfl) (fun j hj hT y hy => by
      have hyj := hE j hj _ hy
      rcases hT with rfl | h | ⟨k, hk, h⟩
      · exact .inr (.inl hy)
      · have hja := hE a ha _ h
        exact .inr (.inr ⟨j, mem_needsN.2 ⟨by omega, goB_closed hE ha (goB_self ns a) h⟩, hy⟩)
      · obtain ⟨q1, q2⟩ := mem_needsN.1 hk
        have hjk := hE k (by omega) _ h
        exact .inr (.inr ⟨j, mem_needsN.2 ⟨by omega, goB_closed hE (by omega) q2 h⟩, hy⟩)) h2
    rcases this with h | h | ⟨k, hk, h⟩
    · omega
    · exact .inl h
    · exact .inr ⟨k, hk, hasB_true.2 h⟩
/-- Who needs a node needs all that it needs. -/
theorem needs_by {ns : List Nd} (hp : planB ns = true) {a u : Nat} (_ha : a < ns.length) (hu : u ∈ usesN ns a ns.length) : ∀ x ∈ needsN ns a, x ∈ needsN ns u := by
  obtain ⟨hul, hua⟩ := mem_usesN.1 hu
  have hE := Early.plan hp
  have hau := hE u hul _ hua
  intro x hx
  obtain ⟨h1, h2⟩ := mem_needsN.1 hx
  exact mem_needsN.2 ⟨by omega, goB_least (T := fun x => goB ns u x = true) (goB_closed hE hul (goB_self ns u) hua) (fun j hj hT y hy => goB_closed hE hj hT hy) h2⟩
/-- Who is needed is used. -/
theorem needs_uses {ns : List Nd} (hp : planB ns = true) {a x : Nat} (_ha : a < ns.length) (hx : x ∈ needsN ns a) : ∃ y ∈ usesN ns x ns.length, y = a ∨ y ∈ needsN ns a := by
  have hE := Early.plan hp
  obtain ⟨h1, h2⟩ := mem_needsN.1 hx
  have := goB_least (T := fun x => goB ns a x = true ∧ (x = a ∨ ∃ y ∈ usesN ns x ns.length, y = a ∨ y ∈ needsN ns a)) ⟨goB_self ns a, .inl rfl⟩ (fun j hj hT y hy => ⟨goB_closed hE hj hT.1 hy, .inr ⟨j, mem_usesN.2 ⟨hj, hy⟩, by
    have := goB_le hE hT.1
    by_cases e : j = a
    · exact .inl e
    · exact .inr (mem_needsN.2 ⟨by omega, hT.1⟩)⟩⟩) h2
  rcases this.2 with h | h
  · omega
  · exact h
/-- The needs as they are told: whatever the plan is. -/
theorem needs_told (ns : List Nd) (a : Int) : ∃ l : List Nat, needsR ns a = numL l ∧ (l ≠ [] → planB ns = true ∧ 0 ≤ a ∧ a < ns.length ∧ l = needsN ns a.toNat) ∧ (∀ i, i < l.length → ((l.getD i 0 : Nat) : Int) < a) ∧ (∀ i, i + 1 < l.length → l.getD i 0 < l.getD (i + 1) 0) ∧ l.length ≤ 1048576 := by
  by_cases h : planB ns = true ∧ 0 ≤ a ∧ a < ns.length
  · obtain ⟨j, rfl⟩ := Int.eq_ofNat_of_zero_le h.2.1
    have hl := planB_len h.1
    have hn := needsN_length ns j
    refine ⟨needsN ns j, needs_plan h.1 (by omega), fun _ => ⟨h.1, h.2.1, h.2.2, by rw [Int.toNat_natCast]⟩, fun i hi => by have := needs_lt hi; omega, fun i hi => needs_asc hi, by omega⟩
  · exact ⟨[], needs_none h, fun h => absurd rfl h, fun i hi => by simp at hi, fun i hi => by simp at hi, by simp⟩
theorem any_take {f : Nat → Bool} {L : List Nat} {q : Nat} (h : q < L.length) : (L.take (q + 1)).any f = ((L.take q).any f || f (L.getD q 0)) := by
  rw [show L.take (q + 1) = L.take q ++ [L.getD q 0] by rw [List.take_add_one]; simp [h], List.any_append]
  simp
theorem any_int {f : Nat → Bool} {L : List Nat} {q : Nat} (h : q < L.length) (hf : f (L.getD q 0) = true) : (L.take (q + 1)).any f = true := by rw [any_take h, hf, Bool.or_true]
/-- Who is needed is used, as it is asked. -/
theorem uses_some {ns : List Nd} (hp : planB ns = true) {a x : Nat} (ha : a < ns.length) (hx : x ∈ needsN ns a) : (hasB (numL (usesN ns x ns.length)) a || (usesN ns x ns.length).any fun u => hasB (numL (needsN ns a)) u) = true := by
  obtain ⟨y, hy, h⟩ := needs_uses hp ha hx
  rw [Bool.or_eq_true, List.any_eq_true]
  rcases h with rfl | h
  · exact .inl (hasB_true.2 (mem_numL.2 ⟨_, hy, rfl⟩))
  · exact .inr ⟨y, hy, hasB_true.2 (mem_numL.2 ⟨y, h, rfl⟩)⟩

/-! ### The nodes of a valid plan -/
theorem node_needs {ns : List Nd} (hp : planB ns = true) {k : Nat} (hk : k < ns.length) : ((ns.getD k nd0).fs.length : Int) = knI (ns.getD k nd0).kind := (fits_parts (fits_plan hp k hk)).1
theorem node_from {ns : List Nd} (hp : planB ns = true) {k : Nat} (hk : k < ns.length) {q : Nat} (hq : q < (ns.getD k nd0).fs.length) : 0 ≤ (ns.getD k nd0).fs.getD q 0 ∧ (ns.getD k nd0).fs.getD q 0 < (k : Int) := (fits_parts (fits_plan hp k hk)).2 q hq
theorem node_wide {ns : List Nd} (hp : planB ns = true) {k : Nat} (hk : k < ns.length) (h0 : (ns.getD k nd0).kind = 0) : ((ns.getD k nd0).row.length : Int) = wideF ns := by
  have := planB_node hp hk
  rw [nodeB_fits] at this
  generalize ns.getD k nd0 = n at this h0 ⊢
  simp [h0] at this
  exact this.2
theorem knI_zero {k : Int} (h : knI k = 0) : k = 0 := by
  unfold knI at h
  (repeat' split at h) <;> first | assumption | omega
theorem node_first {ns : List Nd} (hp : planB ns = true) (hk : 0 < ns.length) : (ns.getD 0 nd0).kind = 0 := by
  refine knI_zero ?_
  rw [← node_needs hp hk]
  by_cases h : (ns.getD 0 nd0).fs.length = 0
  · rw [h]; rfl
  · have := node_from hp hk (q := 0) (by omega)
    omega
/-- The first nodes of a valid plan are a valid plan. -/
theorem wideF_take : ∀ (ns : List Nd) (k : Nat), (ns.getD 0 nd0).kind = 0 → 0 < k → 0 < ns.length → wideF (ns.take k) = wideF ns
  | [], _, _, _, h => by simp at h
  | n :: ns, k + 1, h0, _, _ => by
    simp only [List.getD_cons_zero] at h0
    rw [List.take_succ_cons, wideF_cons, wideF_cons, if_pos h0, if_pos h0]
theorem plan_take {ns : List Nd} (hp : planB ns = true) {k : Nat} (hk : k ≤ ns.length) : planB (ns.take k) = true := by
  have hl : (ns.take k).length = k := by rw [List.length_take]; omega
  have hlen := planB_len hp
  rw [planB_of fun j hj => ?_]
  · rw [hl]; exact decide_eq_true (by omega)
  · rw [hl] at hj
    have e : (ns.take k).getD j nd0 = ns.getD j nd0 := by simp [List.getD, hj]
    rw [e, wideF_take ns k (node_first hp (by omega)) (by omega) (by omega)]
    exact planB_node hp (by omega)
/-- A node that needs itself is none of a valid plan. -/
theorem plan_self {ns : List Nd} {k : Nat} (hk : k < ns.length) (h : (k : Int) ∈ fsN ns k) : planB ns = false := by
  cases hp : planB ns
  · rfl
  · have := Early.plan hp k hk _ h
    omega
theorem getD_snoc_nd (l : List Nd) (x : Nd) (i : Nat) : (l ++ [x]).getD i nd0 = if i < l.length then l.getD i nd0 else if i = l.length then x else nd0 := by
  by_cases h : i < l.length
  · simp [h, List.getElem?_append]
  · rw [if_neg h]
    by_cases e : i = l.length
    · subst e; simp
    · rw [if_neg e]
      have : (l ++ [x])[i]? = none := List.getElem?_eq_none (by simp; omega)
      rw [List.getD, this]; rfl
theorem PL.take {w : World} {hi n c : Nat} {a : Option Addr} {ns : List Nd} (h : PL w hi (.slice a n c) ns) {k : Nat} (hk : k ≤ n) : PL w hi (.slice a k c) (ns.take k) := by
  obtain ⟨a', c', e, h1, h2, h3, h4⟩ := h
  simp only [Value.slice.injEq] at e
  obtain ⟨rfl, rfl, rfl⟩ := e
  have hl : (ns.take k).length = k := by rw [List.length_take]; omega
  refine ⟨a, c, by rw [hl], by omega, h2, h3, fun i hi' => ?_⟩
  rw [hl] at hi'
  have eg : (ns.take k).getD i nd0 = ns.getD i nd0 := by simp [List.getD, hi']
  rw [eg]
  exact h4 i (by omega)
end Go.Proofs.Yteelobokjidphaa
