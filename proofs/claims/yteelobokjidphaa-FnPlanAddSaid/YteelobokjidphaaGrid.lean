/- Slices of rows: what they read as; the walk's law for an append of a row. No condition. -/
import Derived.Test.YteelobokjidphaaBase
namespace Go.Proofs.Yteelobokjidphaa
open Go.RowKit

/-- `v` reads as the rows `xss`, in blocks below `hi`. -/
def RS (w : World) (hi : Nat) (v : Value) (xss : List (List Int)) : Prop :=
  ∃ a c, v = .slice a xss.length c ∧ xss.length ≤ c ∧ c ≤ maxLen ∧ hi ≤ w.heap.size ∧
    ∀ i, i < xss.length → ∃ b o u, a = some ⟨b, o, none⟩ ∧ b < hi ∧ w.cell? ⟨b, o + i, none⟩ = some u ∧ RR w hi u (xss.getD i [])

theorem RS.mod {w w' : World} {hi A B : Nat} {v : Value} {xss : List (List Int)} (h : RS w hi v xss) (hm : Mod A B w w') (hA : hi ≤ A ∨ B ≤ 0) : RS w' hi v xss := by
  obtain ⟨a, c, rfl, h1, h2, h3, h4⟩ := h
  refine ⟨a, c, rfl, h1, h2, Nat.le_trans h3 hm.size, fun i hi => ?_⟩
  obtain ⟨b, o, u, e, hb, hc, hr⟩ := h4 i hi
  exact ⟨b, o, u, e, hb, (World.cell?_of_block (hm.block b (Nat.lt_of_lt_of_le hb h3) (by omega))).trans hc, hr.mod hm hA⟩

theorem RR.up {w : World} {hi hi' : Nat} {v : Value} {xs : List Int} (h : RR w hi v xs) (h1 : hi ≤ hi') (h2 : hi' ≤ w.heap.size) : RR w hi' v xs := by
  obtain ⟨a, c, rfl, h3, h4, h5, h6⟩ := h
  exact ⟨a, c, rfl, h3, h4, h2, fun i hi => by obtain ⟨b, o, e, hb, hc⟩ := h6 i hi; exact ⟨b, o, e, Nat.lt_of_lt_of_le hb h1, hc⟩⟩

theorem infoRow : (Try.prog.info? 24).map (fun i => (i.zero, i.size, i.bytes)) = some (some (.slice none 0 0), 1, 24) := by kernel_rfl

/-- The slice value `v` owns the values `vs` (rows), in a block from `B` on. -/
def OV (w : World) (B : Nat) (v : Value) (vs : List Value) : Prop := w.ownsRow B 24 1 v vs.length vs

theorem OV.mod {w w' : World} {lo A B : Nat} {v : Value} {vs : List Value} (h : OV w lo v vs) (hm : Mod A B w w') (hB : B ≤ lo) : OV w' lo v vs := by
  obtain ⟨h1, h2⟩ := h
  refine ⟨h1, ?_⟩
  rcases h2 with h2 | ⟨g, cap, cur, rfl, hg, hh, r⟩
  · exact .inl h2
  · exact .inr ⟨g, cap, cur, rfl, hg, by rw [hm.block g (Array.getElem?_eq_some_iff.1 hh).1 (by omega)]; exact hh, r⟩

theorem OV.fresh0 (w : World) {B : Nat} (hB : B ≤ w.heap.size) : OV (w.alloc (.cells #[] 24)) B (.slice (some ⟨w.heap.size, 0, none⟩) 0 0) [] :=
  World.ownsRow_made w #[] 0 hB (by unfold maxLen; omega) rfl
theorem OV.lt {w : World} {v : Value} {vs : List Value} {A : Nat} (h : OV w A v vs) : ∀ k, v.ownBlock = some k → A ≤ k ∧ k < w.heap.size := World.ownsRow.lt h
theorem OV.base {w : World} {v : Value} {vs : List Value} {A B : Nat} (h : OV w A v vs) (hB : B ≤ A) : OV w B v vs := by
  obtain ⟨h1, h2⟩ := h
  refine ⟨h1, ?_⟩
  rcases h2 with h2 | ⟨g, cap, cur, hv, hg, r⟩
  · exact .inl h2
  · exact .inr ⟨g, cap, cur, hv, Nat.le_trans hB hg, r⟩
theorem OV.shape {w : World} {v : Value} {vs : List Value} {A : Nat} (h : OV w A v vs) : ∃ a c, v = .slice a vs.length c ∧ vs.length ≤ c ∧ c ≤ maxLen := by
  rcases h.2 with ⟨rfl, hn⟩ | ⟨g, cap, cur, rfl, _, _, h1, h2, _⟩
  · exact ⟨none, 0, by rw [hn], by omega, by unfold maxLen; omega⟩
  · exact ⟨_, cap, rfl, h1, h2⟩
theorem OV.at {w : World} {v : Value} {vs : List Value} {A : Nat} (h : OV w A v vs) {i : Nat} (hi : i < vs.length) :
    ∃ g c, v = .slice (some ⟨g, 0, none⟩) vs.length c ∧ A ≤ g ∧ g < w.heap.size ∧ vs.length ≤ c ∧ c ≤ maxLen := by
  rcases h.2 with ⟨_, hn⟩ | ⟨g, cap, cur, rfl, hg, hh, h1, h2, _⟩
  · omega
  · exact ⟨g, cap, rfl, hg, (Array.getElem?_eq_some_iff.1 hh).1, h1, h2⟩
theorem OV.len {w : World} {vs : List Value} {A g c n : Nat} (h : OV w A (.slice (some ⟨g, 0, none⟩) n c) vs) : n = vs.length := by
  rcases h.2 with ⟨hv, _⟩ | ⟨g', cap, cur, hv, _⟩
  · simp at hv
  · simp at hv; exact hv.2.1
theorem OV.cell {w : World} {vs : List Value} {A g c n : Nat} (h : OV w A (.slice (some ⟨g, 0, none⟩) n c) vs) {i : Nat} (hi : i < vs.length) :
    w.cell? ⟨g, i, none⟩ = some (vs.getD i undef) ∧ w.frozen? ⟨g, i, none⟩ = false := by
  obtain rfl := h.len
  exact ⟨by rw [World.ownsRow.cellAt h i (by omega)]; simp [hi], World.ownsRow.frozenAt h i⟩
theorem OV.set {w : World} {vs : List Value} {A g c n : Nat} (h : OV w A (.slice (some ⟨g, 0, none⟩) n c) vs) (i : Nat) (x : Value) :
    OV (w.setCell ⟨g, i, none⟩ x) A (.slice (some ⟨g, 0, none⟩) n c) (vs.set i x) := by
  obtain rfl := h.len
  have := World.ownsRow.stored h i x
  unfold OV
  rw [List.length_set]
  exact this.1

/-- Owned values, each of which reads as a row, read as rows. -/
theorem OV.rs {w : World} {A hi : Nat} {v : Value} {vs : List Value} {xss : List (List Int)} (h : OV w A v vs) (hl : vs.length = xss.length) (hhi : hi = w.heap.size)
    (hr : ∀ i, i < vs.length → RR w hi (vs.getD i undef) (xss.getD i [])) : RS w hi v xss := by
  subst hhi
  by_cases h0 : vs = []
  · subst h0
    obtain ⟨a, c, rfl, h1, h2⟩ := h.shape
    exact ⟨a, c, by rw [← hl], by rw [← hl]; exact h1, h2, Nat.le_refl _, fun i hi => by rw [← hl] at hi; simp at hi⟩
  · obtain ⟨g, c, rfl, hg1, hg2, h1, h2⟩ := h.at (List.length_pos_iff.2 h0)
    refine ⟨_, c, by rw [← hl], by rw [← hl]; exact h1, h2, Nat.le_refl _, fun i hi => ?_⟩
    have hi' : i < vs.length := by omega
    exact ⟨g, 0, vs.getD i undef, rfl, hg2, by rw [Nat.zero_add]; exact (h.cell hi').1, hr i hi'⟩

/-- `append(v, u)`, `v` the call's own slice of rows. -/
theorem wp_appV {w w0 : World} {o : Oper} {a : Act} {K : Act → World → Prop} {Q : Exit → Act → World → Prop}
    (s x : Operand) (T : TypeId) (hop : o.op = Op.call { callee := Callee.builtin Builtin.append, args := #[s, x], argTypes := #[T, T] })
    (hT : Try.prog.underlying T = some (.slice 24)) (B : Nat) (v : Value) (vs : List Value) (u : Value) (hu : u.oneCell' = true)
    (hown : OV w B v vs) (hs : a.eval s = v) (hx : a.eval x = .slice (some ⟨w.heap.size, 0, none⟩) 1 1)
    (hlen : vs.length < 1099511627776) (hbel : Below B w0 w) (hB : B ≤ w.heap.size)
    (hK : ∀ v' w', OV w' B v' (vs ++ [u]) → Below B w0 w' → w.grownBy w' v.ownBlock → K (a.put o.dst v') w') :
    o.wp Try.prog a (w.alloc (.cells #[u] 24)) K Q := by
  obtain ⟨i0, hi, hz0, hz1, hz2⟩ := info_parts infoRow
  refine wp_append_own _ s x T hop B 24 i0 (.slice none 0 0) 1 24 hT hi hz0 hz1 hz2 rfl (by decide) v vs.length vs hs (World.ownsRow.alloc hown _)
    ⟨w.heap.size, 0, none⟩ 1 1 [u] hx rfl ?_ ?_ (by unfold maxLen; omega) (by omega) (by simp; omega) ?_
  · intro j u' hj
    exact (cell_one_new w u 24) j u' hj
  · intro u' hu'
    simp at hu'
    subst hu'
    exact hu
  · intro v' w1 ho hgr _
    have hgr' : w.grownBy w1 v.ownBlock := by
      have h0 := World.grownBy_alloc w (.cells #[u] 24) v.ownBlock
      exact ⟨hgr.os.trans h0.os, hgr.tape.trans h0.tape, hgr.output.trans h0.output, Nat.le_trans h0.size hgr.size, fun k hk hne => (hgr.block k (Nat.lt_of_lt_of_le hk h0.size) hne).trans (h0.block k hk hne)⟩
    refine hK v' w1 ?_ ?_ hgr'
    · unfold OV
      simpa using ho
    · exact hbel.grown hgr' hB fun k hk => (OV.lt hown k hk).1
theorem appV {w w0 : World} {ops : Array Oper} {rest : List Oper} {o : Oper} {a : Act} {Q : Exit → Act → World → Prop}
    (hg : o.guard = none) (s x : Operand) (T : TypeId) (hop : o.op = Op.call { callee := Callee.builtin Builtin.append, args := #[s, x], argTypes := #[T, T] })
    (hT : Try.prog.underlying T = some (.slice 24)) (B : Nat) (v : Value) (vs : List Value) (u : Value) (hu : u.oneCell' = true)
    (hown : OV w B v vs) (hs : a.eval s = v) (hx : a.eval x = .slice (some ⟨w.heap.size, 0, none⟩) 1 1)
    (hlen : vs.length < 1099511627776) (hbel : Below B w0 w) (hB : B ≤ w.heap.size)
    (hK : ∀ v' w', OV w' B v' (vs ++ [u]) → Below B w0 w' → w.grownBy w' v.ownBlock → wpList Try.prog ops Q rest (a.put o.dst v') w') :
    wpList Try.prog ops Q (o :: rest) a (w.alloc (.cells #[u] 24)) :=
  wpList_plain hg fun _ hK' => wp_appV s x T hop hT B v vs u hu hown hs hx hlen hbel hB fun v' w' h1 h2 h3 => hK' _ _ (hK v' w' h1 h2 h3)
theorem RR.one {w : World} {hi : Nat} {v : Value} {xs : List Int} (h : RR w hi v xs) : v.oneCell' = true := by
  obtain ⟨a, c, rfl, _⟩ := h
  rfl

/-! ### A grid: a slice of rows that a call has built, the rows in new memory too -/
theorem OV_OI_ne {w : World} {A B : Nat} {o u : Value} {vs : List Value} {xs : List Int} (h : OV w A o vs) (h' : OI w B u xs) : ∀ k, u.ownBlock = some k → o.ownBlock ≠ some k := by
  intro k hk hk'
  rcases h.2 with ⟨rfl, _⟩ | ⟨g, cap, cur, rfl, _, hh, _⟩
  · cases hk'
  · rcases h'.2 with ⟨rfl, _⟩ | ⟨g', cap', cur', rfl, _, hh', _⟩
    · cases hk
    · simp [Value.ownBlock] at hk hk'
      subst hk
      subst hk'
      rw [hh] at hh'
      simp at hh'

def Grid (w : World) (B : Nat) (o : Value) (xss : List (List Int)) : Prop :=
  ∃ vs : List Value, vs.length = xss.length ∧ OV w B o vs ∧ ∀ i, i < vs.length → OI w B (vs.getD i undef) (xss.getD i [])

theorem Grid.fresh0 (w : World) {B : Nat} (hB : B ≤ w.heap.size) : Grid (w.alloc (.cells #[] 24)) B (.slice (some ⟨w.heap.size, 0, none⟩) 0 0) [] :=
  ⟨[], rfl, OV.fresh0 w hB, fun i hi => by simp at hi⟩
theorem Grid.mod {w w' : World} {B A C : Nat} {o : Value} {xss : List (List Int)} (h : Grid w B o xss) (hm : Mod A C w w') (hC : C ≤ B) : Grid w' B o xss := by
  obtain ⟨vs, h1, h2, h3⟩ := h
  exact ⟨vs, h1, h2.mod hm hC, fun i hi => (h3 i hi).mod hm hC⟩
theorem OI.rr {w : World} {B : Nat} {v : Value} {xs : List Int} (h : OI w B v xs) : RR w w.heap.size v xs := h.rl.rr
theorem Grid.rs {w : World} {B : Nat} {o : Value} {xss : List (List Int)} (h : Grid w B o xss) : RS w w.heap.size o xss := by
  obtain ⟨vs, h1, h2, h3⟩ := h
  exact h2.rs h1 rfl fun i hi => (h3 i hi).rr
theorem Grid.shape {w : World} {B : Nat} {o : Value} {xss : List (List Int)} (h : Grid w B o xss) : ∃ a c, o = .slice a xss.length c ∧ xss.length ≤ c ∧ c ≤ maxLen := by
  obtain ⟨vs, h1, h2, h3⟩ := h
  rw [← h1]
  exact h2.shape
theorem OI.oneCell {w : World} {B : Nat} {v : Value} {xs : List Int} (h : OI w B v xs) : v.oneCell' = true := by
  obtain ⟨a, c, rfl, _⟩ := h.rl
  rfl
theorem getD_snoc {α : Type} (l : List α) (x d : α) (i : Nat) : (l ++ [x]).getD i d = if i < l.length then l.getD i d else if i = l.length then x else d := by
  by_cases h : i < l.length
  · simp [h, List.getElem?_append]
  · rw [if_neg h]
    by_cases e : i = l.length
    · subst e; simp
    · rw [if_neg e]
      have : l.length + 1 ≤ i := by omega
      simp [List.getElem?_append, h]
      rw [List.getElem?_eq_none (by simp; omega)]
      rfl
theorem Grid.snoc {w w' : World} {B : Nat} {o o' u : Value} {xss : List (List Int)} {xs : List Int} {vs : List Value} (h1 : vs.length = xss.length) (h2 : OV w B o vs)
    (h3 : ∀ i, i < vs.length → OI w B (vs.getD i undef) (xss.getD i [])) (hu : OI w B u xs) (hv : OV w' B o' (vs ++ [u])) (hg : w.grownBy w' o.ownBlock) : Grid w' B o' (xss ++ [xs]) := by
  have kept : ∀ {v : Value} {ys : List Int}, OI w B v ys → OI w' B v ys := fun h => h.kept hg (OV_OI_ne h2 h)
  refine ⟨vs ++ [u], by simp [h1], hv, fun i hi => ?_⟩
  rw [getD_snoc, getD_snoc]
  by_cases e : i < vs.length
  · rw [if_pos e, if_pos (by omega)]
    exact kept (h3 i e)
  · have e' : i = vs.length := by simp at hi; omega
    rw [if_neg e, if_pos e', if_neg (by omega), if_pos (by omega)]
    exact kept hu
/-- A row of the grid is exchanged for another one. -/
theorem Grid.put {w : World} {B g n c : Nat} {u : Value} {xss : List (List Int)} {xs : List Int} (h : Grid w B (.slice (some ⟨g, 0, none⟩) n c) xss) (hu : OI w B u xs) (i : Nat) :
    Grid (w.setCell ⟨g, i, none⟩ u) B (.slice (some ⟨g, 0, none⟩) n c) (xss.set i xs) := by
  obtain ⟨vs, h1, h2, h3⟩ := h
  have kept : ∀ {v : Value} {ys : List Int}, OI w B v ys → OI (w.setCell ⟨g, i, none⟩ u) B v ys := fun h => h.kept (gset (World.grownBy.refl w (some g)) i u) fun k hk e => OV_OI_ne h2 h k hk e
  refine ⟨vs.set i u, by simp [h1], h2.set i u, fun j hj => ?_⟩
  have hj' : j < vs.length := by simpa using hj
  by_cases e : i = j
  · subst e
    have e1 : (vs.set i u).getD i undef = u := by simp [hj']
    have e2 : (xss.set i xs).getD i [] = xs := by simp [show i < xss.length by omega]
    rw [e1, e2]
    exact kept hu
  · have e1 : (vs.set i u).getD j undef = vs.getD j undef := by simp [e]
    have e2 : (xss.set i xs).getD j [] = xss.getD j [] := by simp [e]
    rw [e1, e2]
    exact kept (h3 j hj')
end Go.Proofs.Yteelobokjidphaa
