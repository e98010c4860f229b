/- The graph of a plan: nodes that point to one another. No condition. -/
import Derived.Test.YteelobokjidphaaBase
import Derived.Deep.AppendLies
namespace Go.Proofs.Yteelobokjidphaa
open Go.RowKit
set_option maxRecDepth 100000

def ptr (b : Nat) : Value := .pointer (some ⟨b, 0, none⟩)
/-- The slice value `v` owns the pointers to the blocks `bs`. -/
def OP (w : World) (B : Nat) (v : Value) (bs : List Nat) : Prop := w.ownsRow B 106 1 v bs.length (bs.map ptr)
theorem infoPtr : (Try.prog.info? 106).map (fun i => (i.zero, i.size, i.bytes)) = some (some (.pointer none), 1, 8) := by kernel_rfl
theorem OP.lt {w : World} {v : Value} {bs : List Nat} {A : Nat} (h : OP w A v bs) : ∀ k, v.ownBlock = some k → A ≤ k ∧ k < w.heap.size := World.ownsRow.lt h
theorem OP.nil (w : World) (B : Nat) : OP w B (.slice none 0 0) [] := World.ownsRow_nil _ _ _ _
theorem OP.kept {w w' : World} {v : Value} {bs : List Nat} {A : Nat} (h : OP w A v bs) (hb : ∀ k, v.ownBlock = some k → w'.heap[k]? = w.heap[k]?) : OP w' A v bs := by
  obtain ⟨h1, h2⟩ := h
  refine ⟨h1, ?_⟩
  rcases h2 with h2 | ⟨g, cap, cur, rfl, hg, hh, r⟩
  · exact .inl h2
  · exact .inr ⟨g, cap, cur, rfl, hg, by rw [hb g rfl]; exact hh, r⟩
theorem OP.shape {w : World} {v : Value} {bs : List Nat} {A : Nat} (h : OP w A v bs) : ∃ a c, v = .slice a bs.length c ∧ bs.length ≤ c ∧ c ≤ maxLen := by
  rcases h.2 with ⟨rfl, hn⟩ | ⟨g, cap, cur, rfl, _, _, h1, h2, _⟩
  · exact ⟨none, 0, by rw [hn], by omega, by unfold maxLen; omega⟩
  · exact ⟨_, cap, rfl, h1, h2⟩
theorem OP.cell {w : World} {v : Value} {bs : List Nat} {A : Nat} (h : OP w A v bs) {i : Nat} (hi : i < bs.length) :
    ∃ g c, v = .slice (some ⟨g, 0, none⟩) bs.length c ∧ g < w.heap.size ∧ w.cell? ⟨g, i, none⟩ = some (ptr (bs.getD i 0)) := by
  have h' := h
  rcases h.2 with ⟨_, hn⟩ | ⟨g, cap, cur, rfl, hg, hh, h1, h2, _⟩
  · omega
  · refine ⟨g, cap, rfl, (Array.getElem?_eq_some_iff.1 hh).1, ?_⟩
    rw [World.ownsRow.cellAt h' i (by omega)]
    simp [hi]

/-- Nodes 0 .. k-1 of a graph, laid in the blocks P 0, P 1 ..; node i needs the nodes L 1 i and is used by the nodes L 2 i; the slice vg holds the first m of them. -/
def StO (own : Nat → Int) (V : Nat → Nat → Value) (w : World) (B k m : Nat) (vg : Value) (P : Nat → Nat) (L : Nat → Nat → List Nat) : Prop :=
  (∀ i, i < k → w.heap[P i]? = some (.cells #[.int .i64 i, V 1 i, V 2 i] 105 (0, 0)) ∧ B ≤ P i ∧ own (P i) = 3 * (i : Int)) ∧
  (∀ i s, i < k → s = 1 ∨ s = 2 → OP w B (V s i) ((L s i).map P) ∧ ∀ b, (V s i).ownBlock = some b → own b = 3 * (i : Int) + (s : Int)) ∧
  OP w B vg ((List.range m).map P) ∧ ∀ b, vg.ownBlock = some b → own b = -1
def St (w : World) (B k m : Nat) (vg : Value) (P : Nat → Nat) (L : Nat → Nat → List Nat) : Prop := ∃ own V, StO own V w B k m vg P L

/-- Old blocks of the call's memory left as they were. -/
theorem StO.kept {own : Nat → Int} {V : Nat → Nat → Value} {w w' : World} {B k m : Nat} {vg : Value} {P : Nat → Nat} {L : Nat → Nat → List Nat} (h : StO own V w B k m vg P L)
    (hb : ∀ b, b < w.heap.size → B ≤ b → w'.heap[b]? = w.heap[b]?) : StO own V w' B k m vg P L := by
  obtain ⟨h1, h2, h3, h4⟩ := h
  refine ⟨fun i hi => ?_, fun i s hi hs => ?_, h3.kept fun g hg => hb g (h3.lt g hg).2 (h3.lt g hg).1, h4⟩
  · obtain ⟨q1, q2, q3⟩ := h1 i hi
    exact ⟨by rw [hb _ (Array.getElem?_eq_some_iff.1 q1).1 q2]; exact q1, q2, q3⟩
  · obtain ⟨q1, q2⟩ := h2 i s hi hs
    exact ⟨q1.kept fun g hg => hb g (q1.lt g hg).2 (q1.lt g hg).1, q2⟩

def upd {α : Type} (f : Nat → Nat → α) (s j : Nat) (x : α) : Nat → Nat → α := fun s' i => if s' = s ∧ i = j then x else f s' i
theorem upd_at {α : Type} (f : Nat → Nat → α) (s j : Nat) (x : α) : upd f s j x s j = x := by simp [upd]
theorem upd_ne {α : Type} (f : Nat → Nat → α) {s j s' i : Nat} (x : α) (h : ¬ (s' = s ∧ i = j)) : upd f s j x s' i = f s' i := by simp [upd, h]

theorem setCell_heap (w : World) (b i : Nat) (u : Value) {cs : Array Value} {t : TypeId} {fr : Nat × Nat} (h : w.heap[b]? = some (.cells cs t fr)) : (w.setCell ⟨b, i, none⟩ u).heap[b]? = some (.cells (cs.setIfInBounds i u) t fr) := by
  simp [World.setCell, Array.getElem?_modify, h]
/-- What is left when row s of node j has got one pointer more. -/
theorem StO.push {own : Nat → Int} {V : Nat → Nat → Value} {w w' : World} {B k m : Nat} {vg : Value} {P : Nat → Nat} {L : Nat → Nat → List Nat} (h : StO own V w B k m vg P L) {s j g cap i n : Nat} (hs : s = 1 ∨ s = 2) (hj : j < k)
    (ho : OP w' B (.slice (some ⟨g, 0, none⟩) n cap) ((L s j ++ [i]).map P)) (hk : ∀ b, b < w.heap.size → (V s j).ownBlock ≠ some b → w'.heap[b]? = w.heap[b]?)
    (hg : (V s j).ownBlock = some g ∨ w.heap.size ≤ g) :
    ∃ own', StO own' (upd V s j (.slice (some ⟨g, 0, none⟩) n cap)) (w'.setCell ⟨P j, s, none⟩ (.slice (some ⟨g, 0, none⟩) n cap)) B k m vg P (upd L s j (L s j ++ [i])) := by
  obtain ⟨h1, h2, h3, h4⟩ := h
  obtain ⟨pj1, pj2, pj3⟩ := h1 j hj
  obtain ⟨vj1, vj2⟩ := h2 j s hj hs
  have hsz : P j < w.heap.size := (Array.getElem?_eq_some_iff.1 pj1).1
  -- an old block of another tag is no other one's
  have hne : ∀ b, own b ≠ 3 * (j : Int) + (s : Int) → b < w.heap.size → w'.heap[b]? = w.heap[b]? ∧ b ≠ g := fun b hb hlt =>
    ⟨hk b hlt fun e => hb (vj2 b e), fun e => by
      subst e
      rcases hg with hg | hg
      · exact hb (vj2 _ hg)
      · omega⟩
  have hset : ∀ b, b ≠ P j → (w'.setCell ⟨P j, s, none⟩ (.slice (some ⟨g, 0, none⟩) n cap)).heap[b]? = w'.heap[b]? := fun b hb => Below.heap_setCell _ _ _ _ hb
  refine ⟨fun b => if b = g then 3 * (j : Int) + (s : Int) else own b, fun i' hi' => ?_, fun i' s' hi' hs' => ?_, ?_, ?_⟩
  · obtain ⟨q1, q2, q3⟩ := h1 i' hi'
    have hlt := (Array.getElem?_eq_some_iff.1 q1).1
    obtain ⟨e1, e2⟩ := hne (P i') (by omega) hlt
    refine ⟨?_, q2, (if_neg e2).trans q3⟩
    by_cases e : i' = j
    · subst e
      rw [setCell_heap _ _ _ _ (e1.trans q1)]
      rcases hs with rfl | rfl
      · rw [upd_at, upd_ne _ _ (by omega)]; rfl
      · rw [upd_at, upd_ne _ _ (by omega)]; rfl
    · rw [hset _ (fun e3 => e (by have := q3; rw [e3, pj3] at this; omega)), e1, q1, upd_ne _ _ (by omega), upd_ne _ _ (by omega)]
  · obtain ⟨q1, q2⟩ := h2 i' s' hi' hs'
    by_cases e : s' = s ∧ i' = j
    · obtain ⟨rfl, rfl⟩ := e
      rw [upd_at, upd_at]
      refine ⟨ho.kept fun b hb => hset b ?_, fun b hb => ?_⟩
      · simp [Value.ownBlock] at hb
        subst hb
        rcases hg with hg | hg
        · intro e3; have := vj2 _ hg; rw [e3, pj3] at this; omega
        · omega
      · simp [Value.ownBlock] at hb
        exact if_pos hb.symm
    · rw [upd_ne _ _ e, upd_ne _ _ e]
      have hb' : ∀ b, (V s' i').ownBlock = some b → own b ≠ 3 * (j : Int) + (s : Int) := fun b hb e3 => by
        have := q2 b hb
        omega
      refine ⟨q1.kept fun b hb => ?_, fun b hb => ?_⟩
      · rw [hset b (fun e3 => by have := q2 b hb; rw [e3, pj3] at this; omega)]
        exact (hne b (hb' b hb) (q1.lt b hb).2).1
      · exact (if_neg (hne b (hb' b hb) (q1.lt b hb).2).2).trans (q2 b hb)
  · refine h3.kept fun b hb => ?_
    have h5 := h4 b hb
    rw [hset b (fun e3 => by rw [e3, pj3] at h5; omega)]
    exact (hne b (by omega) (h3.lt b hb).2).1
  · intro b hb
    have h5 := h4 b hb
    exact (if_neg (hne b (by omega) (h3.lt b hb).2).2).trans h5
end Go.Proofs.Yteelobokjidphaa
