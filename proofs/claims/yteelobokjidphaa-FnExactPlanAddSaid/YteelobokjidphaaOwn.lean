/- Plans that a call has built: nodes in a slice of its own, the rows in memory of its own. No condition. -/
import Derived.Test.YteelobokjidphaaPlan
namespace Go.Proofs.Yteelobokjidphaa
open Go.RowKit
set_option maxRecDepth 100000

theorem infoNd : (Try.prog.info? 48).map (fun i => (i.zero, i.size, i.bytes)) = some (some (.agg #[.int .i64 0, .slice none 0 0, .slice none 0 0]), 3, 56) := by kernel_rfl

/-- The j-th cell of the nodes ns; their rows are the slice values U 0, U 1 ... -/
def cN (ns : List Nd) (U : Nat → Value) (j : Nat) : Value := if j % 3 = 0 then .int .i64 (ns.getD (j / 3) nd0).kind else if j % 3 = 1 then U (2 * (j / 3)) else U (2 * (j / 3) + 1)
def cellsN (ns : List Nd) (U : Nat → Value) : List Value := (List.range (ns.length * 3)).map (cN ns U)
theorem cN_0 (ns : List Nd) (U : Nat → Value) (i : Nat) : cN ns U (i * 3) = .int .i64 (ns.getD i nd0).kind := by
  have h1 : i * 3 % 3 = 0 := by omega
  have h2 : i * 3 / 3 = i := by omega
  unfold cN; rw [if_pos h1, h2]
theorem cN_1 (ns : List Nd) (U : Nat → Value) (i : Nat) : cN ns U (i * 3 + 1) = U (2 * i) := by
  have h1 : (i * 3 + 1) % 3 = 1 := by omega
  have h2 : (i * 3 + 1) / 3 = i := by omega
  unfold cN; rw [if_neg (by omega), if_pos h1, h2]
theorem cN_2 (ns : List Nd) (U : Nat → Value) (i : Nat) : cN ns U (i * 3 + 2) = U (2 * i + 1) := by
  have h2 : (i * 3 + 2) / 3 = i := by omega
  unfold cN; rw [if_neg (by omega), if_neg (by omega), h2]
theorem cellsN_length (ns : List Nd) (U : Nat → Value) : (cellsN ns U).length = ns.length * 3 := by simp [cellsN]
theorem cellsN_at {ns : List Nd} {U : Nat → Value} {j : Nat} (h : j < ns.length * 3) : (cellsN ns U)[j]? = some (cN ns U j) := by simp [cellsN, h]
theorem cells_ext {l : List Value} {ns : List Nd} {U : Nat → Value} (hl : l.length = ns.length * 3)
    (h0 : ∀ i, i < ns.length → l[i * 3]? = some (.int .i64 (ns.getD i nd0).kind)) (h1 : ∀ i, i < ns.length → l[i * 3 + 1]? = some (U (2 * i))) (h2 : ∀ i, i < ns.length → l[i * 3 + 2]? = some (U (2 * i + 1))) : l = cellsN ns U := by
  refine List.ext_getElem? fun j => ?_
  by_cases hj : j < ns.length * 3
  · rw [cellsN_at hj]
    obtain ⟨q, s, rfl, hs⟩ : ∃ q s, j = q * 3 + s ∧ s < 3 := ⟨j / 3, j % 3, by omega, by omega⟩
    rcases (show s = 0 ∨ s = 1 ∨ s = 2 by omega) with rfl | rfl | rfl
    · rw [Nat.add_zero, cN_0]; exact h0 q (by omega)
    · rw [cN_1]; exact h1 q (by omega)
    · rw [cN_2]; exact h2 q (by omega)
  · rw [List.getElem?_eq_none (by omega), List.getElem?_eq_none (by rw [cellsN_length]; omega)]

/-- The numbers of row r: of the list of needs (2 i), of the given row (2 i + 1) of node i. -/
def rowN (ns : List Nd) (r : Nat) : List Int := if r % 2 = 0 then (ns.getD (r / 2) nd0).fs else (ns.getD (r / 2) nd0).row
theorem rowN_0 (ns : List Nd) (i : Nat) : rowN ns (2 * i) = (ns.getD i nd0).fs := by
  have h1 : 2 * i % 2 = 0 := by omega
  have h2 : 2 * i / 2 = i := by omega
  unfold rowN; rw [if_pos h1, h2]
theorem rowN_1 (ns : List Nd) (i : Nat) : rowN ns (2 * i + 1) = (ns.getD i nd0).row := by
  have h2 : (2 * i + 1) / 2 = i := by omega
  unfold rowN; rw [if_neg (by omega), h2]
theorem rowN_cases {ns : List Nd} {P : Nat → List Int → Prop} (h0 : ∀ i, i < ns.length → P (2 * i) (ns.getD i nd0).fs) (h1 : ∀ i, i < ns.length → P (2 * i + 1) (ns.getD i nd0).row) : ∀ r, r < 2 * ns.length → P r (rowN ns r) := by
  intro r hr
  obtain ⟨q, rfl | rfl⟩ : ∃ q, r = 2 * q ∨ r = 2 * q + 1 := ⟨r / 2, by omega⟩
  · rw [rowN_0]; exact h0 q (by omega)
  · rw [rowN_1]; exact h1 q (by omega)

theorem ownsRow_blk {w w' : World} {lo : Nat} {e : TypeId} {size n : Nat} {v : Value} {xs : List Value} (h : w.ownsRow lo e size v n xs) (hb : ∀ k, v.ownBlock = some k → w'.heap[k]? = w.heap[k]?) : w'.ownsRow lo e size v n xs := by
  obtain ⟨h1, h2⟩ := h
  refine ⟨h1, ?_⟩
  rcases h2 with h2 | ⟨g, cap, cur, rfl, hg, hh, r⟩
  · exact .inl h2
  · exact .inr ⟨g, cap, cur, rfl, hg, by rw [hb g rfl]; exact hh, r⟩
theorem ownsRow_base {w : World} {lo lo' : Nat} {e : TypeId} {size n : Nat} {v : Value} {xs : List Value} (h : w.ownsRow lo e size v n xs) (hl : lo' ≤ lo) : w.ownsRow lo' e size v n xs := by
  obtain ⟨h1, h2⟩ := h
  refine ⟨h1, ?_⟩
  rcases h2 with h2 | ⟨g, cap, cur, rfl, hg, r⟩
  · exact .inl h2
  · exact .inr ⟨g, cap, cur, rfl, Nat.le_trans hl hg, r⟩
theorem OI.blk {w w' : World} {A : Nat} {v : Value} {xs : List Int} (h : OI w A v xs) (hb : ∀ k, v.ownBlock = some k → w'.heap[k]? = w.heap[k]?) : OI w' A v xs := ownsRow_blk h hb

/-- `v` owns the plan `ns` in the blocks from lo to hi; where D holds, no two rows share a block. -/
def PR (D : Prop) (w : World) (lo hi : Nat) (v : Value) (ns : List Nd) : Prop :=
  hi ≤ w.heap.size ∧ ∃ (U : Nat → Value) (own : Nat → Nat), w.ownsRow lo 48 3 v ns.length (cellsN ns U) ∧ (∀ k, v.ownBlock = some k → k < hi) ∧
    ∀ r, r < 2 * ns.length → OI w lo (U r) (rowN ns r) ∧ ∀ b, (U r).ownBlock = some b → b < hi ∧ (D → own b = r)

section
variable {D : Prop} {w w' : World} {lo hi : Nat} {v : Value} {ns : List Nd}
theorem PR.mod {A B : Nat} (h : PR D w lo hi v ns) (hm : Mod A B w w') (hA : hi ≤ A ∨ B ≤ lo) : PR D w' lo hi v ns := by
  obtain ⟨h0, U, own, h1, h2, h3⟩ := h
  refine ⟨Nat.le_trans h0 hm.size, U, own, ownsRow_blk h1 fun k hk => hm.block k (World.ownsRow.lt h1 k hk).2 (by have := h2 k hk; have := (World.ownsRow.lt h1 k hk).1; omega), h2, fun r hr => ?_⟩
  obtain ⟨q1, q2⟩ := h3 r hr
  exact ⟨q1.blk fun b hb => hm.block b (q1.lt b hb).2 (by have := (q2 b hb).1; have := (q1.lt b hb).1; omega), q2⟩
theorem PR.up {hi' : Nat} (h : PR D w lo hi v ns) (h1 : hi ≤ hi') (h2 : hi' ≤ w.heap.size) : PR D w lo hi' v ns := by
  obtain ⟨h0, U, own, h3, h4, h5⟩ := h
  exact ⟨h2, U, own, h3, fun k hk => Nat.lt_of_lt_of_le (h4 k hk) h1, fun r hr => ⟨(h5 r hr).1, fun b hb => ⟨Nat.lt_of_lt_of_le ((h5 r hr).2 b hb).1 h1, ((h5 r hr).2 b hb).2⟩⟩⟩
theorem PR.base {lo' : Nat} (h : PR D w lo hi v ns) (h1 : lo' ≤ lo) : PR D w lo' hi v ns := by
  obtain ⟨h0, U, own, h3, h4, h5⟩ := h
  exact ⟨h0, U, own, ownsRow_base h3 h1, h4, fun r hr => ⟨(h5 r hr).1.base h1, (h5 r hr).2⟩⟩
theorem PR.weak {D' : Prop} (h : PR D w lo hi v ns) (hd : D' → D) : PR D' w lo hi v ns := by
  obtain ⟨h0, U, own, h3, h4, h5⟩ := h
  exact ⟨h0, U, own, h3, h4, fun r hr => ⟨(h5 r hr).1, fun b hb => ⟨((h5 r hr).2 b hb).1, fun d => ((h5 r hr).2 b hb).2 (hd d)⟩⟩⟩
theorem PR.size (h : PR D w lo hi v ns) : hi ≤ w.heap.size := h.1

theorem PR.own (h : PR D w lo hi v ns) : ∀ k, v.ownBlock = some k → k < hi := by
  obtain ⟨_, _, _, _, h, _⟩ := h
  exact h
theorem PR.shape (h : PR D w lo hi v ns) : ∃ a c, v = .slice a ns.length c ∧ ns.length ≤ c ∧ c ≤ maxLen := by
  obtain ⟨h0, U, own, h1, -⟩ := h
  rcases h1.2 with ⟨rfl, hn⟩ | ⟨g, cap, cur, rfl, _, _, h2, h3, _⟩
  · exact ⟨none, 0, by rw [hn], by omega, by unfold maxLen; omega⟩
  · exact ⟨_, cap, rfl, h2, h3⟩
theorem PR.at (h : PR D w lo hi v ns) {i : Nat} (hi' : i < ns.length) : ∃ g c, v = .slice (some ⟨g, 0, none⟩) ns.length c ∧ lo ≤ g ∧ g < hi ∧ ns.length ≤ c ∧ c ≤ maxLen := by
  obtain ⟨h0, U, own, h1, h4, -⟩ := h
  rcases h1.2 with ⟨rfl, hn⟩ | ⟨g, cap, cur, rfl, hg, _, h2, h3, _⟩
  · omega
  · exact ⟨g, cap, rfl, hg, h4 g rfl, h2, h3⟩
theorem PR.len {g n c : Nat} (h : PR D w lo hi (.slice (some ⟨g, 0, none⟩) n c) ns) : n = ns.length := by
  obtain ⟨a, c', e, -⟩ := h.shape
  simp only [Value.slice.injEq] at e
  exact e.2.1
theorem PR.cells {g n c : Nat} (h : PR D w lo hi (.slice (some ⟨g, 0, none⟩) n c) ns) {i : Nat} (hi' : i < ns.length) :
    ∃ f r, w.cell? ⟨g, i * 3, none⟩ = some (.int .i64 (ns.getD i nd0).kind) ∧ w.cell? ⟨g, i * 3 + 1, none⟩ = some f ∧ w.cell? ⟨g, i * 3 + 2, none⟩ = some r ∧ OR w lo hi f (ns.getD i nd0).fs ∧ OR w lo hi r (ns.getD i nd0).row := by
  obtain rfl := h.len
  obtain ⟨h0, U, own, h1, h4, h5⟩ := h
  refine ⟨U (2 * i), U (2 * i + 1), ?_, ?_, ?_, ?_, ?_⟩
  · rw [World.ownsRow.cellAt h1 _ (by omega), cellsN_at (by omega), cN_0]
  · rw [World.ownsRow.cellAt h1 _ (by omega), cellsN_at (by omega), cN_1]
  · rw [World.ownsRow.cellAt h1 _ (by omega), cellsN_at (by omega), cN_2]
  · obtain ⟨q1, q2⟩ := h5 (2 * i) (by omega)
    rw [rowN_0] at q1
    exact ⟨q1, h0, fun k hk => (q2 k hk).1⟩
  · obtain ⟨q1, q2⟩ := h5 (2 * i + 1) (by omega)
    rw [rowN_1] at q1
    exact ⟨q1, h0, fun k hk => (q2 k hk).1⟩
theorem PR.frozen {g n c : Nat} (h : PR D w lo hi (.slice (some ⟨g, 0, none⟩) n c) ns) (j : Nat) : w.frozen? ⟨g, j, none⟩ = false := by
  obtain rfl := h.len
  obtain ⟨h0, U, own, h1, -⟩ := h
  exact World.ownsRow.frozenAt h1 j

theorem OR.rr {w : World} {lo hi : Nat} {v : Value} {xs : List Int} (h : OR w lo hi v xs) : RR w hi v xs := by
  obtain ⟨h1, h2, h3⟩ := h
  obtain ⟨a, c, rfl, q1, q2, q3⟩ := h1.rl
  refine ⟨a, c, rfl, q1, q2, h2, fun i hi => ?_⟩
  obtain ⟨b, o, rfl, hb, hc⟩ := q3 i hi
  exact ⟨b, o, rfl, h3 b rfl, hc⟩
theorem PR.pl (h : PR D w lo hi v ns) : PL w hi v ns := by
  obtain ⟨a, c, rfl, h1, h2⟩ := h.shape
  refine ⟨a, c, rfl, h1, h2, h.1, fun i hi' => ?_⟩
  obtain ⟨g, c', e, -, hg, -⟩ := h.at hi'
  simp only [Value.slice.injEq] at e
  obtain ⟨rfl, -, -⟩ := e
  obtain ⟨f, r, c0, c1, c2, hf, hr⟩ := h.cells hi'
  exact ⟨g, 0, f, r, rfl, hg, by rw [Nat.zero_add]; exact c0, by rw [Nat.zero_add]; exact c1, by rw [Nat.zero_add]; exact c2, hf.rr, hr.rr⟩
/-- The first k nodes. -/
theorem PR.take {a : Option Addr} {n c : Nat} (h : PR D w lo hi (.slice a n c) ns) {k : Nat} (hk : k ≤ n) (h0 : a = none → c = 0) : PR D w lo hi (.slice a k c) (ns.take k) := by
  obtain ⟨h1, U, own, ⟨h2, h3⟩, h4, h5⟩ := h
  have hn : n = ns.length := by
    rcases h3 with ⟨e, hn⟩ | ⟨g, cap, cur, e, -⟩
    · simp only [Value.slice.injEq] at e; omega
    · simp only [Value.slice.injEq] at e; exact e.2.1
  have hlen : (ns.take k).length = k := by simp; omega
  have hget : ∀ i, i < k → (ns.take k).getD i nd0 = ns.getD i nd0 := fun i hi => by
    simp [List.getD, hi]
  have hcells : cellsN (ns.take k) U = (cellsN ns U).take (k * 3) := by
    symm
    refine cells_ext (by rw [List.length_take, cellsN_length, hlen]; omega) (fun i hi => ?_) (fun i hi => ?_) (fun i hi => ?_)
    · rw [hlen] at hi
      rw [List.getElem?_take, if_pos (by omega), cellsN_at (by omega), cN_0, hget i hi]
    · rw [hlen] at hi
      rw [List.getElem?_take, if_pos (by omega), cellsN_at (by omega), cN_1]
    · rw [hlen] at hi
      rw [List.getElem?_take, if_pos (by omega), cellsN_at (by omega), cN_2]
  refine ⟨h1, U, own, ⟨by rw [cellsN_length], ?_⟩, fun b hb => h4 b (by cases a <;> exact hb), fun r hr => ?_⟩
  · rw [hlen, hcells]
    rcases h3 with ⟨e, hn⟩ | ⟨g, cap, cur, e, hg, hh, q1, q2, q3, q4⟩
    · simp only [Value.slice.injEq] at e
      obtain ⟨rfl, rfl, rfl⟩ := e
      obtain rfl : k = 0 := by omega
      exact .inl ⟨rfl, rfl⟩
    · simp only [Value.slice.injEq] at e
      obtain ⟨rfl, rfl, rfl⟩ := e
      exact .inr ⟨g, _, cur, rfl, hg, hh, by omega, q2, q3, by rw [← q4, List.take_take]; congr 1; omega⟩
  · rw [hlen] at hr
    have e : rowN (ns.take k) r = rowN ns r := by unfold rowN; rw [hget _ (by omega)]
    rw [e]
    exact h5 r (by omega)

theorem PR.nil {D : Prop} (w : World) (lo hi : Nat) (h : hi ≤ w.heap.size) : PR D w lo hi (.slice none 0 0) [] :=
  ⟨h, fun _ => .slice none 0 0, fun _ => 0, World.ownsRow_nil _ _ _ _, fun k hk => by simp [Value.ownBlock] at hk, fun r hr => by simp at hr⟩
theorem PR.fresh0 {D : Prop} (w : World) {lo : Nat} (hB : lo ≤ w.heap.size) : PR D (w.alloc (.cells #[] 48)) lo (w.heap.size + 1) (.slice (some ⟨w.heap.size, 0, none⟩) 0 0) [] :=
  ⟨by simp, fun _ => .slice none 0 0, fun _ => 0, World.ownsRow_made w #[] 0 hB (by unfold maxLen; omega) rfl, fun k hk => by simp [Value.ownBlock] at hk; omega, fun r hr => by simp at hr⟩

/-- A block of nodes is no block of numbers. -/
theorem node_OI_ne {A B : Nat} {u : Value} {xs : List Int} {cs : List Value} {n : Nat} (h : w.ownsRow A 48 3 v n cs) (h' : OI w B u xs) : ∀ k, u.ownBlock = some k → v.ownBlock ≠ some k := by
  intro k hk hk'
  rcases h.2 with ⟨rfl, _⟩ | ⟨g, cap, cur, rfl, _, hh, _⟩
  · cases hk'
  · rcases h'.2 with ⟨rfl, _⟩ | ⟨g', cap', cur', rfl, _, hh', _⟩
    · cases hk
    · simp [Value.ownBlock] at hk hk'
      subst hk
      subst hk'
      rw [hh] at hh'
      simp at hh'

/-- Where two new rows lie, so that no two rows share a block. -/
def Apart (D : Prop) (hi : Nat) (vf vr : Value) : Prop := D → (∀ b, vf.ownBlock = some b → hi ≤ b) ∧ (∀ b, vr.ownBlock = some b → hi ≤ b) ∧ ∀ b, vf.ownBlock = some b → vr.ownBlock ≠ some b
theorem Apart.of_lt {D : Prop} {hi M : Nat} {vf vr : Value} (h1 : hi ≤ M) (h2 : ∀ b, vf.ownBlock = some b → hi ≤ b ∧ b < M) (h3 : ∀ b, vr.ownBlock = some b → M ≤ b) : Apart D hi vf vr :=
  fun _ => ⟨fun b hb => (h2 b hb).1, fun b hb => Nat.le_trans h1 (h3 b hb), fun b hb e => by have := (h2 b hb).2; have := h3 b e; omega⟩
theorem Apart.no {hi : Nat} {vf vr : Value} : Apart False hi vf vr := fun h => h.elim

/-- Node i is exchanged for another one. -/
theorem PR.put {g n c i : Nat} (h : PR D w lo hi (.slice (some ⟨g, 0, none⟩) n c) ns) (hi' : i < ns.length) {vf vr : Value} {fs row : List Int} (hf : OI w lo vf fs) (hr : OI w lo vr row) (hD : Apart D hi vf vr) (kd : Int) :
    PR D (((w.setCell ⟨g, i * 3, none⟩ (.int .i64 kd)).setCell ⟨g, i * 3 + 1, none⟩ vf).setCell ⟨g, i * 3 + 2, none⟩ vr) lo w.heap.size (.slice (some ⟨g, 0, none⟩) n c) (ns.set i ⟨kd, fs, row⟩) := by
  obtain rfl := h.len
  obtain ⟨h0, U, own, h1, h2, h3⟩ := h
  have hgr : w.grownBy (((w.setCell ⟨g, i * 3, none⟩ (.int .i64 kd)).setCell ⟨g, i * 3 + 1, none⟩ vf).setCell ⟨g, i * 3 + 2, none⟩ vr) (some g) := gset (gset (gset (World.grownBy.refl w (some g)) _ _) _ _) _ _
  have kept : ∀ {u : Value} {ys : List Int} {C : Nat}, OI w C u ys → OI (((w.setCell ⟨g, i * 3, none⟩ (.int .i64 kd)).setCell ⟨g, i * 3 + 1, none⟩ vf).setCell ⟨g, i * 3 + 2, none⟩ vr) C u ys := fun h => h.kept hgr fun k hk e => node_OI_ne h1 h k hk e
  have s3 := ((((h1.stored (i * 3) (.int .i64 kd)).1.stored (i * 3 + 1) vf).1).stored (i * 3 + 2) vr).1
  have hget : ∀ j, j < ns.length → (ns.set i ⟨kd, fs, row⟩).getD j nd0 = if i = j then ⟨kd, fs, row⟩ else ns.getD j nd0 := fun j hj => by
    by_cases e : i = j
    · subst e; simp [hj]
    · simp [e]
  have he : ((((cellsN ns U).set (i * 3) (.int .i64 kd)).set (i * 3 + 1) vf).set (i * 3 + 2) vr) = cellsN (ns.set i ⟨kd, fs, row⟩) (fun r => if r = 2 * i then vf else if r = 2 * i + 1 then vr else U r) := by
    refine cells_ext (by simp [cellsN_length]) (fun j hj => ?_) (fun j hj => ?_) (fun j hj => ?_)
    · rw [List.length_set] at hj
      rw [hget j hj, List.getElem?_set_ne (by omega), List.getElem?_set_ne (by omega)]
      by_cases e : i = j
      · subst e; rw [List.getElem?_set_self (by rw [cellsN_length]; omega), if_pos rfl]
      · rw [List.getElem?_set_ne (by omega), if_neg e, cellsN_at (by omega), cN_0]
    · rw [List.length_set] at hj
      rw [List.getElem?_set_ne (by omega)]
      by_cases e : i = j
      · subst e; rw [List.getElem?_set_self (by simp [cellsN_length]; omega), if_pos rfl]
      · rw [List.getElem?_set_ne (by omega), List.getElem?_set_ne (by omega), if_neg (by omega), if_neg (by omega), cellsN_at (by omega), cN_1]
    · rw [List.length_set] at hj
      by_cases e : i = j
      · subst e; rw [List.getElem?_set_self (by simp [cellsN_length]; omega), if_neg (by omega), if_pos rfl]
      · rw [List.getElem?_set_ne (by omega), List.getElem?_set_ne (by omega), List.getElem?_set_ne (by omega), if_neg (by omega), if_neg (by omega), cellsN_at (by omega), cN_2]
  rw [he] at s3
  have hown : ∃ own' : Nat → Nat, D → (∀ r, r < 2 * ns.length → r ≠ 2 * i → r ≠ 2 * i + 1 → ∀ b, (U r).ownBlock = some b → own' b = r) ∧ (∀ b, vf.ownBlock = some b → own' b = 2 * i) ∧ ∀ b, vr.ownBlock = some b → own' b = 2 * i + 1 := by
    by_cases hd : D
    · obtain ⟨hM, hM1, hM2⟩ := hD hd
      refine ⟨fun b => if b < hi then own b else if vf.ownBlock = some b then 2 * i else 2 * i + 1, fun _ => ⟨fun r hr _ _ b hb => ?_, fun b hb => ?_, fun b hb => ?_⟩⟩
      · obtain ⟨q1, q2⟩ := (h3 r hr).2 b hb
        show (if b < hi then own b else if vf.ownBlock = some b then 2 * i else 2 * i + 1) = r
        rw [if_pos q1, q2 hd]
      · have q1 := hM b hb
        show (if b < hi then own b else if vf.ownBlock = some b then 2 * i else 2 * i + 1) = 2 * i
        rw [if_neg (by omega), if_pos hb]
      · have q1 := hM1 b hb
        show (if b < hi then own b else if vf.ownBlock = some b then 2 * i else 2 * i + 1) = 2 * i + 1
        rw [if_neg (by omega), if_neg (fun e => hM2 b e hb)]
    · exact ⟨own, fun h => absurd h hd⟩
  obtain ⟨own', hown'⟩ := hown
  refine ⟨by simp, _, own', by rw [List.length_set]; exact s3, fun k hk => Nat.lt_of_lt_of_le (h2 k hk) h0, ?_⟩
  refine rowN_cases (P := fun r xs => OI (((w.setCell ⟨g, i * 3, none⟩ (.int .i64 kd)).setCell ⟨g, i * 3 + 1, none⟩ vf).setCell ⟨g, i * 3 + 2, none⟩ vr) lo (if r = 2 * i then vf else if r = 2 * i + 1 then vr else U r) xs ∧ ∀ b, (if r = 2 * i then vf else if r = 2 * i + 1 then vr else U r).ownBlock = some b → b < w.heap.size ∧ (D → own' b = r)) (fun j hj => ?_) (fun j hj => ?_)
  · rw [List.length_set] at hj
    rw [hget j hj]
    by_cases e : i = j
    · subst e
      rw [if_pos rfl, if_pos rfl]
      exact ⟨kept hf, fun b hb => ⟨(hf.lt b hb).2, fun d => (hown' d).2.1 b hb⟩⟩
    · rw [if_neg e, if_neg (by omega), if_neg (by omega)]
      obtain ⟨q1, q2⟩ := h3 (2 * j) (by omega)
      rw [rowN_0] at q1
      exact ⟨kept q1, fun b hb => ⟨Nat.lt_of_lt_of_le (q2 b hb).1 h0, fun d => (hown' d).1 (2 * j) (by omega) (by omega) (by omega) b hb⟩⟩
  · rw [List.length_set] at hj
    rw [hget j hj]
    by_cases e : i = j
    · subst e
      rw [if_pos rfl, if_neg (by omega), if_pos rfl]
      exact ⟨kept hr, fun b hb => ⟨(hr.lt b hb).2, fun d => (hown' d).2.2 b hb⟩⟩
    · rw [if_neg e, if_neg (by omega), if_neg (by omega)]
      obtain ⟨q1, q2⟩ := h3 (2 * j + 1) (by omega)
      rw [rowN_1] at q1
      exact ⟨kept q1, fun b hb => ⟨Nat.lt_of_lt_of_le (q2 b hb).1 h0, fun d => (hown' d).1 (2 * j + 1) (by omega) (by omega) (by omega) b hb⟩⟩

/-- A node's kind is exchanged. -/
theorem PR.kind {g n c i : Nat} (h : PR D w lo hi (.slice (some ⟨g, 0, none⟩) n c) ns) (hi' : i < ns.length) (kd : Int) :
    PR D (w.setCell ⟨g, i * 3, none⟩ (.int .i64 kd)) lo hi (.slice (some ⟨g, 0, none⟩) n c) (ns.set i ⟨kd, (ns.getD i nd0).fs, (ns.getD i nd0).row⟩) := by
  obtain rfl := h.len
  obtain ⟨h0, U, own, h1, h2, h3⟩ := h
  have hgr : w.grownBy (w.setCell ⟨g, i * 3, none⟩ (.int .i64 kd)) (some g) := gset (World.grownBy.refl w (some g)) _ _
  have kept : ∀ {u : Value} {ys : List Int} {C : Nat}, OI w C u ys → OI (w.setCell ⟨g, i * 3, none⟩ (.int .i64 kd)) C u ys := fun h => h.kept hgr fun k hk e => node_OI_ne h1 h k hk e
  have s1 := (h1.stored (i * 3) (.int .i64 kd)).1
  have hget : ∀ j, j < ns.length → (ns.set i ⟨kd, (ns.getD i nd0).fs, (ns.getD i nd0).row⟩).getD j nd0 = if i = j then ⟨kd, (ns.getD i nd0).fs, (ns.getD i nd0).row⟩ else ns.getD j nd0 := fun j hj => by
    by_cases e : i = j
    · subst e; simp [hj]
    · simp [e]
  have he : (cellsN ns U).set (i * 3) (.int .i64 kd) = cellsN (ns.set i ⟨kd, (ns.getD i nd0).fs, (ns.getD i nd0).row⟩) U := by
    refine cells_ext (by simp [cellsN_length]) (fun j hj => ?_) (fun j hj => ?_) (fun j hj => ?_)
    · rw [List.length_set] at hj
      rw [hget j hj]
      by_cases e : i = j
      · subst e; rw [List.getElem?_set_self (by rw [cellsN_length]; omega), if_pos rfl]
      · rw [List.getElem?_set_ne (by omega), if_neg e, cellsN_at (by omega), cN_0]
    · rw [List.length_set] at hj
      rw [List.getElem?_set_ne (by omega), cellsN_at (by omega), cN_1]
    · rw [List.length_set] at hj
      rw [List.getElem?_set_ne (by omega), cellsN_at (by omega), cN_2]
  rw [he] at s1
  refine ⟨by simpa using h0, U, own, by rw [List.length_set]; exact s1, h2, fun r hr => ?_⟩
  rw [List.length_set] at hr
  have e : rowN (ns.set i ⟨kd, (ns.getD i nd0).fs, (ns.getD i nd0).row⟩) r = rowN ns r := by
    unfold rowN
    rw [hget _ (by omega)]
    by_cases e : i = r / 2
    · rw [if_pos e, e]
    · rw [if_neg e]
  rw [e]
  exact ⟨kept (h3 r hr).1, (h3 r hr).2⟩
end
end Go.Proofs.Yteelobokjidphaa
