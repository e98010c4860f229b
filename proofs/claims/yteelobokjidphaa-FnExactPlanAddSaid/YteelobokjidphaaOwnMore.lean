/- Plans that a call has built: what make, append leave. No condition. -/
import Derived.Test.YteelobokjidphaaOwn
namespace Go.Proofs.Yteelobokjidphaa
open Go.RowKit
set_option maxRecDepth 100000

theorem made_cells (n : Nat) : (madeCells (Value.agg #[.int .i64 0, .slice none 0 0, .slice none 0 0]).cells (n * 3)).toList = cellsN (List.replicate n nd0) (fun _ => .slice none 0 0) := by
  have hz : (Value.agg #[.int .i64 0, .slice none 0 0, .slice none 0 0]).cells = #[.int .i64 0, .slice none 0 0, .slice none 0 0] := rfl
  rw [hz]
  refine cells_ext (by simp [madeCells]) (fun i hi => ?_) (fun i hi => ?_) (fun i hi => ?_)
  · rw [List.length_replicate] at hi
    have h1 : i * 3 % 3 = 0 := by omega
    have h2 : i * 3 < n * 3 := by omega
    simp [madeCells, h2, h1, hi, nd0]
  · rw [List.length_replicate] at hi
    have h1 : (i * 3 + 1) % 3 = 1 := by omega
    have h2 : i * 3 + 1 < n * 3 := by omega
    simp [madeCells, h2, h1]
  · rw [List.length_replicate] at hi
    have h1 : (i * 3 + 2) % 3 = 2 := by omega
    have h2 : i * 3 + 2 < n * 3 := by omega
    simp [madeCells, h2, h1]

/-- `make([]Node, n)`. -/
theorem wp_mkN {w w0 : World} {o : Oper} {a : Act} {K : Act → World → Prop} {Q : Exit → Act → World → Prop}
    (l c : Operand) (T : TypeId) (hop : o.op = Op.makeSlice T l c)
    (hT : Try.prog.underlying T = some (.slice 48)) (B n : Nat) (L C : Int) (hl : a.eval l = .int .i64 L) (hc : a.eval c = .int .i64 C) (hL : L = (n : Int)) (hC : C = (n : Int))
    (hlen : n < 1099511627776) (hbel : Below B w0 w) (hB : B ≤ w.heap.size)
    (hK : ∀ v' w', PR True w' B w'.heap.size v' (List.replicate n nd0) → v' = .slice (some ⟨w.heap.size, 0, none⟩) n n → Below B w0 w' → w.grownBy w' none → K (a.put o.dst v') w') :
    o.wp Try.prog a w K Q := by
  obtain ⟨i0, hi, hz0, hz1, hz2⟩ := info_parts infoNd
  obtain ⟨w', hrun, ho, hgr⟩ := run_make_full (P := Try.prog) w B T 48 i0 (.agg #[.int .i64 0, .slice none 0 0, .slice none 0 0]) 3 hT hi hz0 hz1 .i64 .i64 n (by rw [hz2]; omega) (by unfold maxLen; omega) hB
  subst hL
  subst hC
  rw [made_cells] at ho
  unfold Oper.wp
  simp [execOp, hop, hl, hc, hrun, Result.andThen]
  refine hK _ w' ?_ rfl (hbel.grown hgr hB (by simp)) hgr
  refine ⟨Nat.le_refl _, _, fun _ => 0, by rw [List.length_replicate]; exact ho, fun k hk => (World.ownsRow.lt ho k hk).2, fun r hr => ?_⟩
  have e : rowN (List.replicate n nd0) r = [] := by
    have : ∀ i, (List.replicate n nd0).getD i nd0 = nd0 := fun i => by
      by_cases h : i < n <;> simp [h]
    unfold rowN
    rw [this]
    simp [nd0]
  rw [e]
  exact ⟨OI.nil _ _, fun b hb => by simp [Value.ownBlock] at hb⟩
theorem mkN {w w0 : World} {ops : Array Oper} {rest : List Oper} {o : Oper} {a : Act} {Q : Exit → Act → World → Prop}
    (hg : o.guard = none) (l c : Operand) (T : TypeId) (hop : o.op = Op.makeSlice T l c)
    (hT : Try.prog.underlying T = some (.slice 48)) (B n : Nat) (L C : Int) (hl : a.eval l = .int .i64 L) (hc : a.eval c = .int .i64 C) (hL : L = (n : Int)) (hC : C = (n : Int))
    (hlen : n < 1099511627776) (hbel : Below B w0 w) (hB : B ≤ w.heap.size)
    (hK : ∀ v' w', PR True w' B w'.heap.size v' (List.replicate n nd0) → v' = .slice (some ⟨w.heap.size, 0, none⟩) n n → Below B w0 w' → w.grownBy w' none → wpList Try.prog ops Q rest (a.put o.dst v') w') :
    wpList Try.prog ops Q (o :: rest) a w :=
  wpList_plain hg fun _ hK' => wp_mkN l c T hop hT B n L C hl hc hL hC hlen hbel hB fun v' w' h1 h2 h3 h4 => hK' _ _ (hK v' w' h1 h2 h3 h4)

/-- The first k nodes; behind them empty ones. -/
def partN (ns : List Nd) (k : Nat) : List Nd := (List.range ns.length).map fun i => if i < k then ns.getD i nd0 else nd0
theorem partN_length (ns : List Nd) (k : Nat) : (partN ns k).length = ns.length := by simp [partN]
theorem partN_zero (ns : List Nd) : partN ns 0 = List.replicate ns.length nd0 := by
  refine List.ext_getElem (by simp [partN]) fun i h1 h2 => ?_
  simp [partN]
theorem partN_all (ns : List Nd) : partN ns ns.length = ns := by
  refine List.ext_getElem (by simp [partN]) fun i h1 h2 => ?_
  simp [partN, h2]
theorem partN_set (ns : List Nd) (k : Nat) : (partN ns k).set k (ns.getD k nd0) = partN ns (k + 1) := by
  refine List.ext_getElem (by simp [partN]) fun i h1 h2 => ?_
  have hi : i < ns.length := by simpa [partN] using h2
  rw [List.getElem_set]
  by_cases e : k = i
  · subst e; simp [partN, hi]
  · rw [if_neg e]
    simp only [partN, List.getElem_map, List.getElem_range]
    by_cases e2 : i < k
    · rw [if_pos e2, if_pos (by omega)]
    · rw [if_neg e2, if_neg (by omega)]

theorem cellsN_app (ns ms : List Nd) (U V : Nat → Value) : cellsN ns U ++ cellsN ms V = cellsN (ns ++ ms) (fun r => if r < 2 * ns.length then U r else V (r - 2 * ns.length)) := by
  have hl := cellsN_length ns U
  have hget0 : ∀ i, i < ns.length → (ns ++ ms).getD i nd0 = ns.getD i nd0 := fun i hi => by simp [List.getD, List.getElem?_append, hi]
  have hget1 : ∀ i, ¬ i < ns.length → (ns ++ ms).getD i nd0 = ms.getD (i - ns.length) nd0 := fun i hi => by simp [List.getD, List.getElem?_append, hi]
  refine cells_ext (by simp [cellsN_length]; omega) (fun i hi => ?_) (fun i hi => ?_) (fun i hi => ?_)
  · rw [List.length_append] at hi
    by_cases h : i < ns.length
    · rw [List.getElem?_append_left (by omega), cellsN_at (by omega), cN_0, hget0 i h]
    · rw [List.getElem?_append_right (by omega), hl, show i * 3 - ns.length * 3 = (i - ns.length) * 3 by omega, cellsN_at (by omega), cN_0, hget1 i h]
  · rw [List.length_append] at hi
    by_cases h : i < ns.length
    · rw [List.getElem?_append_left (by omega), cellsN_at (by omega), cN_1, if_pos (by omega)]
    · rw [List.getElem?_append_right (by omega), hl, show i * 3 + 1 - ns.length * 3 = (i - ns.length) * 3 + 1 by omega, cellsN_at (by omega), cN_1, if_neg (by omega), show 2 * i - 2 * ns.length = 2 * (i - ns.length) by omega]
  · rw [List.length_append] at hi
    by_cases h : i < ns.length
    · rw [List.getElem?_append_left (by omega), cellsN_at (by omega), cN_2, if_pos (by omega)]
    · rw [List.getElem?_append_right (by omega), hl, show i * 3 + 2 - ns.length * 3 = (i - ns.length) * 3 + 2 by omega, cellsN_at (by omega), cN_2, if_neg (by omega), show 2 * i + 1 - 2 * ns.length = 2 * (i - ns.length) + 1 by omega]
theorem rowN_app (ns ms : List Nd) (r : Nat) : rowN (ns ++ ms) r = if r < 2 * ns.length then rowN ns r else rowN ms (r - 2 * ns.length) := by
  unfold rowN
  by_cases h : r < 2 * ns.length
  · rw [if_pos h]
    have : (ns ++ ms).getD (r / 2) nd0 = ns.getD (r / 2) nd0 := by simp [List.getD, List.getElem?_append, show r / 2 < ns.length by omega]
    rw [this]
  · rw [if_neg h]
    have : (ns ++ ms).getD (r / 2) nd0 = ms.getD ((r - 2 * ns.length) / 2) nd0 := by
      simp [List.getD, List.getElem?_append, show ¬ r / 2 < ns.length by omega, show r / 2 - ns.length = (r - 2 * ns.length) / 2 by omega]
    rw [this, show (r - 2 * ns.length) % 2 = r % 2 by omega]
theorem cellsN_one (kd : Int) (vf vr : Value) (fs row : List Int) : cellsN [⟨kd, fs, row⟩] (fun r => if r = 0 then vf else vr) = [.int .i64 kd, vf, vr] := by
  simp [cellsN, List.range_succ, cN]

/-- `append(v, u...)`, `v` the call's own plan, the cells of `u` known: the bare law. -/
theorem wp_appN {w w0 : World} {o : Oper} {a : Act} {K : Act → World → Prop} {Q : Exit → Act → World → Prop}
    (s x : Operand) (T : TypeId) (hop : o.op = Op.call { callee := Callee.builtin Builtin.append, args := #[s, x], argTypes := #[T, T] })
    (hT : Try.prog.underlying T = some (.slice 48)) (B : Nat) (v : Value) (ns ms : List Nd) (U V : Nat → Value)
    (hown : w.ownsRow B 48 3 v ns.length (cellsN ns U)) (hs : a.eval s = v) (ad : Addr) (c : Nat) (hx : a.eval x = .slice (some ad) ms.length c)
    (hcell : ∀ j, j < ms.length * 3 → w.cell? (ad.add j) = some (cN ms V j)) (hone : ∀ r, r < 2 * ms.length → (V r).oneCell' = true)
    (hlen : ns.length + ms.length < 1099511627776) (hbel : Below B w0 w) (hB : B ≤ w.heap.size)
    (hK : ∀ v' w', w'.ownsRow B 48 3 v' (ns ++ ms).length (cellsN (ns ++ ms) (fun r => if r < 2 * ns.length then U r else V (r - 2 * ns.length))) → Below B w0 w' → w.grownBy w' v.ownBlock → K (a.put o.dst v') w') :
    o.wp Try.prog a w K Q := by
  obtain ⟨i0, hi, hz0, hz1, hz2⟩ := info_parts infoNd
  refine wp_append_own _ s x T hop B 48 i0 (.agg #[.int .i64 0, .slice none 0 0, .slice none 0 0]) 3 56 hT hi hz0 hz1 hz2 rfl (by decide) v ns.length (cellsN ns U) hs hown
    ad ms.length c (cellsN ms V) hx (cellsN_length _ _) ?_ ?_ (by unfold maxLen; omega) (by omega) hB ?_
  · intro j u hj
    have hlt : j < ms.length * 3 := by
      have := (List.getElem?_eq_some_iff.1 hj).1
      rwa [cellsN_length] at this
    rw [hcell j hlt]
    rw [cellsN_at hlt] at hj
    exact hj
  · intro u hu
    obtain ⟨j, hj⟩ := List.mem_iff_getElem?.1 hu
    have hlt : j < ms.length * 3 := by
      have := (List.getElem?_eq_some_iff.1 hj).1
      rwa [cellsN_length] at this
    rw [cellsN_at hlt] at hj
    obtain rfl := Option.some.inj hj
    unfold cN
    split
    · rfl
    · split
      · exact hone _ (by omega)
      · exact hone _ (by omega)
  · intro v' w1 ho hgr _
    rw [cellsN_app] at ho
    refine hK v' w1 (by rw [List.length_append]; exact ho) (hbel.grown hgr hB fun k hk => (World.ownsRow.lt hown k hk).1) hgr

/-- What an append of owned nodes leaves. -/
theorem PR.app {D : Prop} {w w' : World} {lo hi : Nat} {v v' : Value} {ns ms : List Nd} {U V : Nat → Value} {own : Nat → Nat}
    (h1 : w.ownsRow lo 48 3 v ns.length (cellsN ns U)) (h3 : ∀ r, r < 2 * ns.length → OI w lo (U r) (rowN ns r) ∧ ∀ b, (U r).ownBlock = some b → b < hi ∧ (D → own b = r)) (_h0 : hi ≤ w.heap.size)
    (hV : ∀ r, r < 2 * ms.length → OI w lo (V r) (rowN ms r)) (hD : D → ∃ own' : Nat → Nat, (∀ b, b < hi → own' b = own b) ∧ ∀ r, r < 2 * ms.length → ∀ b, (V r).ownBlock = some b → own' b = r + 2 * ns.length)
    (ho : w'.ownsRow lo 48 3 v' (ns ++ ms).length (cellsN (ns ++ ms) (fun r => if r < 2 * ns.length then U r else V (r - 2 * ns.length)))) (hgr : w.grownBy w' v.ownBlock) :
    PR D w' lo w'.heap.size v' (ns ++ ms) := by
  have kept : ∀ {u : Value} {ys : List Int} {C : Nat}, OI w C u ys → OI w' C u ys := fun h => h.kept hgr fun k hk e => node_OI_ne h1 h k hk e
  have hown : ∃ own' : Nat → Nat, D → (∀ b, b < hi → own' b = own b) ∧ ∀ r, r < 2 * ms.length → ∀ b, (V r).ownBlock = some b → own' b = r + 2 * ns.length := by
    by_cases hd : D
    · obtain ⟨own', h⟩ := hD hd
      exact ⟨own', fun _ => h⟩
    · exact ⟨own, fun h => absurd h hd⟩
  obtain ⟨own', hown'⟩ := hown
  refine ⟨Nat.le_refl _, _, own', ho, fun k hk => (World.ownsRow.lt ho k hk).2, fun r hr => ?_⟩
  rw [rowN_app]
  rw [List.length_append] at hr
  by_cases e : r < 2 * ns.length
  · simp only [if_pos e]
    obtain ⟨q1, q2⟩ := h3 r e
    exact ⟨kept q1, fun b hb => ⟨((kept q1).lt b hb).2, fun d => by rw [(hown' d).1 b (q2 b hb).1]; exact (q2 b hb).2 d⟩⟩
  · simp only [if_neg e]
    have q1 := hV (r - 2 * ns.length) (by omega)
    exact ⟨kept q1, fun b hb => ⟨((kept q1).lt b hb).2, fun d => by rw [(hown' d).2 _ (by omega) b hb]; omega⟩⟩

/-- `append(v, node)`, the node's rows the call's own. -/
theorem wp_appN1 {D : Prop} {w w0 : World} {o : Oper} {a : Act} {K : Act → World → Prop} {Q : Exit → Act → World → Prop}
    (s x : Operand) (T : TypeId) (hop : o.op = Op.call { callee := Callee.builtin Builtin.append, args := #[s, x], argTypes := #[T, T] })
    (hT : Try.prog.underlying T = some (.slice 48)) (B hi : Nat) (v : Value) (ns : List Nd) (kd : Int) (vf vr : Value) (fs row : List Int)
    (hown : PR D w B hi v ns) (hf : OI w B vf fs) (hr : OI w B vr row) (hD : Apart D hi vf vr) (hs : a.eval s = v) (hx : a.eval x = .slice (some ⟨w.heap.size, 0, none⟩) 1 1)
    (hlen : ns.length < 1099511627775) (hbel : Below B w0 w) (hB : B ≤ w.heap.size)
    (hK : ∀ v' w', PR D w' B w'.heap.size v' (ns ++ [⟨kd, fs, row⟩]) → Below B w0 w' → (∀ k, k < w.heap.size → v.ownBlock ≠ some k → w'.heap[k]? = w.heap[k]?) → K (a.put o.dst v') w') :
    o.wp Try.prog a (w.alloc (.cells #[.int .i64 kd, vf, vr] 48)) K Q := by
  obtain ⟨h0, U, own, h1, h2, h3⟩ := hown
  have hfo : vf.oneCell' = true := by obtain ⟨a, c, rfl, -⟩ := hf.rl; rfl
  have hro : vr.oneCell' = true := by obtain ⟨a, c, rfl, -⟩ := hr.rl; rfl
  refine wp_appN (w := w.alloc (.cells #[.int .i64 kd, vf, vr] 48)) s x T hop hT B v ns [⟨kd, fs, row⟩] U (fun r => if r = 0 then vf else vr) (World.ownsRow.alloc h1 _) hs ⟨w.heap.size, 0, none⟩ 1 hx ?_ ?_ (by simp; omega) (hbel.alloc hB _) (by simp; omega) ?_
  · intro j hj
    have hb : (w.alloc (.cells #[.int .i64 kd, vf, vr] 48)).heap[w.heap.size]? = some (.cells #[.int .i64 kd, vf, vr] 48 (0, 0)) := heap_alloc_new w _
    simp at hj
    rw [Addr.add_lit, Nat.zero_add, cell_of_row _ w.heap.size j _ _ _ hb]
    rcases (show j = 0 ∨ j = 1 ∨ j = 2 by omega) with rfl | rfl | rfl <;> simp [cN]
  · intro r _
    show (if r = 0 then vf else vr).oneCell' = true
    split
    · exact hfo
    · exact hro
  · intro v' w' ho hb hgr
    refine (hK v' w' (PR.app (D := D) (V := fun r => if r = 0 then vf else vr) (w := w.alloc (.cells #[.int .i64 kd, vf, vr] 48)) (own := own) (hi := hi) (World.ownsRow.alloc h1 _) (fun r hr => ⟨(h3 r hr).1.alloc _, (h3 r hr).2⟩) (by simp; omega) ?_ ?_ ho hgr) hb (fun k hk hne => (hgr.block k (by simp; omega) (fun e => hne e.symm)).trans (heap_alloc_old w _ hk)))
    · intro r hr'
      simp at hr'
      rcases (show r = 0 ∨ r = 1 by omega) with rfl | rfl
      · exact hf.alloc _
      · exact hr.alloc _
    · intro hd
      obtain ⟨q1, q2, q3⟩ := hD hd
      refine ⟨fun b => if b < hi then own b else if vf.ownBlock = some b then 2 * ns.length else 2 * ns.length + 1, fun b hb => if_pos hb, fun r hr' b hb => ?_⟩
      simp at hr'
      rcases (show r = 0 ∨ r = 1 by omega) with rfl | rfl
      · have p1 := q1 b hb
        show (if b < hi then own b else if vf.ownBlock = some b then 2 * ns.length else 2 * ns.length + 1) = _
        rw [if_neg (by omega), if_pos (show vf.ownBlock = some b from hb)]; omega
      · have p1 := q2 b hb
        show (if b < hi then own b else if vf.ownBlock = some b then 2 * ns.length else 2 * ns.length + 1) = _
        rw [if_neg (by omega), if_neg (fun e => q3 b e hb)]; omega
theorem appN1 {D : Prop} {w w0 : World} {ops : Array Oper} {rest : List Oper} {o : Oper} {a : Act} {Q : Exit → Act → World → Prop}
    (hg : o.guard = none) (s x : Operand) (T : TypeId) (hop : o.op = Op.call { callee := Callee.builtin Builtin.append, args := #[s, x], argTypes := #[T, T] })
    (hT : Try.prog.underlying T = some (.slice 48)) (B hi : Nat) (v : Value) (ns : List Nd) (kd : Int) (vf vr : Value) (fs row : List Int)
    (hown : PR D w B hi v ns) (hf : OI w B vf fs) (hr : OI w B vr row) (hD : Apart D hi vf vr) (hs : a.eval s = v) (hx : a.eval x = .slice (some ⟨w.heap.size, 0, none⟩) 1 1)
    (hlen : ns.length < 1099511627775) (hbel : Below B w0 w) (hB : B ≤ w.heap.size)
    (hK : ∀ v' w', PR D w' B w'.heap.size v' (ns ++ [⟨kd, fs, row⟩]) → Below B w0 w' → (∀ k, k < w.heap.size → v.ownBlock ≠ some k → w'.heap[k]? = w.heap[k]?) → wpList Try.prog ops Q rest (a.put o.dst v') w') :
    wpList Try.prog ops Q (o :: rest) a (w.alloc (.cells #[.int .i64 kd, vf, vr] 48)) :=
  wpList_plain hg fun _ hK' => wp_appN1 s x T hop hT B hi v ns kd vf vr fs row hown hf hr hD hs hx hlen hbel hB fun v' w' h1 h2 h3 => hK' _ _ (hK v' w' h1 h2 h3)
theorem step_appN1 {D : Prop} {w w0 : World} {ops : Array Oper} {o : Oper} {a : Act} {K : Act → World → Prop} {Q : Exit → Act → World → Prop} {E : Prop}
    (hg : o.guard = none) (s x : Operand) (T : TypeId) (hop : o.op = Op.call { callee := Callee.builtin Builtin.append, args := #[s, x], argTypes := #[T, T] })
    (hT : Try.prog.underlying T = some (.slice 48)) (B hi : Nat) (v : Value) (ns : List Nd) (kd : Int) (vf vr : Value) (fs row : List Int)
    (hown : PR D w B hi v ns) (hf : OI w B vf fs) (hr : OI w B vr row) (hD : Apart D hi vf vr) (hs : a.eval s = v) (hx : a.eval x = .slice (some ⟨w.heap.size, 0, none⟩) 1 1)
    (hlen : ns.length < 1099511627775) (hbel : Below B w0 w) (hB : B ≤ w.heap.size)
    (hK : ∀ v' w', PR D w' B w'.heap.size v' (ns ++ [⟨kd, fs, row⟩]) → Below B w0 w' → (∀ k, k < w.heap.size → v.ownBlock ≠ some k → w'.heap[k]? = w.heap[k]?) → K (a.put o.dst v') w') :
    if Region.wanted o (yielded ops a.tmps) = true then Oper.wp Try.prog o a (w.alloc (.cells #[.int .i64 kd, vf, vr] 48)) K Q else E := by
  have hw : Region.wanted o (yielded ops a.tmps) = true := by simp [Region.wanted, hg]
  rw [if_pos hw]
  exact wp_appN1 s x T hop hT B hi v ns kd vf vr fs row hown hf hr hD hs hx hlen hbel hB hK

/-- Owned cells of nodes whose rows read as told read as nodes. -/
theorem pl_of {w : World} {lo : Nat} {v : Value} {ns : List Nd} {U : Nat → Value} (h : w.ownsRow lo 48 3 v ns.length (cellsN ns U)) (hr : ∀ r, r < 2 * ns.length → RR w w.heap.size (U r) (rowN ns r)) : PL w w.heap.size v ns := by
  rcases id h.2 with ⟨rfl, hn⟩ | ⟨g, cap, cur, rfl, hg, hh, h2, h3, _⟩
  · exact ⟨none, 0, by rw [hn], by omega, by unfold maxLen; omega, Nat.le_refl _, fun i hi => by omega⟩
  · refine ⟨_, cap, rfl, h2, h3, Nat.le_refl _, fun i hi => ⟨g, 0, U (2 * i), U (2 * i + 1), rfl, (Array.getElem?_eq_some_iff.1 hh).1, ?_, ?_, ?_, ?_, ?_⟩⟩
    · rw [Nat.zero_add, World.ownsRow.cellAt h _ (by omega), cellsN_at (by omega), cN_0]
    · rw [Nat.zero_add, World.ownsRow.cellAt h _ (by omega), cellsN_at (by omega), cN_1]
    · rw [Nat.zero_add, World.ownsRow.cellAt h _ (by omega), cellsN_at (by omega), cN_2]
    · rw [← rowN_0]; exact hr _ (by omega)
    · rw [← rowN_1]; exact hr _ (by omega)

/-- `append(v, node)`, the node's rows not the call's own: what it then reads as. -/
theorem wp_appN1r {D : Prop} {w w0 : World} {o : Oper} {a : Act} {K : Act → World → Prop} {Q : Exit → Act → World → Prop}
    (s x : Operand) (T : TypeId) (hop : o.op = Op.call { callee := Callee.builtin Builtin.append, args := #[s, x], argTypes := #[T, T] })
    (hT : Try.prog.underlying T = some (.slice 48)) (B hi : Nat) (v : Value) (ns : List Nd) (kd : Int) (vf vr : Value) (fs row : List Int)
    (hown : PR D w B hi v ns) (hf : RR w B vf fs) (hr : RR w B vr row) (hs : a.eval s = v) (hx : a.eval x = .slice (some ⟨w.heap.size, 0, none⟩) 1 1)
    (hlen : ns.length < 1099511627775) (hbel : Below B w0 w) (hB : B ≤ w.heap.size)
    (hK : ∀ v' w', PL w' w'.heap.size v' (ns ++ [⟨kd, fs, row⟩]) → Below B w0 w' → (∀ k, k < w.heap.size → v.ownBlock ≠ some k → w'.heap[k]? = w.heap[k]?) → K (a.put o.dst v') w') :
    o.wp Try.prog a (w.alloc (.cells #[.int .i64 kd, vf, vr] 48)) K Q := by
  obtain ⟨h0, U, own, h1, h2, h3⟩ := hown
  have hfo : vf.oneCell' = true := by obtain ⟨a, c, rfl, -⟩ := hf; rfl
  have hro : vr.oneCell' = true := by obtain ⟨a, c, rfl, -⟩ := hr; rfl
  refine wp_appN (w := w.alloc (.cells #[.int .i64 kd, vf, vr] 48)) s x T hop hT B v ns [⟨kd, fs, row⟩] U (fun r => if r = 0 then vf else vr) (World.ownsRow.alloc h1 _) hs ⟨w.heap.size, 0, none⟩ 1 hx ?_ ?_ (by simp; omega) (hbel.alloc hB _) (by simp; omega) ?_
  · intro j hj
    have hb : (w.alloc (.cells #[.int .i64 kd, vf, vr] 48)).heap[w.heap.size]? = some (.cells #[.int .i64 kd, vf, vr] 48 (0, 0)) := heap_alloc_new w _
    simp at hj
    rw [Addr.add_lit, Nat.zero_add, cell_of_row _ w.heap.size j _ _ _ hb]
    rcases (show j = 0 ∨ j = 1 ∨ j = 2 by omega) with rfl | rfl | rfl <;> simp [cN]
  · intro r _
    show (if r = 0 then vf else vr).oneCell' = true
    split
    · exact hfo
    · exact hro
  · intro v' w' ho hb hgr
    have hm : ∀ {u : Value} {ys : List Int}, RR w B u ys → RR w' w'.heap.size u ys := fun {u ys} h => by
      have hm1 : Mod B w.heap.size w w' := (Mod.alloc w (.cells #[.int .i64 kd, vf, vr] 48)).zero.trans (Mod.of_grown hgr fun k hk => World.ownsRow.lt h1 k hk)
      exact (h.mod hm1 (.inl (Nat.le_refl _))).rl.rr
    refine (hK v' w' (pl_of ho fun r hr' => ?_) hb (fun k hk hne => (hgr.block k (by simp; omega) (fun e => hne e.symm)).trans (heap_alloc_old w _ hk)))
    rw [rowN_app]
    rw [List.length_append] at hr'
    by_cases e : r < 2 * ns.length
    · simp only [if_pos e]
      exact (((h3 r e).1.alloc _).kept hgr fun k hk e => node_OI_ne h1 (h3 r (by assumption)).1 k hk e).rl.rr
    · simp only [if_neg e]
      simp at hr'
      rcases (show r - 2 * ns.length = 0 ∨ r - 2 * ns.length = 1 by omega) with e2 | e2
      · rw [e2]; exact hm hf
      · rw [e2]; exact hm hr
theorem appN1r {D : Prop} {w w0 : World} {ops : Array Oper} {rest : List Oper} {o : Oper} {a : Act} {Q : Exit → Act → World → Prop}
    (hg : o.guard = none) (s x : Operand) (T : TypeId) (hop : o.op = Op.call { callee := Callee.builtin Builtin.append, args := #[s, x], argTypes := #[T, T] })
    (hT : Try.prog.underlying T = some (.slice 48)) (B hi : Nat) (v : Value) (ns : List Nd) (kd : Int) (vf vr : Value) (fs row : List Int)
    (hown : PR D w B hi v ns) (hf : RR w B vf fs) (hr : RR w B vr row) (hs : a.eval s = v) (hx : a.eval x = .slice (some ⟨w.heap.size, 0, none⟩) 1 1)
    (hlen : ns.length < 1099511627775) (hbel : Below B w0 w) (hB : B ≤ w.heap.size)
    (hK : ∀ v' w', PL w' w'.heap.size v' (ns ++ [⟨kd, fs, row⟩]) → Below B w0 w' → (∀ k, k < w.heap.size → v.ownBlock ≠ some k → w'.heap[k]? = w.heap[k]?) → wpList Try.prog ops Q rest (a.put o.dst v') w') :
    wpList Try.prog ops Q (o :: rest) a (w.alloc (.cells #[.int .i64 kd, vf, vr] 48)) :=
  wpList_plain hg fun _ hK' => wp_appN1r s x T hop hT B hi v ns kd vf vr fs row hown hf hr hs hx hlen hbel hB fun v' w' h1 h2 h3 => hK' _ _ (hK v' w' h1 h2 h3)
theorem step_appN1r {D : Prop} {w w0 : World} {ops : Array Oper} {o : Oper} {a : Act} {K : Act → World → Prop} {Q : Exit → Act → World → Prop} {E : Prop}
    (hg : o.guard = none) (s x : Operand) (T : TypeId) (hop : o.op = Op.call { callee := Callee.builtin Builtin.append, args := #[s, x], argTypes := #[T, T] })
    (hT : Try.prog.underlying T = some (.slice 48)) (B hi : Nat) (v : Value) (ns : List Nd) (kd : Int) (vf vr : Value) (fs row : List Int)
    (hown : PR D w B hi v ns) (hf : RR w B vf fs) (hr : RR w B vr row) (hs : a.eval s = v) (hx : a.eval x = .slice (some ⟨w.heap.size, 0, none⟩) 1 1)
    (hlen : ns.length < 1099511627775) (hbel : Below B w0 w) (hB : B ≤ w.heap.size)
    (hK : ∀ v' w', PL w' w'.heap.size v' (ns ++ [⟨kd, fs, row⟩]) → Below B w0 w' → (∀ k, k < w.heap.size → v.ownBlock ≠ some k → w'.heap[k]? = w.heap[k]?) → K (a.put o.dst v') w') :
    if Region.wanted o (yielded ops a.tmps) = true then Oper.wp Try.prog o a (w.alloc (.cells #[.int .i64 kd, vf, vr] 48)) K Q else E := by
  have hw : Region.wanted o (yielded ops a.tmps) = true := by simp [Region.wanted, hg]
  rw [if_pos hw]
  exact wp_appN1r s x T hop hT B hi v ns kd vf vr fs row hown hf hr hs hx hlen hbel hB hK

/-- `append(v, u...)`, `u` a plan with rows of the call's own. -/
theorem wp_appNs {w w0 : World} {o : Oper} {a : Act} {K : Act → World → Prop} {Q : Exit → Act → World → Prop}
    (s x : Operand) (T : TypeId) (hop : o.op = Op.call { callee := Callee.builtin Builtin.append, args := #[s, x], argTypes := #[T, T] })
    (hT : Try.prog.underlying T = some (.slice 48)) (B hi hi' : Nat) (v u : Value) (ns ms : List Nd)
    (hown : PR False w B hi v ns) (g c : Nat) (hug : u = .slice (some ⟨g, 0, none⟩) ms.length c) (hu : PR False w B hi' u ms) (hs : a.eval s = v) (hx : a.eval x = u)
    (hlen : ns.length + ms.length < 1099511627775) (hbel : Below B w0 w) (hB : B ≤ w.heap.size)
    (hK : ∀ v' w', PR False w' B w'.heap.size v' (ns ++ ms) → Below B w0 w' → (∀ k, k < w.heap.size → v.ownBlock ≠ some k → w'.heap[k]? = w.heap[k]?) → K (a.put o.dst v') w') :
    o.wp Try.prog a w K Q := by
  subst hug
  obtain ⟨h0, U, own, h1, h2, h3⟩ := hown
  obtain ⟨k0, V, own2, k1, k2, k3⟩ := hu
  refine wp_appN s x T hop hT B v ns ms U V h1 hs ⟨g, 0, none⟩ c hx ?_ ?_ (by omega) hbel hB ?_
  · intro j hj
    rw [Addr.add_lit, Nat.zero_add, World.ownsRow.cellAt k1 _ hj, cellsN_at hj]
  · intro r hr
    obtain ⟨a, c, e, -⟩ := (k3 r hr).1.rl
    rw [e]; rfl
  · intro v' w' ho hb hgr
    exact (hK v' w' (PR.app (D := False) (own := own) h1 h3 h0 (fun r hr => (k3 r hr).1) (fun h => h.elim) ho hgr) hb (fun k hk hne => hgr.block k hk (fun e => hne e.symm)))
theorem appNs {w w0 : World} {ops : Array Oper} {rest : List Oper} {o : Oper} {a : Act} {Q : Exit → Act → World → Prop}
    (hg : o.guard = none) (s x : Operand) (T : TypeId) (hop : o.op = Op.call { callee := Callee.builtin Builtin.append, args := #[s, x], argTypes := #[T, T] })
    (hT : Try.prog.underlying T = some (.slice 48)) (B hi hi' : Nat) (v u : Value) (ns ms : List Nd)
    (hown : PR False w B hi v ns) (g c : Nat) (hug : u = .slice (some ⟨g, 0, none⟩) ms.length c) (hu : PR False w B hi' u ms) (hs : a.eval s = v) (hx : a.eval x = u)
    (hlen : ns.length + ms.length < 1099511627775) (hbel : Below B w0 w) (hB : B ≤ w.heap.size)
    (hK : ∀ v' w', PR False w' B w'.heap.size v' (ns ++ ms) → Below B w0 w' → (∀ k, k < w.heap.size → v.ownBlock ≠ some k → w'.heap[k]? = w.heap[k]?) → wpList Try.prog ops Q rest (a.put o.dst v') w') :
    wpList Try.prog ops Q (o :: rest) a w :=
  wpList_plain hg fun _ hK' => wp_appNs s x T hop hT B hi hi' v u ns ms hown g c hug hu hs hx hlen hbel hB fun v' w' h1 h2 h3 => hK' _ _ (hK v' w' h1 h2 h3)
theorem step_appNs {w w0 : World} {ops : Array Oper} {o : Oper} {a : Act} {K : Act → World → Prop} {Q : Exit → Act → World → Prop} {E : Prop}
    (hg : o.guard = none) (s x : Operand) (T : TypeId) (hop : o.op = Op.call { callee := Callee.builtin Builtin.append, args := #[s, x], argTypes := #[T, T] })
    (hT : Try.prog.underlying T = some (.slice 48)) (B hi hi' : Nat) (v u : Value) (ns ms : List Nd)
    (hown : PR False w B hi v ns) (g c : Nat) (hug : u = .slice (some ⟨g, 0, none⟩) ms.length c) (hu : PR False w B hi' u ms) (hs : a.eval s = v) (hx : a.eval x = u)
    (hlen : ns.length + ms.length < 1099511627775) (hbel : Below B w0 w) (hB : B ≤ w.heap.size)
    (hK : ∀ v' w', PR False w' B w'.heap.size v' (ns ++ ms) → Below B w0 w' → (∀ k, k < w.heap.size → v.ownBlock ≠ some k → w'.heap[k]? = w.heap[k]?) → K (a.put o.dst v') w') :
    if Region.wanted o (yielded ops a.tmps) = true then Oper.wp Try.prog o a w K Q else E := by
  have hw : Region.wanted o (yielded ops a.tmps) = true := by simp [Region.wanted, hg]
  rw [if_pos hw]
  exact wp_appNs s x T hop hT B hi hi' v u ns ms hown g c hug hu hs hx hlen hbel hB hK
/-- `append(v, u...)`, `v` an empty plan of the call's newest blocks, `u` a plan of the call's own, maybe older. -/
theorem wp_appNs0 {w w0 : World} {o : Oper} {a : Act} {K : Act → World → Prop} {Q : Exit → Act → World → Prop}
    (s x : Operand) (T : TypeId) (hop : o.op = Op.call { callee := Callee.builtin Builtin.append, args := #[s, x], argTypes := #[T, T] })
    (hT : Try.prog.underlying T = some (.slice 48)) (B C hi hi' : Nat) (v u : Value) (ms : List Nd)
    (hown : PR False w C hi v []) (g c : Nat) (hug : u = .slice (some ⟨g, 0, none⟩) ms.length c) (hu : PR False w B hi' u ms) (hBC : B ≤ C) (hs : a.eval s = v) (hx : a.eval x = u)
    (hlen : ms.length < 1099511627775) (hbel : Below C w0 w) (hB : C ≤ w.heap.size)
    (hK : ∀ v' w', PR False w' B w'.heap.size v' ms → (∀ k, v'.ownBlock = some k → C ≤ k) → Below C w0 w' → K (a.put o.dst v') w') :
    o.wp Try.prog a w K Q := by
  subst hug
  obtain ⟨h0, U, own, h1, h2, h3⟩ := hown
  obtain ⟨k0, V, own2, k1, k2, k3⟩ := hu
  refine wp_appN s x T hop hT C v [] ms U V h1 hs ⟨g, 0, none⟩ c hx ?_ ?_ (by simp; omega) hbel hB ?_
  · intro j hj
    rw [Addr.add_lit, Nat.zero_add, World.ownsRow.cellAt k1 _ hj, cellsN_at hj]
  · intro r hr
    obtain ⟨a, c, e, -⟩ := (k3 r hr).1.rl
    rw [e]; rfl
  · intro v' w' ho hb hgr
    refine hK v' w' ?_ (fun k hk => (World.ownsRow.lt ho k hk).1) hb
    exact PR.app (D := False) (lo := B) (hi := w.heap.size) (ns := []) (ms := ms) (U := U) (V := V) (own := own) (w := w) (ownsRow_base h1 hBC) (fun r hr => by simp at hr) (Nat.le_refl _) (fun r hr => (k3 r hr).1) (fun h => h.elim) (ownsRow_base ho hBC) hgr
theorem appNs0 {w w0 : World} {ops : Array Oper} {rest : List Oper} {o : Oper} {a : Act} {Q : Exit → Act → World → Prop}
    (hg : o.guard = none) (s x : Operand) (T : TypeId) (hop : o.op = Op.call { callee := Callee.builtin Builtin.append, args := #[s, x], argTypes := #[T, T] })
    (hT : Try.prog.underlying T = some (.slice 48)) (B C hi hi' : Nat) (v u : Value) (ms : List Nd)
    (hown : PR False w C hi v []) (g c : Nat) (hug : u = .slice (some ⟨g, 0, none⟩) ms.length c) (hu : PR False w B hi' u ms) (hBC : B ≤ C) (hs : a.eval s = v) (hx : a.eval x = u)
    (hlen : ms.length < 1099511627775) (hbel : Below C w0 w) (hB : C ≤ w.heap.size)
    (hK : ∀ v' w', PR False w' B w'.heap.size v' ms → (∀ k, v'.ownBlock = some k → C ≤ k) → Below C w0 w' → wpList Try.prog ops Q rest (a.put o.dst v') w') :
    wpList Try.prog ops Q (o :: rest) a w :=
  wpList_plain hg fun _ hK' => wp_appNs0 s x T hop hT B C hi hi' v u ms hown g c hug hu hBC hs hx hlen hbel hB fun v' w' h1 h2 h3 => hK' _ _ (hK v' w' h1 h2 h3)
end Go.Proofs.Yteelobokjidphaa
