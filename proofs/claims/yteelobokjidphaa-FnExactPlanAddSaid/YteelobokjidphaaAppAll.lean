/- The walk's law for an append of a whole slice of numbers. No condition but the lengths' bound. -/
import Derived.Test.YteelobokjidphaaBase
import Derived.Maps.AppendAt
namespace Go.Proofs.Yteelobokjidphaa
open Go.RowKit

theorem run_append_empty {P : Program} (w : World) (base : Nat) (t ty e : TypeId) (i : TypeInfo) (size : Nat) (ht : P.underlying t = some (.slice e)) (hi : P.info? e = some i)
    (v : Value) (n c : Nat) (xs : List Value) (hown : w.ownsRow base e size v n xs) :
    (Builtin.append_ #[t, t] ty #[v, .slice none 0 c]).run P w = .ok v w := by
  rcases hown.2 with ⟨rfl, rfl⟩ | ⟨g, cap, cur, rfl, _, _, hnc, _⟩
  · simp [Builtin.append_, run_underlying ht, sizeOf, typeInfo, hi, Builtin.lenOf, Builtin.firstCells]
  · simp [Builtin.append_, run_underlying ht, sizeOf, typeInfo, hi, Builtin.lenOf, Builtin.firstCells, hnc, storeCells]

/-- `append(v, u...)`, `v` the call's own, `u` whatever slice of numbers. -/
theorem wp_appAll {w w0 : World} {o : Oper} {a : Act} {K : Act → World → Prop} {Q : Exit → Act → World → Prop}
    (s x : Operand) (T : TypeId) (hop : o.op = Op.call { callee := Callee.builtin Builtin.append, args := #[s, x], argTypes := #[T, T] })
    (hT : Try.prog.underlying T = some (.slice 3)) (B : Nat) (v u : Value) (xs ys : List Int) (hown : OI w B v xs) (hrl : RL w u ys) (hs : a.eval s = v) (hx : a.eval x = u)
    (hlen : xs.length + ys.length < 1099511627776) (hbel : Below B w0 w) (hB : B ≤ w.heap.size)
    (hK : ∀ v' w', OI w' B v' (xs ++ ys) → Below B w0 w' → w.grownBy w' v.ownBlock → K (a.put o.dst v') w') :
    o.wp Try.prog a w K Q := by
  obtain ⟨i0, hi, hz0, hz1, hz2⟩ := info_parts infoInt
  obtain ⟨ad, c, rfl, h1, h2, h3⟩ := hrl
  cases ad with
  | none =>
    have hy : ys = [] := by
      cases ys with
      | nil => rfl
      | cons y r => obtain ⟨b, o, e, _⟩ := h3 0 (by simp); cases e
    subst hy
    have hr := run_append_empty (P := Try.prog) w B T o.type 3 i0 1 hT hi v xs.length c (xs.map (Value.int .i64)) hown
    unfold Oper.wp execOp
    simp only [hop, resolve, invoke, builtin, Sem.run_bind, Sem.run_pure, Result.andThen_ok, List.map_toArray, List.map_cons, List.map_nil, hs, hx, hr, List.length_nil]
    exact hK v w (by simpa using hown) hbel (World.grownBy.refl _ _)
  | some ad =>
    refine wp_append_own _ s x T hop B 3 i0 (.int .i64 0) 1 8 hT hi hz0 hz1 hz2 rfl (by decide) v xs.length (xs.map (Value.int .i64)) hs hown
      ad ys.length c (ys.map (Value.int .i64)) hx (by simp) ?_ (ints_oneCell _ _) (by unfold maxLen; omega) (by omega) hB ?_
    · intro j q hj
      have hlt : j < ys.length := by
        have := (List.getElem?_eq_some_iff.1 hj).1
        simpa using this
      obtain ⟨b, o, e, _, hc⟩ := h3 j hlt
      obtain rfl := Option.some.inj e
      rw [Addr.add_lit, hc]
      simp [hlt] at hj ⊢
      exact hj
    · intro v' w1 ho hgr _
      refine hK v' w1 ?_ ?_ hgr
      · unfold OI
        simpa using ho
      · exact hbel.grown hgr hB fun k hk => (OI.lt hown k hk).1

theorem appAll {w w0 : World} {ops : Array Oper} {rest : List Oper} {o : Oper} {a : Act} {Q : Exit → Act → World → Prop}
    (hg : o.guard = none) (s x : Operand) (T : TypeId) (hop : o.op = Op.call { callee := Callee.builtin Builtin.append, args := #[s, x], argTypes := #[T, T] })
    (hT : Try.prog.underlying T = some (.slice 3)) (B : Nat) (v u : Value) (xs ys : List Int) (hown : OI w B v xs) (hrl : RL w u ys) (hs : a.eval s = v) (hx : a.eval x = u)
    (hlen : xs.length + ys.length < 1099511627776) (hbel : Below B w0 w) (hB : B ≤ w.heap.size)
    (hK : ∀ v' w', OI w' B v' (xs ++ ys) → Below B w0 w' → w.grownBy w' v.ownBlock → wpList Try.prog ops Q rest (a.put o.dst v') w') :
    wpList Try.prog ops Q (o :: rest) a w :=
  wpList_plain hg fun _ hK' => wp_appAll s x T hop hT B v u xs ys hown hrl hs hx hlen hbel hB fun v' w' h1 h2 h3 => hK' _ _ (hK v' w' h1 h2 h3)

/-- `append(v, u...)`, `v` the call's own, `u` whatever slice of numbers. -/
theorem wp_appAllL {w w0 : World} {o : Oper} {a : Act} {K : Act → World → Prop} {Q : Exit → Act → World → Prop}
    (s x : Operand) (T : TypeId) (hop : o.op = Op.call { callee := Callee.builtin Builtin.append, args := #[s, x], argTypes := #[T, T] })
    (hT : Try.prog.underlying T = some (.slice 3)) (B : Nat) (v u : Value) (xs ys : List Int) (hown : OI w B v xs) (hrl : RL w u ys) (hs : a.eval s = v) (hx : a.eval x = u)
    (hlen : xs.length + ys.length < 1099511627776) (hbel : Below B w0 w) (hB : B ≤ w.heap.size)
    (hK : ∀ v' w', OI w' B v' (xs ++ ys) → Below B w0 w' → w.grownBy w' v.ownBlock → (v'.ownBlock = v.ownBlock ∨ v'.ownBlock = some w.heap.size) → K (a.put o.dst v') w') :
    o.wp Try.prog a w K Q := by
  obtain ⟨i0, hi, hz0, hz1, hz2⟩ := info_parts infoInt
  obtain ⟨ad, c, rfl, h1, h2, h3⟩ := hrl
  cases ad with
  | none =>
    have hy : ys = [] := by
      cases ys with
      | nil => rfl
      | cons y r => obtain ⟨b, o, e, _⟩ := h3 0 (by simp); cases e
    subst hy
    have hr := run_append_empty (P := Try.prog) w B T o.type 3 i0 1 hT hi v xs.length c (xs.map (Value.int .i64)) hown
    unfold Oper.wp execOp
    simp only [hop, resolve, invoke, builtin, Sem.run_bind, Sem.run_pure, Result.andThen_ok, List.map_toArray, List.map_cons, List.map_nil, hs, hx, hr, List.length_nil]
    exact hK v w (by simpa using hown) hbel (World.grownBy.refl _ _) (.inl rfl)
  | some ad =>
    obtain ⟨v', w', hr, q2, q3, -, q5⟩ := run_append_own_at (P := Try.prog) w B T o.type 3 i0 (.int .i64 0) 1 8 hT hi hz0 hz1 hz2 rfl (by decide) v xs.length (xs.map (Value.int .i64)) hown
      ad ys.length c (ys.map (Value.int .i64)) (by simp) (fun j q hj => by
        have hlt : j < ys.length := by
          have := (List.getElem?_eq_some_iff.1 hj).1
          simpa using this
        obtain ⟨b, o, e, _, hc⟩ := h3 j hlt
        obtain rfl := Option.some.inj e
        rw [Addr.add_lit, hc]
        simp [hlt] at hj ⊢
        exact hj) (ints_oneCell _ _) (by unfold maxLen; omega) (by omega) hB
    unfold Oper.wp execOp
    simp only [hop, resolve, invoke, builtin, Sem.run_bind, Sem.run_pure, Result.andThen_ok, List.map_toArray, List.map_cons, List.map_nil, hs, hx, hr]
    refine hK v' w' ?_ (hbel.grown q3 hB fun k hk => (OI.lt hown k hk).1) q3 q5
    unfold OI
    simpa using q2
theorem step_appAllL {w w0 : World} {ops : Array Oper} {o : Oper} {a : Act} {K : Act → World → Prop} {Q : Exit → Act → World → Prop} {E : Prop}
    (hg : o.guard = none) (s x : Operand) (T : TypeId) (hop : o.op = Op.call { callee := Callee.builtin Builtin.append, args := #[s, x], argTypes := #[T, T] })
    (hT : Try.prog.underlying T = some (.slice 3)) (B : Nat) (v u : Value) (xs ys : List Int) (hown : OI w B v xs) (hrl : RL w u ys) (hs : a.eval s = v) (hx : a.eval x = u)
    (hlen : xs.length + ys.length < 1099511627776) (hbel : Below B w0 w) (hB : B ≤ w.heap.size)
    (hK : ∀ v' w', OI w' B v' (xs ++ ys) → Below B w0 w' → w.grownBy w' v.ownBlock → (v'.ownBlock = v.ownBlock ∨ v'.ownBlock = some w.heap.size) → K (a.put o.dst v') w') :
    if Region.wanted o (yielded ops a.tmps) = true then Oper.wp Try.prog o a w K Q else E := by
  have hw : Region.wanted o (yielded ops a.tmps) = true := by simp [Region.wanted, hg]
  rw [if_pos hw]
  exact wp_appAllL s x T hop hT B v u xs ys hown hrl hs hx hlen hbel hB hK
end Go.Proofs.Yteelobokjidphaa
