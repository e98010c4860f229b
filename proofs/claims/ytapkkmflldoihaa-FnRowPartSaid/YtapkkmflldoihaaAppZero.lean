/- The walk's law for an append of a made slice of zeros ('append(v, make([]int, n)...)'). No condition but the lengths' bound. -/
import Derived.Test.YtapkkmflldoihaaAppAll
namespace Go.Proofs.Ytapkkmflldoihaa
open Go.RowKit

theorem zeroCells_int (n : Nat) : (Builtin.zeroCells #[Value.int .i64 0] n).toList = (List.replicate n (0 : Int)).map (Value.int .i64) := by
  rw [List.map_replicate]
  refine List.ext_getElem (by simp [Builtin.zeroCells]) fun i h1 h2 => ?_
  simp [Builtin.zeroCells, Nat.mod_one]

theorem run_append_zeros (w : World) (B : Nat) (v : Value) (xs : List Int) (n : Nat) (T ty : TypeId) (hT : Try.prog.underlying T = some (.slice 3)) (hown : OI w B v xs) (hn : 0 < n) (hn1 : n ≤ 1000) (hlen : xs.length < 1099511627776) (hB : B ≤ w.heap.size) :
    ∃ v' w', (Builtin.append_ #[T, 3] ty #[v, .int .i64 (n : Int)]).run Try.prog w = .ok v' w' ∧ OI w' B v' (xs ++ List.replicate n 0) ∧ w.grownBy w' v.ownBlock := by
  obtain ⟨i0, hi, hz0, hz1, hz2⟩ := info_parts infoInt
  have hu := Try.underlying3
  have hwr : IntKind.i64.wrap (n : Int) = (n : Int) := IntWalk.i64_in _ (by omega)
  have hneg : ¬ ((n : Int) < 0) := by omega
  have h48 : ¬ (281474976710656 < (n : Int) * 8) := by omega
  have hn0 : ¬ n = 0 := by omega
  have hmax : max (n : Int) 0 = n := by omega
  have hcl : (Value.int .i64 0).cells = #[.int .i64 0] := rfl
  have hzl := zeroCells_int n
  -- what a new row leaves
  have grown : ∀ cap, cap < xs.length + n → ∀ row,
      OI (w.drew.alloc (.cells ((xs.map (Value.int .i64)).toArray ++ (Builtin.zeroCells #[.int .i64 0] n ++ Builtin.zeroCells #[.int .i64 0] (grownCap w (xs.length + n) cap 3 - (xs.length + n)))) 3)) B
        (.slice (some ⟨w.heap.size, 0, none⟩) (xs.length + n) (grownCap w (xs.length + n) cap 3)) (xs ++ List.replicate n 0) ∧
      w.grownBy (w.drew.alloc (.cells ((xs.map (Value.int .i64)).toArray ++ (Builtin.zeroCells #[.int .i64 0] n ++ Builtin.zeroCells #[.int .i64 0] (grownCap w (xs.length + n) cap 3 - (xs.length + n)))) 3)) row := by
    intro cap _ row
    have hge := grownCap_ge w (xs.length + n) cap 3
    have hcm : grownCap w (xs.length + n) cap 3 ≤ maxLen := grownCap_le_maxLen w (xs.length + n) cap 3 (by unfold maxLen; omega)
    refine ⟨⟨by simp, .inr ⟨w.heap.size, _, _, ?_, hB, heap_alloc_new w.drew _, ?_, hcm, ?_, ?_⟩⟩, ⟨rfl, rfl, rfl, by simp, fun k hk _ => heap_alloc_old w.drew _ hk⟩⟩
    · simp
    · simpa using hge
    · simp only [Array.size_append, List.size_toArray, List.length_map, size_zeroCells]
      simp
      omega
    · simp only [Array.toList_append, hzl, List.length_append, List.length_replicate, List.map_append]
      rw [← List.append_assoc, ← List.map_append]
      rw [List.take_append_of_le_length (by simp)]
      rw [List.take_of_length_le (by simp)]
  rcases hown.2 with ⟨rfl, hx⟩ | ⟨g, cap, cur, rfl, hbg, hg, hnc, hcm, hcs, htake⟩
  · have hx0 : xs = [] := List.eq_nil_of_length_eq_zero hx
    subst hx0
    have h63' : ¬ (9223372036854775807 < (n : Int)) := by omega
    have h48' : ¬ (281474976710656 < Builtin.nextslicecap n 0 * 8) := by rw [nextslicecap_zero hn]; omega
    have hgr := grown 0 (by simpa using hn) (Value.ownBlock (.slice none 0 0))
    simp only [List.length_nil, Nat.zero_add, List.nil_append, List.map_nil, Array.empty_append] at hgr ⊢
    refine ⟨_, _, ?_, hgr.1, hgr.2⟩
    simp [Builtin.append_, run_underlying hT, run_underlying hu, sizeOf, typeInfo, zeroValue, hi, hz0, hz1, hz2, h63', h48', Question.forced, run_firstCells_none, newRow, grownCap, hwr, hneg, h48, hn0, hmax, asInt, asIntOf, hcl]
  · by_cases hroom : xs.length + n ≤ cap
    · have hst := run_storeCells_at Try.prog g xs.length 3 ((List.replicate n (0 : Int)).map (Value.int .i64)) 0 cur w hg (by simp; omega) (ints_oneCell _ _)
      simp only [Nat.add_zero, ← hzl] at hst
      refine ⟨.slice (some ⟨g, 0, none⟩) (xs.length + n) cap, w.setRow g (List.take xs.length cur.toList ++ ((Builtin.zeroCells #[Value.int .i64 0] n).toList ++ List.drop (xs.length + (Builtin.zeroCells #[Value.int .i64 0] n).size) cur.toList)).toArray, ?_, ?_, ?_⟩
      · simp [Builtin.append_, run_underlying hT, run_underlying hu, sizeOf, typeInfo, zeroValue, hi, hz0, hz1, hz2, hroom, Question.forced, hwr, hneg, h48, hn0, asInt, asIntOf, hcl, Addr.add_lit, hst]
      · have hts : (Builtin.zeroCells #[Value.int .i64 0] n).size = n := by rw [size_zeroCells]; simp
        refine ⟨by simp, .inr ⟨g, cap, _, by simp, hbg, setRow_heap w g cur _ 3 _ hg, by simpa using hroom, hcm, ?_, ?_⟩⟩
        · simp only [List.size_toArray, List.length_append, List.length_take, List.length_drop, Array.length_toList, hts]
          omega
        · rw [Nat.mul_one] at htake
          rw [htake, hzl, ← List.append_assoc, ← List.map_append, List.take_append_of_le_length (by simp), List.take_of_length_le (by simp)]
      · exact ⟨rfl, rfl, rfl, by simp, fun k _ hk => setRow_other w g k _ (fun e => hk (by simp [Value.ownBlock, e]))⟩
    · have h63' : ¬ (9223372036854775807 < ((xs.length : Int) + (n : Int))) := by omega
      have h48' : ¬ (281474976710656 < Builtin.nextslicecap (xs.length + n) cap * 8) := by
        have := growslice_fits (need := xs.length + n) (old := cap) (bytes := 8) (by omega) (by omega)
        omega
      have hfo := run_firstCells_some (P := Try.prog) w.drew 1 xs.length ⟨g, 0, none⟩ xs.length cap (xs.map (Value.int .i64)) (by simp) (by simpa using (World.ownsRow.cells hown (g := g) rfl))
      have hgr := grown cap (by omega) (Value.ownBlock (.slice (some ⟨g, 0, none⟩) xs.length cap))
      refine ⟨_, _, ?_, hgr.1, hgr.2⟩
      simp [Builtin.append_, run_underlying hT, run_underlying hu, sizeOf, typeInfo, zeroValue, hi, hz0, hz1, hz2, hroom, h63', h48', Question.forced, hfo, newRow, grownCap, hwr, hneg, h48, hn0, hmax, asInt, asIntOf, hcl]

theorem wp_appZero {w w0 : World} {o : Oper} {a : Act} {K : Act → World → Prop} {Q : Exit → Act → World → Prop}
    (s x : Operand) (T : TypeId) (hop : o.op = Op.call { callee := Callee.builtin Builtin.append, args := #[s, x], argTypes := #[T, 3] })
    (hT : Try.prog.underlying T = some (.slice 3)) (B : Nat) (v : Value) (xs : List Int) (n : Nat)
    (hown : OI w B v xs) (hs : a.eval s = v) (hx : a.eval x = .int .i64 (n : Int)) (hn : 0 < n) (hn1 : n ≤ 1000) (hlen : xs.length < 1099511627776) (hbel : Below B w0 w) (hB : B ≤ w.heap.size)
    (hK : ∀ v' w', OI w' B v' (xs ++ List.replicate n 0) → Below B w0 w' → w.grownBy w' v.ownBlock → K (a.put o.dst v') w') :
    o.wp Try.prog a w K Q := by
  obtain ⟨v', w', hr, h1, h2⟩ := run_append_zeros w B v xs n T o.type hT hown hn hn1 hlen hB
  unfold Oper.wp execOp
  simp only [hop, resolve, invoke, builtin, Sem.run_bind, Sem.run_pure, Result.andThen_ok, List.map_toArray, List.map_cons, List.map_nil, hs, hx, hr]
  exact hK v' w' h1 (hbel.grown h2 hB fun k hk => (OI.lt hown k hk).1) h2
end Go.Proofs.Ytapkkmflldoihaa
