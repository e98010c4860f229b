/- Base of the seat's proofs: what a slice of numbers reads as, what a call owns, the walk's laws for append, make. No condition. -/
import Derived.Test.YteelobokjidphaaProg
import Derived.WalkKit
import Derived.WalkSpells
import Derived.WalkLawsBesides
namespace Go.Proofs.Yteelobokjidphaa
open Go.RowKit

theorem hid {p : Prop} (h : p) : Hid p := h

theorem infoInt : (Try.prog.info? 3).map (fun i => (i.zero, i.size, i.bytes)) = some (some (.int .i64 0), 1, 8) := by kernel_rfl

/-- The slice value `v` reads as the numbers `xs` in `w`. -/
def RL (w : World) (v : Value) (xs : List Int) : Prop :=
  ∃ a c, v = .slice a xs.length c ∧ xs.length ≤ c ∧ c ≤ maxLen ∧
    ∀ i, i < xs.length → ∃ b o, a = some ⟨b, o, none⟩ ∧ b < w.heap.size ∧ w.cell? ⟨b, o + i, none⟩ = some (.int .i64 (xs.getD i 0))

/-- The slice value `v` owns the numbers `xs`, in a block from `B` on. -/
def OI (w : World) (B : Nat) (v : Value) (xs : List Int) : Prop := w.ownsRow B 3 1 v xs.length (xs.map (Value.int .i64))

theorem OI.rl {w : World} {B : Nat} {v : Value} {xs : List Int} (h : OI w B v xs) : RL w v xs := by
  obtain ⟨h1, h2⟩ := h
  rcases h2 with ⟨rfl, hn⟩ | ⟨g, cap, cur, rfl, hb, hh, hle, hm, hs, ht⟩
  · exact ⟨none, 0, by rw [hn], by omega, by unfold maxLen; omega, fun i hi => by omega⟩
  · refine ⟨some ⟨g, 0, none⟩, cap, rfl, hle, hm, fun i hi => ⟨g, 0, rfl, (Array.getElem?_eq_some_iff.1 hh).1, ?_⟩⟩
    have hc := World.ownsRow.cells (h := ⟨h1, .inr ⟨g, cap, cur, rfl, hb, hh, hle, hm, hs, ht⟩⟩) (g := g) rfl i (.int .i64 (xs.getD i 0)) (by simp [hi])
    rw [Addr.add_lit] at hc
    exact hc

theorem RL.below {w w' : World} {v : Value} {xs : List Int} {B : Nat} (h : RL w v xs) (hb : Below B w w') (hB : w.heap.size ≤ B) : RL w' v xs := by
  obtain ⟨a, c, rfl, h1, h2, h3⟩ := h
  refine ⟨a, c, rfl, h1, h2, fun i hi => ?_⟩
  obtain ⟨b, o, rfl, hlt, hc⟩ := h3 i hi
  exact ⟨b, o, rfl, Nat.lt_of_lt_of_le hlt hb.size, by rw [hb.cell (p := ⟨b, o + i, none⟩) (Nat.lt_of_lt_of_le hlt hB)]; exact hc⟩

theorem RL.mono {w w' : World} {v : Value} {xs : List Int} (h : RL w v xs) (hb : Below w.heap.size w w') : RL w' v xs := h.below hb (Nat.le_refl _)

theorem OI.below {w w' : World} {v : Value} {xs : List Int} {A B : Nat} (h : OI w A v xs) (hb : Below B w w') (hB : w.heap.size ≤ B) : OI w' A v xs := by
  obtain ⟨h1, h2⟩ := h
  refine ⟨h1, ?_⟩
  rcases h2 with h2 | ⟨g, cap, cur, hv, hg, hh, r⟩
  · exact .inl h2
  · exact .inr ⟨g, cap, cur, hv, hg, by rw [hb.block g (Nat.lt_of_lt_of_le (Array.getElem?_eq_some_iff.1 hh).1 hB)]; exact hh, r⟩

theorem OI.mono {w w' : World} {v : Value} {xs : List Int} {A : Nat} (h : OI w A v xs) (hb : Below w.heap.size w w') : OI w' A v xs := h.below hb (Nat.le_refl _)

theorem OI.base {w : World} {v : Value} {xs : List Int} {A B : Nat} (h : OI w A v xs) (hB : B ≤ A) : OI w B v xs := by
  obtain ⟨h1, h2⟩ := h
  refine ⟨h1, ?_⟩
  rcases h2 with h2 | ⟨g, cap, cur, hv, hg, r⟩
  · exact .inl h2
  · exact .inr ⟨g, cap, cur, hv, Nat.le_trans hB hg, r⟩

theorem OI.nil (w : World) (B : Nat) : OI w B (.slice none 0 0) [] := World.ownsRow_nil _ _ _ _

/-- A fresh empty slice of numbers that is not nil. -/
theorem OI.fresh0 (w : World) {B : Nat} (hB : B ≤ w.heap.size) : OI (w.alloc (.cells #[] 3)) B (.slice (some ⟨w.heap.size, 0, none⟩) 0 0) [] :=
  World.ownsRow_made w #[] 0 hB (by unfold maxLen; omega) rfl

theorem OI.alloc {w : World} {v : Value} {xs : List Int} {A : Nat} (h : OI w A v xs) (o : Obj) : OI (w.alloc o) A v xs := World.ownsRow.alloc h o

theorem OI.drew {w : World} {v : Value} {xs : List Int} {A : Nat} (h : OI w A v xs) : OI w.drew A v xs := h

theorem OI.lt {w : World} {v : Value} {xs : List Int} {A : Nat} (h : OI w A v xs) : ∀ k, v.ownBlock = some k → A ≤ k ∧ k < w.heap.size := World.ownsRow.lt h

theorem OI.kept {w w' : World} {v : Value} {xs : List Int} {A : Nat} {row : Option Nat} (h : OI w A v xs) (hg : w.grownBy w' row) (hne : ∀ k, v.ownBlock = some k → row ≠ some k) : OI w' A v xs := by
  refine World.ownsRow.kept h hg ?_
  cases hv : v.ownBlock with
  | none => exact .inl rfl
  | some k => exact .inr fun e => hne k hv e.symm

/-- One own cell: its address, what it holds, that it may be written. -/
theorem OI.at {w : World} {v : Value} {xs : List Int} {A : Nat} (h : OI w A v xs) {i : Nat} (hi : i < xs.length) :
    ∃ g c, v = .slice (some ⟨g, 0, none⟩) xs.length c ∧ A ≤ g ∧ g < w.heap.size ∧ xs.length ≤ c ∧ c ≤ maxLen := by
  rcases h.2 with ⟨_, hn⟩ | ⟨g, cap, cur, rfl, hg, hh, h1, h2, _⟩
  · omega
  · exact ⟨g, cap, rfl, hg, (Array.getElem?_eq_some_iff.1 hh).1, h1, h2⟩

theorem OI.cell {w : World} {xs : List Int} {A g c n : Nat} (h : OI w A (.slice (some ⟨g, 0, none⟩) n c) xs) {i : Nat} (hi : i < xs.length) :
    w.cell? ⟨g, i, none⟩ = some (.int .i64 (xs.getD i 0)) ∧ w.frozen? ⟨g, i, none⟩ = false := by
  have hn : n = xs.length := by
    rcases h.2 with ⟨hv, _⟩ | ⟨g', cap, cur, hv, _⟩
    · simp at hv
    · simp at hv; exact hv.2.1
  subst hn
  exact ⟨by rw [World.ownsRow.cellAt h i (by omega)]; simp [hi], World.ownsRow.frozenAt h i⟩

theorem OI.set {w : World} {xs : List Int} {A g c n : Nat} (h : OI w A (.slice (some ⟨g, 0, none⟩) n c) xs) (i : Nat) (x : Int) :
    OI (w.setCell ⟨g, i, none⟩ (.int .i64 x)) A (.slice (some ⟨g, 0, none⟩) n c) (xs.set i x) := by
  have hn : n = xs.length := by
    rcases h.2 with ⟨hv, _⟩ | ⟨g', cap, cur, hv, _⟩
    · simp at hv
    · simp at hv; exact hv.2.1
  subst hn
  have := World.ownsRow.stored h i (.int .i64 x)
  unfold OI
  rw [List.length_set, List.map_set]
  exact this.1

/-- `append(v, n)`, `v` the call's own. -/
theorem wp_app1 {w w0 : World} {o : Oper} {a : Act} {K : Act → World → Prop} {Q : Exit → Act → World → Prop}
    (s x : Operand) (T : TypeId) (hop : o.op = Op.call { callee := Callee.builtin Builtin.append, args := #[s, x], argTypes := #[T, T] })
    (hT : Try.prog.underlying T = some (.slice 3)) (B : Nat) (v : Value) (xs : List Int) (n : Int) (hown : OI w B v xs) (hs : a.eval s = v) (hx : a.eval x = .slice (some ⟨w.heap.size, 0, none⟩) 1 1)
    (hlen : xs.length < 1099511627776) (hbel : Below B w0 w) (hB : B ≤ w.heap.size)
    (hK : ∀ v' w', OI w' B v' (xs ++ [n]) → Below B w0 w' → w.grownBy w' v.ownBlock → K (a.put o.dst v') w') :
    o.wp Try.prog a (w.alloc (.cells #[.int .i64 n] 3)) K Q := by
  obtain ⟨i0, hi, hz0, hz1, hz2⟩ := info_parts infoInt
  refine wp_append_own _ s x T hop B 3 i0 (.int .i64 0) 1 8 hT hi hz0 hz1 hz2 rfl (by decide) v xs.length (xs.map (Value.int .i64)) hs (OI.alloc hown _)
    ⟨w.heap.size, 0, none⟩ 1 1 [.int .i64 n] hx rfl ?_ ?_ (by unfold maxLen; omega) (by omega) (by simp; omega) ?_
  · intro j u hj
    exact (cell_one_new w (.int .i64 n) 3) j u hj
  · intro u hu
    simp at hu
    subst hu
    rfl
  · intro v' w1 ho hgr _
    have hgr' : w.grownBy w1 v.ownBlock := by
      have h0 := World.grownBy_alloc w (.cells #[.int .i64 n] 3) v.ownBlock
      exact ⟨hgr.os.trans h0.os, hgr.tape.trans h0.tape, hgr.output.trans h0.output, Nat.le_trans h0.size hgr.size, fun k hk hne => (hgr.block k (Nat.lt_of_lt_of_le hk h0.size) hne).trans (h0.block k hk hne)⟩
    refine hK v' w1 ?_ ?_ hgr'
    · unfold OI
      simpa using ho
    · exact hbel.grown hgr' hB fun k hk => (OI.lt hown k hk).1

theorem app1 {w w0 : World} {ops : Array Oper} {rest : List Oper} {o : Oper} {a : Act} {Q : Exit → Act → World → Prop}
    (hg : o.guard = none) (s x : Operand) (T : TypeId) (hop : o.op = Op.call { callee := Callee.builtin Builtin.append, args := #[s, x], argTypes := #[T, T] })
    (hT : Try.prog.underlying T = some (.slice 3)) (B : Nat) (v : Value) (xs : List Int) (n : Int) (hown : OI w B v xs) (hs : a.eval s = v) (hx : a.eval x = .slice (some ⟨w.heap.size, 0, none⟩) 1 1)
    (hlen : xs.length < 1099511627776) (hbel : Below B w0 w) (hB : B ≤ w.heap.size)
    (hK : ∀ v' w', OI w' B v' (xs ++ [n]) → Below B w0 w' → w.grownBy w' v.ownBlock → wpList Try.prog ops Q rest (a.put o.dst v') w') :
    wpList Try.prog ops Q (o :: rest) a (w.alloc (.cells #[.int .i64 n] 3)) :=
  wpList_plain hg fun _ hK' => wp_app1 s x T hop hT B v xs n hown hs hx hlen hbel hB fun v' w' h1 h2 h3 => hK' _ _ (hK v' w' h1 h2 h3)

/-- The same as one step of a region that draws its order. -/
theorem step_app1 {w w0 : World} {ops : Array Oper} {o : Oper} {a : Act} {K : Act → World → Prop} {Q : Exit → Act → World → Prop} {E : Prop}
    (hg : o.guard = none) (s x : Operand) (T : TypeId) (hop : o.op = Op.call { callee := Callee.builtin Builtin.append, args := #[s, x], argTypes := #[T, T] })
    (hT : Try.prog.underlying T = some (.slice 3)) (B : Nat) (v : Value) (xs : List Int) (n : Int) (hown : OI w B v xs) (hs : a.eval s = v) (hx : a.eval x = .slice (some ⟨w.heap.size, 0, none⟩) 1 1)
    (hlen : xs.length < 1099511627776) (hbel : Below B w0 w) (hB : B ≤ w.heap.size)
    (hK : ∀ v' w', OI w' B v' (xs ++ [n]) → Below B w0 w' → w.grownBy w' v.ownBlock → K (a.put o.dst v') w') :
    if Region.wanted o (yielded ops a.tmps) = true then Oper.wp Try.prog o a (w.alloc (.cells #[.int .i64 n] 3)) K Q else E := by
  have hw : Region.wanted o (yielded ops a.tmps) = true := by simp [Region.wanted, hg]
  rw [if_pos hw]
  exact wp_app1 s x T hop hT B v xs n hown hs hx hlen hbel hB hK

/-- An operation whose guard says yes. -/
theorem wpList_guard {P : Program} {ops : Array Oper} {rest : List Oper} {o : Oper} {a : Act} {w : World} {Q : Exit → Act → World → Prop} (hw : Region.wanted o (yielded ops a.tmps) = true)
    (h : ∀ K : Act → World → Prop, (∀ a w, wpList P ops Q rest a w → K a w) → o.wp P a w K Q) : wpList P ops Q (o :: rest) a w := by
  unfold wpList
  rw [if_pos hw]
  exact .inl (h _ (fun _ _ h => h))

/-- `make([]int, n)`. -/
theorem wp_mk1 {w w0 : World} {o : Oper} {a : Act} {K : Act → World → Prop} {Q : Exit → Act → World → Prop}
    (l c : Operand) (T : TypeId) (hop : o.op = Op.makeSlice T l c)
    (hT : Try.prog.underlying T = some (.slice 3)) (B n : Nat) (L C : Int) (hl : a.eval l = .int .i64 L) (hc : a.eval c = .int .i64 C) (hL : L = (n : Int)) (hC : C = (n : Int))
    (hlen : n < 17592186044416) (hbel : Below B w0 w) (hB : B ≤ w.heap.size)
    (hK : ∀ v' w', OI w' B v' (List.replicate n 0) → v' = .slice (some ⟨w.heap.size, 0, none⟩) n n → Below B w0 w' → w.grownBy w' none → K (a.put o.dst v') w') :
    o.wp Try.prog a w K Q := by
  obtain ⟨i0, hi, hz0, hz1, hz2⟩ := info_parts infoInt
  obtain ⟨w', hrun, ho, hgr⟩ := run_make_full (P := Try.prog) w B T 3 i0 (.int .i64 0) 1 hT hi hz0 hz1 .i64 .i64 n (by rw [hz2]; omega) (by unfold maxLen; omega) hB
  subst hL
  subst hC
  unfold Oper.wp
  simp [execOp, hop, hl, hc, hrun, Result.andThen]
  refine hK _ w' ?_ rfl (hbel.grown hgr hB (by simp)) hgr
  unfold OI
  rw [Nat.mul_one] at ho
  have e : (madeCells (Value.int .i64 0).cells n).toList = (List.replicate n (0 : Int)).map (Value.int .i64) := by
    rw [List.map_replicate]; exact toList_madeCells_one _ _
  rw [e] at ho
  simpa using ho

theorem mk1 {w w0 : World} {ops : Array Oper} {rest : List Oper} {o : Oper} {a : Act} {Q : Exit → Act → World → Prop}
    (hg : o.guard = none) (l c : Operand) (T : TypeId) (hop : o.op = Op.makeSlice T l c)
    (hT : Try.prog.underlying T = some (.slice 3)) (B n : Nat) (L C : Int) (hl : a.eval l = .int .i64 L) (hc : a.eval c = .int .i64 C) (hL : L = (n : Int)) (hC : C = (n : Int))
    (hlen : n < 17592186044416) (hbel : Below B w0 w) (hB : B ≤ w.heap.size)
    (hK : ∀ v' w', OI w' B v' (List.replicate n 0) → v' = .slice (some ⟨w.heap.size, 0, none⟩) n n → Below B w0 w' → w.grownBy w' none → wpList Try.prog ops Q rest (a.put o.dst v') w') :
    wpList Try.prog ops Q (o :: rest) a w :=
  wpList_plain hg fun _ hK' => wp_mk1 l c T hop hT B n L C hl hc hL hC hlen hbel hB fun v' w' h1 h2 h3 h4 => hK' _ _ (hK v' w' h1 h2 h3 h4)

theorem gset {w w' : World} {g : Nat} (h : w.grownBy w' (some g)) (i : Nat) (u : Value) : w.grownBy (w'.setCell ⟨g, i, none⟩ u) (some g) :=
  ⟨h.os, h.tape, h.output, by simpa [World.setCell] using h.size, fun k hk hne => by rw [Below.heap_setCell _ _ _ _ (by intro e; exact hne (by rw [e]))]; exact h.block k hk hne⟩
theorem gdrew {w w' : World} {row : Option Nat} (h : w.grownBy w' row) : w.grownBy w'.drew row := ⟨h.os, h.tape, h.output, h.size, h.block⟩

/-! ### Worlds that part in new blocks, and in blocks from A to B alone -/
structure Mod (A B : Nat) (w w' : World) : Prop where
  os : w'.os = w.os
  tape : w'.tape = w.tape
  output : w'.output = w.output
  size : w.heap.size ≤ w'.heap.size
  block : ∀ k, k < w.heap.size → k < A ∨ B ≤ k → w'.heap[k]? = w.heap[k]?

theorem Mod.refl (A B : Nat) (w : World) : Mod A B w w := ⟨rfl, rfl, rfl, Nat.le_refl _, fun _ _ _ => rfl⟩
theorem Mod.trans {A B : Nat} {a b c : World} (h : Mod A B a b) (k : Mod A B b c) : Mod A B a c :=
  ⟨k.os.trans h.os, k.tape.trans h.tape, k.output.trans h.output, Nat.le_trans h.size k.size, fun i hi ho => (k.block i (Nat.lt_of_lt_of_le hi h.size) ho).trans (h.block i hi ho)⟩
theorem Mod.wide {A B A' B' : Nat} {w w' : World} (h : Mod A B w w') (hA : A' ≤ A) (hB : B ≤ B') : Mod A' B' w w' :=
  ⟨h.os, h.tape, h.output, h.size, fun k hk ho => h.block k hk (by omega)⟩
theorem Mod.zero {A B : Nat} {w w' : World} (h : Mod 0 0 w w') : Mod A B w w' := ⟨h.os, h.tape, h.output, h.size, fun k hk _ => h.block k hk (.inr (Nat.zero_le _))⟩
theorem Mod.of_below {w w' : World} (h : Below w.heap.size w w') : Mod 0 0 w w' := ⟨h.os, h.tape, h.output, h.size, fun k hk _ => h.block k hk⟩
theorem Mod.of_below' {A B : Nat} {w w' : World} (h : Below w.heap.size w w') : Mod A B w w' := ⟨h.os, h.tape, h.output, h.size, fun k hk _ => h.block k hk⟩
theorem Mod.of_grown {w w' : World} {row : Option Nat} {A B : Nat} (h : w.grownBy w' row) (hr : ∀ k, row = some k → A ≤ k ∧ k < B) : Mod A B w w' :=
  ⟨h.os, h.tape, h.output, h.size, fun k hk ho => h.block k hk (fun e => by have := hr k e.symm; omega)⟩
theorem Mod.drewN (w : World) (n : Nat) : Mod 0 0 w (w.drewN n) := ⟨rfl, rfl, rfl, Nat.le_refl _, fun _ _ _ => rfl⟩
theorem Mod.alloc (w : World) (o : Obj) : Mod 0 0 w (w.alloc o) := Mod.of_below ((Below.refl _ _).alloc (Nat.le_refl _) _)
theorem Mod.setCell {A B : Nat} {w : World} {a : Addr} (ha : A ≤ a.block) (hb : a.block < B) (u : Value) : Mod A B w (w.setCell a u) :=
  ⟨rfl, rfl, rfl, by simp [World.setCell], fun k _ ho => Below.heap_setCell _ _ _ _ (by omega)⟩
theorem Mod.below {A C B : Nat} {w0 w w' : World} (h : Mod A C w w') (hb : Below B w0 w) (hA : B ≤ A) (hB : B ≤ w.heap.size) : Below B w0 w' :=
  hb.trans ⟨h.os, h.tape, h.output, h.size, fun k hk => h.block k (Nat.lt_of_lt_of_le hk hB) (.inl (by omega))⟩
theorem Mod.below0 {B : Nat} {w0 w w' : World} (h : Mod 0 0 w w') (hb : Below B w0 w) (hB : B ≤ w.heap.size) : Below B w0 w' :=
  hb.trans ⟨h.os, h.tape, h.output, h.size, fun k hk => h.block k (Nat.lt_of_lt_of_le hk hB) (.inr (by omega))⟩

theorem Mod.then_below {A B : Nat} {w w1 w' : World} (h : Mod A B w w1) (hb : Below w.heap.size w1 w') : Mod A B w w' :=
  ⟨hb.os.trans h.os, hb.tape.trans h.tape, hb.output.trans h.output, Nat.le_trans h.size hb.size, fun k hk ho => (hb.block k hk).trans (h.block k hk ho)⟩
theorem Mod.then_below' {A B C : Nat} {w w1 w' : World} (h : Mod A B w w1) (hb : Below C w1 w') (hC : w.heap.size ≤ C) : Mod A B w w' := h.then_below (hb.mono hC)
theorem Mod.then_belowR {w w1 w' : World} (h : Mod 0 0 w w1) (hb : Below w1.heap.size w1 w') : Below w.heap.size w w' :=
  (h.below0 (Below.refl _ _) (Nat.le_refl _)).trans (hb.mono h.size)
theorem OI.mod {w w' : World} {lo A B : Nat} {v : Value} {xs : List Int} (h : OI w lo v xs) (hm : Mod A B w w') (hB : B ≤ lo) : OI w' lo v xs := by
  obtain ⟨h1, h2⟩ := h
  refine ⟨h1, ?_⟩
  rcases h2 with h2 | ⟨g, cap, cur, rfl, hg, hh, r⟩
  · exact .inl h2
  · exact .inr ⟨g, cap, cur, rfl, hg, by rw [hm.block g (Array.getElem?_eq_some_iff.1 hh).1 (by omega)]; exact hh, r⟩

/-- `v` reads as `xs`, in a block below `hi`. -/
def RR (w : World) (hi : Nat) (v : Value) (xs : List Int) : Prop :=
  ∃ a c, v = .slice a xs.length c ∧ xs.length ≤ c ∧ c ≤ maxLen ∧ hi ≤ w.heap.size ∧
    ∀ i, i < xs.length → ∃ b o, a = some ⟨b, o, none⟩ ∧ b < hi ∧ w.cell? ⟨b, o + i, none⟩ = some (.int .i64 (xs.getD i 0))
theorem RR.rl {w : World} {hi : Nat} {v : Value} {xs : List Int} (h : RR w hi v xs) : RL w v xs := by
  obtain ⟨a, c, rfl, h1, h2, h3, h4⟩ := h
  exact ⟨a, c, rfl, h1, h2, fun i hi => by obtain ⟨b, o, e, hb, hc⟩ := h4 i hi; exact ⟨b, o, e, Nat.lt_of_lt_of_le hb h3, hc⟩⟩
theorem RL.rr {w : World} {v : Value} {xs : List Int} (h : RL w v xs) : RR w w.heap.size v xs := by
  obtain ⟨a, c, rfl, h1, h2, h3⟩ := h
  exact ⟨a, c, rfl, h1, h2, Nat.le_refl _, h3⟩
theorem RR.mod {w w' : World} {hi A B : Nat} {v : Value} {xs : List Int} (h : RR w hi v xs) (hm : Mod A B w w') (hA : hi ≤ A ∨ B ≤ 0) : RR w' hi v xs := by
  obtain ⟨a, c, rfl, h1, h2, h3, h4⟩ := h
  refine ⟨a, c, rfl, h1, h2, Nat.le_trans h3 hm.size, fun i hi => ?_⟩
  obtain ⟨b, o, e, hb, hc⟩ := h4 i hi
  exact ⟨b, o, e, hb, (World.cell?_of_block (hm.block b (Nat.lt_of_lt_of_le hb h3) (by omega))).trans hc⟩

theorem bdrewN {B : Nat} {w0 w : World} (h : Below B w0 w) (n : Nat) : Below B w0 (w.drewN n) := ⟨h.os, h.tape, h.output, h.size, h.block⟩

/-- `v` owns `xs`, in a block from `lo` on and below `hi`. -/
def OR (w : World) (lo hi : Nat) (v : Value) (xs : List Int) : Prop := OI w lo v xs ∧ hi ≤ w.heap.size ∧ ∀ k, v.ownBlock = some k → k < hi
theorem OI.r {w : World} {lo : Nat} {v : Value} {xs : List Int} (h : OI w lo v xs) : OR w lo w.heap.size v xs := ⟨h, Nat.le_refl _, fun k hk => (h.lt k hk).2⟩
theorem OR.rl {w : World} {lo hi : Nat} {v : Value} {xs : List Int} (h : OR w lo hi v xs) : RL w v xs := h.1.rl
theorem OR.mod {w w' : World} {lo hi A B : Nat} {v : Value} {xs : List Int} (h : OR w lo hi v xs) (hm : Mod A B w w') (hA : hi ≤ A ∨ B ≤ lo) : OR w' lo hi v xs := by
  obtain ⟨⟨h1, h2⟩, h3, h4⟩ := h
  refine ⟨⟨h1, ?_⟩, Nat.le_trans h3 hm.size, h4⟩
  rcases h2 with h2 | ⟨g, cap, cur, rfl, hg, hh, r⟩
  · exact .inl h2
  · have := h4 g rfl
    exact .inr ⟨g, cap, cur, rfl, hg, by rw [hm.block g (Nat.lt_of_lt_of_le this h3) (by omega)]; exact hh, r⟩
/-- What a store into an owned row leaves. -/
theorem OR.of_grown {w w' : World} {lo hi : Nat} {v : Value} {xs : List Int} (h : OR w lo hi v xs) (hg : w.grownBy w' v.ownBlock) : Mod lo hi w w' :=
  Mod.of_grown hg fun k hk => ⟨(h.1.lt k hk).1, h.2.2 k hk⟩

/-- What a call leaves that hands back a slice of numbers in new memory. -/
def PostI (w : World) (xs : List Int) (e : Ending) (w' : World) : Prop := ∃ vo, e = .returned vo ∧ OI w' w.heap.size vo xs ∧ Below w.heap.size w w'
/-- .. and a bool beside it. -/
def PostIB (w : World) (xs : List Int) (ok : Bool) (e : Ending) (w' : World) : Prop := ∃ vo, e = .returned (.tuple #[vo, .bool ok]) ∧ OI w' w.heap.size vo xs ∧ Below w.heap.size w w'
end Go.Proofs.Yteelobokjidphaa
