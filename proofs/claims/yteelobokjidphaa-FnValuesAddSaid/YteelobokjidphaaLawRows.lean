/- The contracts of the statements' own helpers over slices of rows: size, copy, compare, mark. No condition. -/
import Derived.Test.YteelobokjidphaaGrid
import Derived.Test.YteelobokjidphaaLawInt
import Derived.Deep.RegionHeld3
namespace Go.Proofs.Yteelobokjidphaa
open Go.RowKit
set_option maxRecDepth 100000

/-- `make([][]int, n)`. -/
theorem wp_mkV {w w0 : World} {o : Oper} {a : Act} {K : Act → World → Prop} {Q : Exit → Act → World → Prop}
    (l c : Operand) (T : TypeId) (hop : o.op = Op.makeSlice T l c)
    (hT : Try.prog.underlying T = some (.slice 24)) (B n : Nat) (L C : Int) (hl : a.eval l = .int .i64 L) (hc : a.eval c = .int .i64 C) (hL : L = (n : Int)) (hC : C = (n : Int))
    (hlen : n < 1099511627776) (hbel : Below B w0 w) (hB : B ≤ w.heap.size)
    (hK : ∀ v' w', OV w' B v' (List.replicate n (.slice none 0 0)) → v' = .slice (some ⟨w.heap.size, 0, none⟩) n n → Below B w0 w' → w.grownBy w' none → K (a.put o.dst v') w') :
    o.wp Try.prog a w K Q := by
  obtain ⟨i0, hi, hz0, hz1, hz2⟩ := info_parts infoRow
  obtain ⟨w', hrun, ho, hgr⟩ := run_make_full (P := Try.prog) w B T 24 i0 (.slice none 0 0) 1 hT hi hz0 hz1 .i64 .i64 n (by rw [hz2]; omega) (by unfold maxLen; omega) hB
  subst hL
  subst hC
  unfold Oper.wp
  simp [execOp, hop, hl, hc, hrun, Result.andThen]
  refine hK _ w' ?_ rfl (hbel.grown hgr hB (by simp)) hgr
  unfold OV
  rw [Nat.mul_one] at ho
  have e : (madeCells (Value.slice none 0 0).cells n).toList = List.replicate n (Value.slice none 0 0) := toList_madeCells_one _ _
  rw [e] at ho
  simpa using ho
theorem mkV {w w0 : World} {ops : Array Oper} {rest : List Oper} {o : Oper} {a : Act} {Q : Exit → Act → World → Prop}
    (hg : o.guard = none) (l c : Operand) (T : TypeId) (hop : o.op = Op.makeSlice T l c)
    (hT : Try.prog.underlying T = some (.slice 24)) (B n : Nat) (L C : Int) (hl : a.eval l = .int .i64 L) (hc : a.eval c = .int .i64 C) (hL : L = (n : Int)) (hC : C = (n : Int))
    (hlen : n < 1099511627776) (hbel : Below B w0 w) (hB : B ≤ w.heap.size)
    (hK : ∀ v' w', OV w' B v' (List.replicate n (.slice none 0 0)) → v' = .slice (some ⟨w.heap.size, 0, none⟩) n n → Below B w0 w' → w.grownBy w' none → wpList Try.prog ops Q rest (a.put o.dst v') w') :
    wpList Try.prog ops Q (o :: rest) a w :=
  wpList_plain hg fun _ hK' => wp_mkV l c T hop hT B n L C hl hc hL hC hlen hbel hB fun v' w' h1 h2 h3 h4 => hK' _ _ (hK v' w' h1 h2 h3 h4)

/-- A grid each row of which has a block of its own. -/
def GridD (w : World) (B : Nat) (o : Value) (xss : List (List Int)) : Prop :=
  ∃ vs : List Value, vs.length = xss.length ∧ OV w B o vs ∧ (∀ i, i < vs.length → OI w B (vs.getD i undef) (xss.getD i [])) ∧
    ∀ i j b, i < vs.length → j < vs.length → i ≠ j → (vs.getD i undef).ownBlock = some b → (vs.getD j undef).ownBlock ≠ some b
theorem GridD.grid {w : World} {B : Nat} {o : Value} {xss : List (List Int)} (h : GridD w B o xss) : Grid w B o xss := by
  obtain ⟨vs, h1, h2, h3, -⟩ := h
  exact ⟨vs, h1, h2, h3⟩
theorem GridD.mod {w w' : World} {B A C : Nat} {o : Value} {xss : List (List Int)} (h : GridD w B o xss) (hm : Mod A C w w') (hC : C ≤ B) : GridD w' B o xss := by
  obtain ⟨vs, h1, h2, h3, h4⟩ := h
  exact ⟨vs, h1, h2.mod hm hC, fun i hi => (h3 i hi).mod hm hC, h4⟩

/-- The first k rows; behind them empty ones. -/
def part (xss : List (List Int)) (k : Nat) : List (List Int) := (List.range xss.length).map fun i => if i < k then xss.getD i [] else []
theorem part_length (xss : List (List Int)) (k : Nat) : (part xss k).length = xss.length := by simp [part]
theorem part_zero (xss : List (List Int)) : part xss 0 = List.replicate xss.length [] := by
  refine List.ext_getElem (by simp [part]) fun i h1 h2 => ?_
  simp [part]
theorem part_all (xss : List (List Int)) : part xss xss.length = xss := by
  refine List.ext_getElem (by simp [part]) fun i h1 h2 => ?_
  simp [part, h2]
theorem part_set (xss : List (List Int)) (k : Nat) : (part xss k).set k (xss.getD k []) = part xss (k + 1) := by
  refine List.ext_getElem (by simp [part]) fun i h1 h2 => ?_
  have hi : i < xss.length := by simpa [part] using h2
  rw [List.getElem_set]
  by_cases e : k = i
  · subst e; simp [part, hi]
  · rw [if_neg e]
    simp only [part, List.getElem_map, List.getElem_range]
    by_cases e2 : i < k
    · rw [if_pos e2, if_pos (by omega)]
    · rw [if_neg e2, if_neg (by omega)]

/-- A row in newer memory is laid into the grid. -/
theorem GridD.put {w1 w2 : World} {B g n c : Nat} {u : Value} {xss : List (List Int)} {xs : List Int} (h : GridD w1 B (.slice (some ⟨g, 0, none⟩) n c) xss) (hb : Below w1.heap.size w1 w2) (hB : B ≤ w1.heap.size)
    (hu : OI w2 w1.heap.size u xs) (i : Nat) : GridD (w2.setCell ⟨g, i, none⟩ u) B (.slice (some ⟨g, 0, none⟩) n c) (xss.set i xs) := by
  have hlt : ∀ (vs : List Value), (∀ i, i < vs.length → OI w1 B (vs.getD i undef) (xss.getD i [])) → ∀ j, j < vs.length → ∀ b, (vs.getD j undef).ownBlock = some b → b < w1.heap.size := fun vs h3 j hj b hb' => ((h3 j hj).lt b hb').2
  obtain ⟨vs, h1, h2, h3, h4⟩ := h
  replace hlt := hlt vs h3
  have m := Mod.of_below hb
  replace h2 := h2.mod m (Nat.zero_le _)
  replace h3 := fun i hi => (h3 i hi).mod m (Nat.zero_le _)
  have kept : ∀ {v : Value} {ys : List Int} {C : Nat}, OI w2 C v ys → OI (w2.setCell ⟨g, i, none⟩ u) C v ys := fun h => h.kept (gset (World.grownBy.refl w2 (some g)) i u) fun k hk e => OV_OI_ne h2 h k hk e
  refine ⟨vs.set i u, by simp [h1], h2.set i u, fun j hj => ?_, fun j k b hj hk hne => ?_⟩
  · have hj' : j < vs.length := by simpa using hj
    by_cases e : i = j
    · subst e
      have e1 : (vs.set i u).getD i undef = u := by simp [hj']
      have e2 : (xss.set i xs).getD i [] = xs := by simp [show i < xss.length by omega]
      rw [e1, e2]
      exact (kept hu).base hB
    · have e1 : (vs.set i u).getD j undef = vs.getD j undef := by simp [e]
      have e2 : (xss.set i xs).getD j [] = xss.getD j [] := by simp [e]
      rw [e1, e2]
      exact kept (h3 j hj')
  · have hj' : j < vs.length := by simpa using hj
    have hk' : k < vs.length := by simpa using hk
    by_cases e : i = j
    · subst e
      have e1 : (vs.set i u).getD i undef = u := by simp [hj']
      have e2 : (vs.set i u).getD k undef = vs.getD k undef := by simp [hne]
      rw [e1, e2]
      intro h5 h6
      have := (hu.lt b h5).1
      have := hlt k hk' b h6
      omega
    · have e1 : (vs.set i u).getD j undef = vs.getD j undef := by simp [e]
      rw [e1]
      by_cases e' : i = k
      · subst e'
        have e2 : (vs.set i u).getD i undef = u := by simp [hk']
        rw [e2]
        intro h5 h6
        have := (hu.lt b h6).1
        have := hlt j hj' b h5
        omega
      · have e2 : (vs.set i u).getD k undef = vs.getD k undef := by simp [e']
        rw [e2]
        exact h4 j k b hj' hk' hne

/-- What `make` has made. -/
theorem GridD.made {w : World} {B : Nat} {v : Value} {xss : List (List Int)} (h : OV w B v (List.replicate xss.length (.slice none 0 0))) : GridD w B v (part xss 0) := by
  rw [part_zero]
  refine ⟨_, by simp, h, fun i hi => ?_, fun i j b hi hj _ hb => ?_⟩
  · simp at hi
    simp [hi, OI.nil]
  · simp at hi
    simp [hi, Value.ownBlock] at hb

set_option maxHeartbeats 1000000 in
theorem toRows_any (v : Value) (xss : List (List Int)) (hi : Nat) (w : World) (h : RS w hi v xss) (hlen : xss.length ≤ 1048576) (hl : ∀ i, (xss.getD i []).length ≤ 1048576) :
    Calls Try.prog 33 #[v] w (fun e w' => ∃ vo, e = .returned vo ∧ GridD w' w.heap.size vo xss ∧ Below w.heap.size w w') := by
  obtain ⟨a, c, rfl, h1, h2, h3, h4⟩ := h
  unfold maxLen at h2
  have H4 := hid h4
  clear h4
  go_enter Try.func33, Try.ntmps33
  go_wp2_with (at_make; refine mkV rfl _ _ 34 rfl Try.underlying34 w.heap.size xss.length _ _ rfl rfl rfl rfl (by omega) (Below.refl _ _) (Nat.le_refl _) ?_; intro v' w1 ho rfl hbel _)
  go_loopw [4] (fun i wr => ∃ k : Nat, k ≤ xss.length ∧ i = .int .i64 k ∧ GridD wr w.heap.size (.slice (some ⟨w.heap.size, 0, none⟩) xss.length xss.length) (part xss k) ∧ Below w.heap.size w wr)
    (fun i _ => xss.length - (intOf i).toNat)
  case atStart => exact ⟨0, Nat.zero_le _, rfl, GridD.made ho, hbel⟩
  case round =>
    clear ho hbel
    obtain ⟨k, hk, rfl, ho, hbel⟩ := hrel
    by_cases hlt : k < xss.length
    · obtain ⟨b, of, u, rfl, hbs, hc, hr⟩ := H4.out k hlt
      rw [← hbel.cell (p := ⟨b, of + k, none⟩) (Nat.lt_of_lt_of_le hbs h3)] at hc
      replace hr := hr.mod (Mod.of_below hbel) (.inr (Nat.zero_le _))
      have hll := hl k
      obtain ⟨xs, hxs⟩ : ∃ xs, xs = xss.getD k [] := ⟨_, rfl⟩
      rw [← hxs] at hr hll
      have HXS := hid hxs
      clear hxs
      go_wp2_with fail
      refine (toInt_any _ _ _ hr.rl hll).mono ?_
      rintro e w2 ⟨vo, rfl, hvo, hb2⟩
      obtain ⟨ao, co, rfl, -⟩ := id hvo.rl
      obtain ⟨vs, q1, q2, -⟩ := ho.mod (Mod.of_below hb2) (Nat.zero_le _)
      have hvl : k < vs.length := by rw [q1, part_length]; exact hlt
      obtain ⟨hcell, hfroz⟩ := OV.cell q2 hvl
      have HP := hid (ho.put hb2 hbel.size hvo k)
      clear q1 q2 hvl
      go_wp2
      go_roundw
      case rel =>
        refine ⟨k + 1, by omega, by go_num, ?_, ((Mod.of_below hb2).below0 hbel hbel.size).setCell (Nat.le_refl _) _⟩
        rw [← part_set, ← HXS.out]
        exact HP.out
      case measure => simp [intOf]; omega
    · go_wp2
      go_ret
      obtain rfl : k = xss.length := by omega
      exact ⟨_, rfl, by rw [part_all] at ho; exact ho, hbel⟩

/-- How many numbers fit: what the exact statements ask first. -/
def Fits (left : Int) (xss : List (List Int)) (n : Int) : Prop := 0 ≤ n → xss.length ≤ left ∧ ∀ i, i < xss.length → ((xss.getD i []).length : Int) ≤ left
set_option maxHeartbeats 1000000 in
theorem szRows_any (v : Value) (xss : List (List Int)) (hi : Nat) (left : Int) (w : World) (h : RS w hi v xss) (h0 : 0 ≤ left) (h1 : left ≤ 1048576) :
    Calls Try.prog 31 #[v, .int .i64 left] w (fun e w' => ∃ n, e = .returned (.int .i64 n) ∧ Fits left xss n ∧ w = w') := by
  obtain ⟨a, c, rfl, h2, h3, hsz, h4⟩ := h
  unfold maxLen at h3
  have H4 := hid h4
  clear h4
  have e1 : IntKind.i64.wrap (left - (xss.length : Int)) = left - xss.length := IntWalk.i64_in _ (by omega)
  by_cases hle : (xss.length : Int) ≤ left
  · have hn : ¬ (left - (xss.length : Int) < 0) := by omega
    go_enter Try.func31, Try.ntmps31
    go_wp2_with fail
    go_loop [1, 5] (fun q i => ∃ k : Nat, k ≤ xss.length ∧ i = .int .i64 k ∧ ∃ n : Int, q = .int .i64 n ∧ 0 ≤ n ∧ n ≤ left ∧ ∀ i, i < k → ((xss.getD i []).length : Int) ≤ left) (fun _ i => xss.length - (intOf i).toNat)
    case atStart => exact ⟨0, Nat.zero_le _, rfl, _, rfl, by omega, by omega, fun i hi => by omega⟩
    case round =>
      obtain ⟨k, hk, rfl, n, rfl, hn0, hn1, hall⟩ := hrel
      by_cases hlt : k < xss.length
      · obtain ⟨b, o, u, rfl, hb, hc, hr⟩ := H4.out k hlt
        obtain ⟨xs, hxs⟩ : ∃ xs, xs = xss.getD k [] := ⟨_, rfl⟩
        rw [← hxs] at hr
        have HXS := hid hxs
        have HALL := hid hall
        clear hxs hall
        go_wp2_with fail
        refine (szInt_any _ xs n w hr.rl hn0 (by omega)).mono ?_
        rintro e _ ⟨rfl, rfl⟩
        by_cases hle2 : (xs.length : Int) ≤ n
        · rw [if_pos hle2]
          have hn2 : ¬ (n - (xs.length : Int) < 0) := by omega
          go_wp2_with fail
          go_round
          case rel =>
            refine ⟨k + 1, by omega, by go_num, _, rfl, by omega, by omega, fun i hi => ?_⟩
            by_cases e : i = k
            · subst e; rw [← HXS.out]; omega
            · exact HALL.out i (by omega)
          case measure => simp [intOf]; omega
        · rw [if_neg hle2]
          go_wp2_with fail
          go_ret
          exact ⟨_, rfl, fun h => by omega, rfl⟩
      · obtain rfl : k = xss.length := by omega
        have HALL := hid hall
        clear hall
        go_wp2_with fail
        go_ret
        exact ⟨_, rfl, fun _ => ⟨hle, HALL.out⟩, rfl⟩
  · have hn : left - (xss.length : Int) < 0 := by omega
    go_enter Try.func31, Try.ntmps31
    go_wp2_with fail
    go_ret
    exact ⟨_, rfl, fun h => by omega, rfl⟩

set_option maxHeartbeats 1000000 in
/-- Equal rows are told equal. -/
theorem eqRows_any (v u : Value) (xss : List (List Int)) (hi hi' : Nat) (w : World) (h : RS w hi v xss) (h' : RS w hi' u xss) :
    Calls Try.prog 28 #[v, u] w fun e w' => e = .returned (.bool true) ∧ Mod 0 0 w w' := by
  obtain ⟨a, c, rfl, h1, h2, hs, h3⟩ := h
  obtain ⟨a', c', rfl, h1', h2', hs', h3'⟩ := h'
  unfold maxLen at h2 h2'
  have H3 := hid h3
  have H3' := hid h3'
  clear h3 h3'
  go_enter Try.func28, Try.ntmps28
  go_wp2_with fail
  go_loopw [5] (fun i wr => ∃ k : Nat, k ≤ xss.length ∧ i = .int .i64 k ∧ Mod 0 0 w wr) (fun i _ => xss.length - (intOf i).toNat)
  case atStart => exact ⟨0, Nat.zero_le _, rfl, Mod.refl _ _ _⟩
  case round =>
    obtain ⟨k, hk, rfl, hm⟩ := hrel
    by_cases hlt : k < xss.length
    · obtain ⟨b, o, y, rfl, hb, hc, hr⟩ := H3.out k hlt
      obtain ⟨b', o', y', rfl, hb', hc', hr'⟩ := H3'.out k hlt
      have c1 := World.cell?_of_block (a := ⟨b, o + k, none⟩) (hm.block b (Nat.lt_of_lt_of_le hb hs) (.inr (Nat.zero_le _)))
      have c2 := World.cell?_of_block (a := ⟨b', o' + k, none⟩) (hm.block b' (Nat.lt_of_lt_of_le hb' hs') (.inr (Nat.zero_le _)))
      replace hc := c1.trans hc
      replace hc' := c2.trans hc'
      replace hr := hr.mod hm (.inr (Nat.zero_le _))
      replace hr' := hr'.mod hm (.inr (Nat.zero_le _))
      clear c1 c2
      generalize xss.getD k [] = xs at hr hr'
      have hk0 : (0 : Int) ≤ (k : Int) := by omega
      have hk1 : (k : Int) < (xss.length : Int) := by omega
      have hbs := Nat.lt_of_lt_of_le (Nat.lt_of_lt_of_le hb hs) hm.size
      have hbs' := Nat.lt_of_lt_of_le (Nat.lt_of_lt_of_le hb' hs') hm.size
      go_wp2_with fail
      go_region_held3 (fun w' => w'.cell? ⟨b, o + k, none⟩ = some y ∧ w'.cell? ⟨b', o' + k, none⟩ = some y') (first | go_keep | (go_split_ands; exact ⟨(World.cell?_of_block (a := ⟨b, o + k, none⟩) (hm5.block b hbs (.inr (Nat.zero_le _)))).trans hc, (World.cell?_of_block (a := ⟨b', o' + k, none⟩) (hm5.block b' hbs' (.inr (Nat.zero_le _)))).trans hc'⟩))
        ((go_at_call 21; refine (eqInt_m _ _ xs xs wr.drew hr.rl hr'.rl).mono ?_; rintro e w5 ⟨rfl, hm5⟩; rw [sameB_self]))
      go_wp2_with fail
      go_roundw
      case rel => exact ⟨k + 1, by omega, by go_num, hm.trans ((Mod.drewN _ 1).trans hm5)⟩
      case measure => simp [intOf]; omega
    · go_wp2_with fail
      go_ret
      exact ⟨rfl, hm⟩

/-- A grid in the blocks from lo to hi. -/
def GridR (w : World) (lo hi : Nat) (o : Value) (xss : List (List Int)) : Prop :=
  ∃ vs : List Value, vs.length = xss.length ∧ (OV w lo o vs ∧ ∀ k, o.ownBlock = some k → k < hi) ∧ (∀ i, i < vs.length → OR w lo hi (vs.getD i undef) (xss.getD i [])) ∧
    ∀ i j b, i < vs.length → j < vs.length → i ≠ j → (vs.getD i undef).ownBlock = some b → (vs.getD j undef).ownBlock ≠ some b
theorem OV.modR {w w' : World} {lo hi A B : Nat} {v : Value} {vs : List Value} (h : OV w lo v vs) (hk : ∀ k, v.ownBlock = some k → k < hi) (hm : Mod A B w w') (hA : hi ≤ A ∨ B ≤ lo) : OV w' lo v vs := by
  obtain ⟨h1, h2⟩ := h
  refine ⟨h1, ?_⟩
  rcases h2 with h2 | ⟨g, cap, cur, rfl, hg, hh, r⟩
  · exact .inl h2
  · have hgh := hk g rfl
    exact .inr ⟨g, cap, cur, rfl, hg, by rw [hm.block g (Array.getElem?_eq_some_iff.1 hh).1 (by omega)]; exact hh, r⟩
theorem GridR.mod {w w' : World} {lo hi A C : Nat} {o : Value} {xss : List (List Int)} (h : GridR w lo hi o xss) (hm : Mod A C w w') (hA : hi ≤ A ∨ C ≤ lo) : GridR w' lo hi o xss := by
  obtain ⟨vs, h1, ⟨h2, h2'⟩, h3, h4⟩ := h
  exact ⟨vs, h1, ⟨h2.modR h2' hm hA, h2'⟩, fun i hi => (h3 i hi).mod hm hA, h4⟩
theorem GridD.r {w : World} {B : Nat} {o : Value} {xss : List (List Int)} (h : GridD w B o xss) : GridR w B w.heap.size o xss := by
  obtain ⟨vs, h1, h2, h3, h4⟩ := h
  exact ⟨vs, h1, ⟨h2, fun k hk => (h2.lt k hk).2⟩, fun i hi => (h3 i hi).r, h4⟩
theorem GridR.rs {w : World} {lo hi : Nat} {o : Value} {xss : List (List Int)} (h : GridR w lo hi o xss) : RS w w.heap.size o xss := by
  obtain ⟨vs, h1, h2, h3, -⟩ := h
  exact h2.1.rs h1 rfl fun i hi => (h3 i hi).rl.rr

set_option maxHeartbeats 1000000 in
/-- The marks: what the rows then hold is not told. -/
theorem markRows_any (v : Value) (xss : List (List Int)) (k : Int) (lo hi : Nat) (w : World) (h : GridR w lo hi v xss) (h0 : 0 ≤ k) (h1 : k ≤ 1048576) (hn : xss.length ≤ 1048576) (hl : ∀ i, (xss.getD i []).length ≤ 1048576) :
    Calls Try.prog 29 #[v, .int .i64 k] w fun e w' => ∃ r : Int, e = .returned (.int .i64 r) ∧ 0 ≤ r ∧ r ≤ k + (xss.length : Int) * 1048576 ∧ Mod lo hi w w' := by
  obtain ⟨vs, q1, ⟨q2, -⟩, q3', q4⟩ := h
  have q3 := fun i hi => (q3' i hi).1
  have hlt : ∀ j, j < vs.length → ∀ b, (vs.getD j undef).ownBlock = some b → lo ≤ b ∧ b < hi := fun j hj b hb' => ⟨((q3' j hj).1.lt b hb').1, (q3' j hj).2.2 b hb'⟩
  obtain ⟨a, c, rfl, h2, h3⟩ := q2.shape
  have Q1 := hid q1
  have Q3 := hid q3
  have Q4 := hid q4
  have HLT := hid hlt
  clear q3 q3' q4 hlt
  rw [q1] at h2 q2 ⊢
  clear q1
  go_enter Try.func29, Try.ntmps29
  go_wp2_with fail
  go_loopw [1, 5] (fun q i wr => ∃ j : Nat, j ≤ xss.length ∧ i = .int .i64 j ∧ (∃ r : Int, q = .int .i64 r ∧ 0 ≤ r ∧ r ≤ k + (j : Int) * 1048576) ∧ Mod lo hi w wr ∧ OV wr lo (.slice a xss.length c) vs ∧
    ∀ i, i < vs.length → ∃ ys, ys.length = (xss.getD i []).length ∧ OI wr lo (vs.getD i undef) ys) (fun _ i _ => xss.length - (intOf i).toNat)
  case atStart => exact ⟨0, Nat.zero_le _, rfl, ⟨k, rfl, h0, by omega⟩, Mod.refl _ _ _, q2, fun i hi => ⟨_, rfl, Q3.out i hi⟩⟩
  case round =>
    clear q2
    obtain ⟨j, hj, rfl, ⟨r, rfl, hr0, hr1⟩, hm, hov, hall⟩ := hrel
    by_cases hlt : j < xss.length
    · have hjv : j < vs.length := by rw [Q1.out]; exact hlt
      obtain ⟨ys, hyl, hoi⟩ := hall j hjv
      obtain ⟨g, c', e', hg1, hg2, -⟩ := hov.at hjv
      simp only [Value.slice.injEq] at e'
      obtain ⟨rfl, -, rfl⟩ := e'
      have hcell := (OV.cell hov hjv).1
      have HALL := hid hall
      have hll := hl j
      clear hall
      obtain ⟨u, hu⟩ : ∃ u, u = vs.getD j undef := ⟨_, rfl⟩
      rw [← hu] at hcell hoi
      have HU := hid hu
      have HYL := hid hyl
      have hys : ys.length ≤ 1048576 := by omega
      clear hu hyl
      go_wp2_with fail
      refine (markInt_any _ ys r lo wr hoi hr0 (by omega) hys).mono ?_
      rintro e w2 ⟨rfl, ho2, hg⟩
      go_wp2_with fail
      go_roundw
      case rel =>
        have hm2 : Mod lo hi wr w2 := Mod.of_grown hg fun b hb => HLT.out j hjv b (by rw [← HU.out]; exact hb)
        refine ⟨j + 1, by omega, by go_num, ⟨_, rfl, by omega, ?_⟩, hm.trans hm2, ?_, fun i hi => ?_⟩
        · simp only [Int.natCast_add, Int.add_mul]; omega
        · obtain ⟨p1, p2⟩ := hov
          refine ⟨p1, ?_⟩
          rcases p2 with p2 | ⟨g', cap, cur, e', hg', hh, p⟩
          · exact .inl p2
          · refine .inr ⟨g', cap, cur, e', hg', ?_, p⟩
            rw [hg.block g' (Array.getElem?_eq_some_iff.1 hh).1 (fun e2 => ?_)]
            · exact hh
            · rcases hoi.2 with ⟨e3, _⟩ | ⟨g3, cap3, cur3, e3, _, hh3, _⟩
              · rw [e3] at e2; cases e2
              · rw [e3] at e2
                simp [Value.ownBlock] at e2
                subst e2
                rw [hh3] at hh
                simp at hh
        · by_cases e : i = j
          · subst e
            rw [← HU.out]
            exact ⟨_, by rw [marks_length, HYL.out], ho2⟩
          · obtain ⟨zs, hz1, hz2⟩ := HALL.out i hi
            exact ⟨zs, hz1, hz2.kept hg fun b hb e2 => by rw [HU.out] at e2; exact Q4.out j i b hjv hi (fun e' => e e'.symm) e2 hb⟩
      case measure => simp [intOf]; omega
    · obtain rfl : j = xss.length := by omega
      go_wp2_with fail
      go_ret
      exact ⟨r, rfl, hr0, hr1, hm⟩
end Go.Proofs.Yteelobokjidphaa
