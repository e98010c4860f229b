/- The contract of the drawing of a node. No condition. -/
import Derived.Test.YteelobokjidphaaDrawRow
import Derived.Test.YteelobokjidphaaOwn
import Derived.Test.YteelobokjidphaaPlanPure
import Derived.Test.YteelobokjidphaaAppAll
import Derived.Deep.RegionLaw
namespace Go.Proofs.Yteelobokjidphaa
open Go.RowKit
set_option maxRecDepth 100000

/-- What the drawing of a node leaves. -/
def NodeDrawn (w : World) (hi r P wide : Nat) (e : Ending) (w' : World) : Prop :=
  ∃ kd fs row vf vr, e = .returned (.agg #[.int .i64 kd, vf, vr]) ∧ OI w' w.heap.size vf fs ∧ OI w' w.heap.size vr row ∧ fs.length ≤ 2 ∧ row.length ≤ wide ∧ RD w' hi r P ∧ Mod r (r + 1) w w'

/-- The node's block as far as it is drawn. -/
def NodeAt (w : World) (hi r P bx : Nat) (kd : Int) (vf vr : Value) (fs row : List Int) (X : World) : Prop :=
  X.heap[bx]? = some (.cells #[.int .i64 kd, vf, vr] 48 (0, 0)) ∧ X.heap[w.heap.size]? = some (.cells #[.int .i64 0, .slice none 0 0, .slice none 0 0] 48 (0, 0)) ∧
    OI X w.heap.size vf fs ∧ OI X w.heap.size vr row ∧ RD X hi r P ∧ Mod r (r + 1) w X ∧ ∀ b, vf.ownBlock = some b → vr.ownBlock ≠ some b

theorem NodeAt.mod {w X X' : World} {hi r P P' bx : Nat} {kd : Int} {vf vr : Value} {fs row : List Int} (h : NodeAt w hi r P bx kd vf vr fs row X) (hm : Mod r (r + 1) X X') (hr : r < w.heap.size) (hb : w.heap.size < bx) (hrd : RD X' hi r P') : NodeAt w hi r P' bx kd vf vr fs row X' := by
  obtain ⟨h1, h2, h3, h4, h5, h6, h7⟩ := h
  exact ⟨(hm.block bx (Array.getElem?_eq_some_iff.1 h1).1 (by omega)).trans h1, (hm.block _ (Array.getElem?_eq_some_iff.1 h2).1 (by omega)).trans h2, h3.mod hm (by omega), h4.mod hm (by omega), hrd, h6.trans hm, h7⟩
theorem one_rl (w : World) (q : Int) : RL (w.alloc (.cells #[.int .i64 q] 3)) (.slice (some ⟨w.heap.size, 0, none⟩) 1 1) [q] :=
  ⟨_, 1, rfl, by simp, by unfold maxLen; omega, fun i hi => ⟨w.heap.size, 0, rfl, by simp, by
    obtain rfl : i = 0 := by simpa using hi
    rw [cell_of_row _ w.heap.size 0 _ _ _ (heap_alloc_new w _)]; rfl⟩⟩
/-- A block of one node is no block of numbers. -/
theorem one_OI_ne {w : World} {B bx : Nat} {u : Value} {xs : List Int} {cs : Array Value} (h : w.heap[bx]? = some (.cells cs 48 (0, 0))) (h' : OI w B u xs) : u.ownBlock ≠ some bx := by
  intro e
  rcases h'.2 with ⟨rfl, _⟩ | ⟨g', cap', cur', rfl, _, hh', _⟩
  · cases e
  · simp [Value.ownBlock] at e
    subst e
    rw [h] at hh'
    simp at hh'
theorem RD.hi {w : World} {hi r P : Nat} (h : RD w hi r P) : hi ≤ r := by
  obtain ⟨a, n, c, p, _, _, _, _, h5, _⟩ := h
  exact h5
/-- One of the two rows is laid into the node's block. -/
theorem NodeAt.row {w X : World} {hi r P bx : Nat} {kd : Int} {vf vr u : Value} {fs row xs : List Int} (h : NodeAt w hi r P bx kd vf vr fs row X) (hr : r < w.heap.size) (hb : w.heap.size < bx) (hu : OI X w.heap.size u xs) (hne : ∀ b, vf.ownBlock = some b → u.ownBlock ≠ some b) : NodeAt w hi r P bx kd vf u fs xs (X.setCell ⟨bx, 2, none⟩ u) := by
  obtain ⟨h1, h2, h3, h4, h5, h6, h7⟩ := h
  have hm : Mod bx (bx + 1) X (X.setCell ⟨bx, 2, none⟩ u) := Mod.setCell (a := ⟨bx, 2, none⟩) (Nat.le_refl _) (Nat.lt_succ_self _) _
  have kept : ∀ {v : Value} {ys : List Int}, OI X w.heap.size v ys → OI (X.setCell ⟨bx, 2, none⟩ u) w.heap.size v ys := fun h => h.blk fun k hk => hm.block k (h.lt k hk).2 (by have := one_OI_ne h1 h; have : k ≠ bx := fun e => this (by rw [hk, e]); omega)
  refine ⟨?_, (hm.block _ (Array.getElem?_eq_some_iff.1 h2).1 (by omega)).trans h2, kept h3, kept hu, h5.mod hm (.inl ⟨by have := h5.hi; omega, by omega⟩), h6.then_below' ((Below.refl w.heap.size X).setCell (by show w.heap.size ≤ bx; omega) u) (Nat.le_refl _), hne⟩
  simp [World.setCell, Array.getElem?_modify, h1]
theorem NodeAt.lay {w X : World} {hi r P bx : Nat} {kd : Int} {v0 vr u : Value} {row xs : List Int} (h1 : X.heap[bx]? = some (.cells #[.int .i64 kd, v0, vr] 48 (0, 0))) (h2 : X.heap[w.heap.size]? = some (.cells #[.int .i64 0, .slice none 0 0, .slice none 0 0] 48 (0, 0)))
    (h4 : OI X w.heap.size vr row) (h5 : RD X hi r P) (h6 : Mod r (r + 1) w X) (hr : r < w.heap.size) (hb : w.heap.size < bx) (hu : OI X w.heap.size u xs) (hne : ∀ b, u.ownBlock = some b → vr.ownBlock ≠ some b) : NodeAt w hi r P bx kd u vr xs row (X.setCell ⟨bx, 1, none⟩ u) := by
  have hm : Mod bx (bx + 1) X (X.setCell ⟨bx, 1, none⟩ u) := Mod.setCell (a := ⟨bx, 1, none⟩) (Nat.le_refl _) (Nat.lt_succ_self _) _
  have kept : ∀ {v : Value} {ys : List Int}, OI X w.heap.size v ys → OI (X.setCell ⟨bx, 1, none⟩ u) w.heap.size v ys := fun h => h.blk fun k hk => hm.block k (h.lt k hk).2 (by have := one_OI_ne h1 h; have : k ≠ bx := fun e => this (by rw [hk, e]); omega)
  refine ⟨?_, (hm.block _ (Array.getElem?_eq_some_iff.1 h2).1 (by omega)).trans h2, kept hu, kept h4, h5.mod hm (.inl ⟨by have := h5.hi; omega, by omega⟩), h6.then_below' ((Below.refl w.heap.size X).setCell (by show w.heap.size ≤ bx; omega) u) (Nat.le_refl _), hne⟩
  simp [World.setCell, Array.getElem?_modify, h1]
/-- The list of needs has grown. -/
theorem NodeAt.grow {w X w7 : World} {hi r P bx : Nat} {kd : Int} {vf vr v7 : Value} {fs row xs : List Int} {o : Obj} (h : NodeAt w hi r P bx kd vf vr fs row X) (hr : r < w.heap.size) (hb : w.heap.size < bx) (hg : (X.alloc o).grownBy w7 vf.ownBlock)
    (hv : OI w7 w.heap.size v7 xs) (hl : v7.ownBlock = vf.ownBlock ∨ v7.ownBlock = some (X.alloc o).heap.size) : NodeAt w hi r P bx kd v7 vr xs row (w7.setCell ⟨bx, 1, none⟩ v7) := by
  obtain ⟨h1, h2, h3, h4, h5, h6, h7⟩ := h
  have l1 := (Array.getElem?_eq_some_iff.1 h1).1
  have l2 := (Array.getElem?_eq_some_iff.1 h2).1
  have x7 := ((hg.block bx (by rw [World.size_alloc]; omega) (fun e => one_OI_ne h1 h3 e.symm)).trans (heap_alloc_old X o l1)).trans h1
  have y7 := ((hg.block _ (by rw [World.size_alloc]; omega) (fun e => one_OI_ne h2 h3 e.symm)).trans (heap_alloc_old X o l2)).trans h2
  have r7 := (h4.alloc o).kept hg (fun k hk e => h7 k e hk)
  have g7 : Mod w.heap.size X.heap.size (X.alloc o) w7 := Mod.of_grown hg fun k hk => h3.lt k hk
  have d7 := (h5.mod (Mod.alloc X o) (.inr rfl)).mod g7 (.inl ⟨by have := h5.hi; omega, .inl hr⟩)
  have m7 : Mod r (r + 1) w w7 := h6.then_below' (((Below.refl w.heap.size X).alloc h6.size o).grown hg (Nat.le_trans h6.size (by simp)) fun k hk => (h3.lt k hk).1) (Nat.le_refl _)
  refine NodeAt.lay x7 y7 r7 d7 m7 hr hb hv fun b h8 h9 => ?_
  rcases hl with e | e
  · exact h7 b (by rw [← e]; exact h8) h9
  · have e2 := Option.some.inj (e.symm.trans h8)
    have := (h4.lt b h9).2
    simp at e2
    omega
/-- The node is handed back. -/
theorem NodeAt.done {w X : World} {hi r P bx : Nat} {kd : Int} {vf vr a b c : Value} {fs row : List Int} (h : NodeAt w hi r P bx kd vf vr fs row X) (hr : r < w.heap.size) :
    OI (((X.setCell ⟨w.heap.size, 0, none⟩ a).setCell ⟨w.heap.size, 1, none⟩ b).setCell ⟨w.heap.size, 2, none⟩ c) w.heap.size vf fs ∧ OI (((X.setCell ⟨w.heap.size, 0, none⟩ a).setCell ⟨w.heap.size, 1, none⟩ b).setCell ⟨w.heap.size, 2, none⟩ c) w.heap.size vr row ∧
      RD (((X.setCell ⟨w.heap.size, 0, none⟩ a).setCell ⟨w.heap.size, 1, none⟩ b).setCell ⟨w.heap.size, 2, none⟩ c) hi r P ∧ Mod r (r + 1) w (((X.setCell ⟨w.heap.size, 0, none⟩ a).setCell ⟨w.heap.size, 1, none⟩ b).setCell ⟨w.heap.size, 2, none⟩ c) := by
  obtain ⟨h1, h2, h3, h4, h5, h6, h7⟩ := h
  have hm : Mod w.heap.size (w.heap.size + 1) X (((X.setCell ⟨w.heap.size, 0, none⟩ a).setCell ⟨w.heap.size, 1, none⟩ b).setCell ⟨w.heap.size, 2, none⟩ c) :=
    ((Mod.setCell (a := ⟨w.heap.size, 0, none⟩) (Nat.le_refl _) (Nat.lt_succ_self _) _).trans (Mod.setCell (a := ⟨w.heap.size, 1, none⟩) (Nat.le_refl _) (Nat.lt_succ_self _) _)).trans (Mod.setCell (a := ⟨w.heap.size, 2, none⟩) (Nat.le_refl _) (Nat.lt_succ_self _) _)
  have kept : ∀ {v : Value} {ys : List Int}, OI X w.heap.size v ys → OI (((X.setCell ⟨w.heap.size, 0, none⟩ a).setCell ⟨w.heap.size, 1, none⟩ b).setCell ⟨w.heap.size, 2, none⟩ c) w.heap.size v ys := fun h => h.blk fun k hk => hm.block k (h.lt k hk).2 (by have := one_OI_ne h2 h; have : k ≠ w.heap.size := fun e => this (by rw [hk, e]); omega)
  exact ⟨kept h3, kept h4, h5.mod hm (.inl ⟨by have := h5.hi; omega, by omega⟩), h6.then_below' ((((Below.refl w.heap.size X).setCell (Nat.le_refl _) _).setCell (Nat.le_refl _) _).setCell (Nat.le_refl _) _) (Nat.le_refl _)⟩
/-- The start: a node with two empty rows. -/
theorem NodeAt.start {w w1 : World} {hi r P : Nat} (kd : Int) (hs : w.heap.size + 1 ≤ w1.heap.size) (hY : w1.heap[w.heap.size]? = some (.cells #[.int .i64 0, .slice none 0 0, .slice none 0 0] 48 (0, 0))) (hrd : RD w1 hi r P) (hm : Mod r (r + 1) w w1) :
    NodeAt w hi r P (w1.heap.size + 1 + 1) kd (.slice (some ⟨w1.heap.size, 0, none⟩) 0 0) (.slice (some ⟨w1.heap.size + 1, 0, none⟩) 0 0) [] [] (((w1.alloc (.cells #[] 3)).alloc (.cells #[] 3)).alloc (.cells #[.int .i64 kd, .slice (some ⟨w1.heap.size, 0, none⟩) 0 0, .slice (some ⟨w1.heap.size + 1, 0, none⟩) 0 0] 48)) := by
  have hB : w.heap.size ≤ w1.heap.size := by omega
  have m2 := (Mod.alloc w1 (.cells #[] 3)).trans (Mod.alloc (w1.alloc (.cells #[] 3)) (.cells #[] 3))
  refine ⟨?_, ?_, ?_, ?_, hrd.mod (m2.trans (Mod.alloc _ _)) (.inr rfl), hm.trans (m2.trans (Mod.alloc _ _)).zero, fun b h1 h2 => by
    have e1 : w1.heap.size = b := Option.some.inj h1
    have e2 : w1.heap.size + 1 = b := Option.some.inj h2
    omega⟩
  · have := heap_alloc_new ((w1.alloc (.cells #[] 3)).alloc (.cells #[] 3)) (.cells #[.int .i64 kd, .slice (some ⟨w1.heap.size, 0, none⟩) 0 0, .slice (some ⟨w1.heap.size + 1, 0, none⟩) 0 0] 48)
    rw [World.size_alloc, World.size_alloc] at this
    exact this
  · exact ((m2.trans (Mod.alloc _ _)).block _ (by omega) (.inr (Nat.zero_le _))).trans hY
  · exact ((OI.fresh0 w1 hB).alloc _).alloc _
  · have := OI.fresh0 (w1.alloc (.cells #[] 3)) (B := w.heap.size) (by rw [World.size_alloc]; omega)
    rw [World.size_alloc] at this
    exact this.alloc _

set_option maxHeartbeats 4000000 in
theorem l91Node_any (hi r P at_ wide : Nat) (w : World) (h : RD w hi r P) (hP : P ≤ 800000) (ha : at_ ≤ 100) (hw : wide ≤ 100) :
    Calls Try.prog 75 #[.pointer (some ⟨r, 0, none⟩), .int .i64 at_, .int .i64 wide] w (NodeDrawn w hi r (P + 3 * wide + 10) wide) := by
  have hr := h.lt
  have mY := Mod.alloc w (.cells #[.int .i64 0, .slice none 0 0, .slice none 0 0] 48)
  have hY : (w.alloc (.cells #[.int .i64 0, .slice none 0 0, .slice none 0 0] 48)).heap[w.heap.size]? = some (.cells #[.int .i64 0, .slice none 0 0, .slice none 0 0] 48 (0, 0)) := heap_alloc_new w _
  have hrY := h.mod mY (.inr rfl)
  have HY := hid hY
  clear hY
  go_enter Try.func75, Try.ntmps75
  go_wp2_with fail
  refine (pick_any hi r P 6 _ hrY (by omega) (by omega)).mono ?_
  rintro e w1 ⟨q, rfl, hq0, hq1, -, hrd1, hm1⟩
  have hq2 := hq1 (by omega)
  have hs1 := hm1.size
  rw [World.size_alloc] at hs1
  have hY1 := (hm1.block w.heap.size (by simp) (.inr (by omega))).trans HY.out
  obtain ⟨kd, hkd⟩ : ∃ kd : Int, kd = if at_ = 0 then 0 else q := ⟨_, rfl⟩
  have N0 := NodeAt.start kd hs1 hY1 hrd1 (mY.zero.trans hm1)
  clear hq1 hY1 hrd1 hm1 hrY h
  have hbx : w.heap.size < w1.heap.size + 1 + 1 := by omega
  -- the rest, whatever has been drawn
  have rest : True := trivial
  by_cases ha0 : at_ = 0
  · rw [if_pos ha0] at hkd
    subst hkd
    subst ha0
    go_wp2_with fail
    -- way 1: the first node
    refine (l91Row_any hi r (P + 1) wide _ N0.2.2.2.2.1 (by omega) (by omega)).mono ?_
    rintro e w2 ⟨vo, xs, rfl, hvo, hxl, hrd2, hm2⟩
    have N1 := N0.mod hm2 hr hbx hrd2
    have hBX : w.heap.size ≤ (((w1.alloc (.cells #[] 3)).alloc (.cells #[] 3)).alloc (.cells #[.int .i64 0, .slice (some ⟨w1.heap.size, 0, none⟩) 0 0, .slice (some ⟨w1.heap.size + 1, 0, none⟩) 0 0] 48)).heap.size := by simp; omega
    have N2 := N1.row hr hbx (hvo.base hBX) (fun b h1 h2 => by
      have e1 : w1.heap.size = b := Option.some.inj h1
      have e2 := (hvo.lt b h2).1
      simp at e2
      omega)
    obtain ⟨ao, co, rfl, -⟩ := id hvo.rl
    rw [hxl] at N2 ⊢
    have HN := hid N2
    have HXL := hid hxl
    have d0 : w2.cell? ⟨w1.heap.size + 1 + 1, 0, none⟩ = some (.int .i64 0) := by rw [cell_of_row _ _ 0 _ _ _ N1.1]; rfl
    have d2 : w2.cell? ⟨w1.heap.size + 1 + 1, 2, none⟩ = some (.slice (some ⟨w1.heap.size + 1, 0, none⟩) 0 0) := by rw [cell_of_row _ _ 2 _ _ _ N1.1]; rfl
    have z2 : w2.frozen? ⟨w1.heap.size + 1 + 1, 2, none⟩ = false := by unfold World.frozen?; rw [N1.1]; simp
    clear N1 N2 hxl hvo hm2
    go_wp2_with fail
    go_loopw [8] (fun i wr => ∃ (k : Nat) (fs : List Int) (vf : Value), i = .int .i64 k ∧ k ≤ 2 ∧ fs.length = k ∧ NodeAt w hi r (P + 1 + 3 * wide + 3 + k) (w1.heap.size + 1 + 1) 0 vf (.slice ao wide co) fs xs wr) (fun i _ => 2 - (intOf i).toNat)
    case atStart => exact ⟨0, [], _, rfl, by omega, rfl, HN.out⟩
    case round =>
      clear HN
      obtain ⟨k, fs, vf, rfl, hk, hfl, nx, ny, nf, nr, nrd, nm, nne⟩ := hrel
      have HFL := hid hfl
      obtain ⟨af, cf, rfl, -⟩ := id nf.rl
      rw [hfl] at nx nf nne
      have c0 : wr.cell? ⟨w1.heap.size + 1 + 1, 0, none⟩ = some (.int .i64 (0)) := by rw [cell_of_row _ _ 0 _ _ _ nx]; rfl
      have c1 : wr.cell? ⟨w1.heap.size + 1 + 1, 1, none⟩ = some (.slice af k cf) := by rw [cell_of_row _ _ 1 _ _ _ nx]; rfl
      have c2 : wr.cell? ⟨w1.heap.size + 1 + 1, 2, none⟩ = some (.slice ao wide co) := by rw [cell_of_row _ _ 2 _ _ _ nx]; rfl
      have y0 : wr.cell? ⟨w.heap.size, 0, none⟩ = some (.int .i64 0) := by rw [cell_of_row _ _ 0 _ _ _ ny]; rfl
      have y1 : wr.cell? ⟨w.heap.size, 1, none⟩ = some (.slice none 0 0) := by rw [cell_of_row _ _ 1 _ _ _ ny]; rfl
      have y2 : wr.cell? ⟨w.heap.size, 2, none⟩ = some (.slice none 0 0) := by rw [cell_of_row _ _ 2 _ _ _ ny]; rfl
      have z0 : wr.frozen? ⟨w.heap.size, 0, none⟩ = false := by unfold World.frozen?; rw [ny]; simp
      have z1 : wr.frozen? ⟨w.heap.size, 1, none⟩ = false := by unfold World.frozen?; rw [ny]; simp
      have z2 : wr.frozen? ⟨w.heap.size, 2, none⟩ = false := by unfold World.frozen?; rw [ny]; simp
      have NX := hid nx
      have NY := hid ny
      have hfl3 : fs.length + [(0 : Int)].length < 1099511627776 := by simp; omega
      have NNE := hid nne
      clear hfl nx ny nne
      by_cases hlt : (k : Int) < knI (0)
      · have hk1 : k + 1 ≤ 2 := by have := knI_le (0); omega
        have hd : decide ((k : Int) < knI (0)) = true := decide_eq_true hlt
        have c1d : wr.drew.cell? ⟨w1.heap.size + 1 + 1, 1, none⟩ = some (.slice af k cf) := c1
        have hsz := nm.size
        go_wp2_with fail
        refine (skn_any _ wr).mono ?_
        rintro e _ ⟨rfl, rfl⟩
        go_wp2_with fail
        go_region_law (first
          | (refine step_appAllL rfl _ _ 24 rfl Try.underlying24 w.heap.size _ _ fs [q5] (nf5.alloc _) (one_rl w5 q5) rfl rfl hfl3 (Below.refl _ _) hB6 ?_; intro v7 w7 hv7 hb7 hg7 hl7
             have hx7 := (hg7.block _ (Array.getElem?_eq_some_iff.1 hx6).1 (fun e => one_OI_ne hx5 nf5 e.symm)).trans hx6
             obtain ⟨a7, c7, rfl, -⟩ := id hv7.rl
             have c17 : w7.cell? ⟨w1.heap.size + 1 + 1, 1, none⟩ = some (.slice af k cf) := by rw [cell_of_row _ _ 1 _ _ _ hx7]; rfl
             have z17 : w7.frozen? ⟨w1.heap.size + 1 + 1, 1, none⟩ = false := by unfold World.frozen?; rw [hx7]; simp)
          | (go_simp; go_at_call 76; refine (pick_any hi r (P + 1 + 3 * wide + 3 + k) 0 wr.drew nrd (by omega) (by omega)).mono ?_; rintro e w5 ⟨q5, rfl, -, -, -, nrd5, hm5⟩
             have hz5 : wr.heap.size ≤ w5.heap.size := hm5.size
             have nf5 := OI.mod (w := wr.drew) nf hm5 (by omega)
             have hB5 : w.heap.size ≤ w5.heap.size := by omega
             have hx5 := (hm5.block _ (Array.getElem?_eq_some_iff.1 NX.out).1 (by omega)).trans NX.out
             have c15 : w5.cell? ⟨w1.heap.size + 1 + 1, 1, none⟩ = some (.slice af k cf) := by rw [cell_of_row _ _ 1 _ _ _ hx5]; rfl
             have hB6 : w.heap.size ≤ (w5.alloc (.cells #[.int .i64 q5] 3)).heap.size := by rw [World.size_alloc]; omega
             have hx6 := (heap_alloc_old w5 (.cells #[.int .i64 q5] 3) (Array.getElem?_eq_some_iff.1 hx5).1).trans hx5
             have c16 : (w5.alloc (.cells #[.int .i64 q5] 3)).cell? ⟨w1.heap.size + 1 + 1, 1, none⟩ = some (.slice af k cf) := by rw [cell_of_row _ _ 1 _ _ _ hx6]; rfl)
          | fail)
        all_goals
          have N5 := NodeAt.mod (X := wr.drew) ⟨NX.out, NY.out, nf, nr, nrd, nm.trans (Mod.drewN wr 1).zero, NNE.out⟩ hm5 hr hbx nrd5
          have N7 := hid (N5.grow hr hbx hg7 hv7 hl7)
          rw [show (fs ++ [q5]).length = fs.length + 1 by simp] at N7
          have HV7 := hid (show (fs ++ [q5]).length = k + 1 by simp [HFL.out])
          clear N5 hx7 hx6 hx5 c17 c16 c15 nf5 hv7 hl7 hg7 nf nr nrd
          go_wp2_with fail
          go_roundw
          case rel => exact ⟨k + 1, _, _, by go_num, hk1, HV7.out, N7.out⟩
          case measure => simp [intOf]; omega
      · have hd : decide ((k : Int) < knI (0)) = false := decide_eq_false hlt
        go_wp2_with fail
        refine (skn_any _ wr).mono ?_
        rintro e _ ⟨rfl, rfl⟩
        go_wp2_with fail
        refine bodyPost_ret (v := .agg #[.int .i64 (0), .slice af k cf, .slice ao wide co]) ?_ rfl ?_
        · simp [results, Try.results75, go_sem, y0, y1, y2]
        obtain ⟨p1, p2, p3, p4⟩ := NodeAt.done (a := .int .i64 (0)) (b := .slice af k cf) (c := .slice ao wide co) ⟨NX.out, NY.out, nf, nr, nrd, nm, NNE.out⟩ hr
        exact ⟨_, fs, xs, _, _, rfl, p1, p2, by have := HFL.out; omega, by have := HXL.out; omega, p3.up (by omega), p4⟩
  · rw [if_neg ha0] at hkd
    subst hkd
    have hne : ((at_ : Int) == 0) = false := by simpa using ha0
    have hat1 : (1 : Int) ≤ (at_ : Int) := by omega
    clear ha0
    by_cases hq : kd = 0
    · subst hq
      go_wp2_with fail
      refine (l91Row_any hi r (P + 1) wide _ N0.2.2.2.2.1 (by omega) (by omega)).mono ?_
      rintro e w2 ⟨vo, xs, rfl, hvo, hxl, hrd2, hm2⟩
      have N1 := N0.mod hm2 hr hbx hrd2
      have hBX : w.heap.size ≤ (((w1.alloc (.cells #[] 3)).alloc (.cells #[] 3)).alloc (.cells #[.int .i64 0, .slice (some ⟨w1.heap.size, 0, none⟩) 0 0, .slice (some ⟨w1.heap.size + 1, 0, none⟩) 0 0] 48)).heap.size := by simp; omega
      have N2 := N1.row hr hbx (hvo.base hBX) (fun b h1 h2 => by
        have e1 : w1.heap.size = b := Option.some.inj h1
        have e2 := (hvo.lt b h2).1
        simp at e2
        omega)
      obtain ⟨ao, co, rfl, -⟩ := id hvo.rl
      rw [hxl] at N2 ⊢
      have HN := hid N2
      have HXL := hid hxl
      have d0 : w2.cell? ⟨w1.heap.size + 1 + 1, 0, none⟩ = some (.int .i64 0) := by rw [cell_of_row _ _ 0 _ _ _ N1.1]; rfl
      have d2 : w2.cell? ⟨w1.heap.size + 1 + 1, 2, none⟩ = some (.slice (some ⟨w1.heap.size + 1, 0, none⟩) 0 0) := by rw [cell_of_row _ _ 2 _ _ _ N1.1]; rfl
      have z2 : w2.frozen? ⟨w1.heap.size + 1 + 1, 2, none⟩ = false := by unfold World.frozen?; rw [N1.1]; simp
      clear N1 N2 hxl hvo hm2
      go_wp2_with fail
      go_loopw [8] (fun i wr => ∃ (k : Nat) (fs : List Int) (vf : Value), i = .int .i64 k ∧ k ≤ 2 ∧ fs.length = k ∧ NodeAt w hi r (P + 1 + 3 * wide + 3 + k) (w1.heap.size + 1 + 1) 0 vf (.slice ao wide co) fs xs wr) (fun i _ => 2 - (intOf i).toNat)
      case atStart => exact ⟨0, [], _, rfl, by omega, rfl, HN.out⟩
      case round =>
        clear HN
        obtain ⟨k, fs, vf, rfl, hk, hfl, nx, ny, nf, nr, nrd, nm, nne⟩ := hrel
        have HFL := hid hfl
        obtain ⟨af, cf, rfl, -⟩ := id nf.rl
        rw [hfl] at nx nf nne
        have c0 : wr.cell? ⟨w1.heap.size + 1 + 1, 0, none⟩ = some (.int .i64 (0)) := by rw [cell_of_row _ _ 0 _ _ _ nx]; rfl
        have c1 : wr.cell? ⟨w1.heap.size + 1 + 1, 1, none⟩ = some (.slice af k cf) := by rw [cell_of_row _ _ 1 _ _ _ nx]; rfl
        have c2 : wr.cell? ⟨w1.heap.size + 1 + 1, 2, none⟩ = some (.slice ao wide co) := by rw [cell_of_row _ _ 2 _ _ _ nx]; rfl
        have y0 : wr.cell? ⟨w.heap.size, 0, none⟩ = some (.int .i64 0) := by rw [cell_of_row _ _ 0 _ _ _ ny]; rfl
        have y1 : wr.cell? ⟨w.heap.size, 1, none⟩ = some (.slice none 0 0) := by rw [cell_of_row _ _ 1 _ _ _ ny]; rfl
        have y2 : wr.cell? ⟨w.heap.size, 2, none⟩ = some (.slice none 0 0) := by rw [cell_of_row _ _ 2 _ _ _ ny]; rfl
        have z0 : wr.frozen? ⟨w.heap.size, 0, none⟩ = false := by unfold World.frozen?; rw [ny]; simp
        have z1 : wr.frozen? ⟨w.heap.size, 1, none⟩ = false := by unfold World.frozen?; rw [ny]; simp
        have z2 : wr.frozen? ⟨w.heap.size, 2, none⟩ = false := by unfold World.frozen?; rw [ny]; simp
        have NX := hid nx
        have NY := hid ny
        have hfl3 : fs.length + [(0 : Int)].length < 1099511627776 := by simp; omega
        have NNE := hid nne
        clear hfl nx ny nne
        by_cases hlt : (k : Int) < knI (0)
        · have hk1 : k + 1 ≤ 2 := by have := knI_le (0); omega
          have hd : decide ((k : Int) < knI (0)) = true := decide_eq_true hlt
          have c1d : wr.drew.cell? ⟨w1.heap.size + 1 + 1, 1, none⟩ = some (.slice af k cf) := c1
          have hsz := nm.size
          go_wp2_with fail
          refine (skn_any _ wr).mono ?_
          rintro e _ ⟨rfl, rfl⟩
          go_wp2_with fail
          go_region_law (first
            | (refine step_appAllL rfl _ _ 24 rfl Try.underlying24 w.heap.size _ _ fs [q5] (nf5.alloc _) (one_rl w5 q5) rfl rfl hfl3 (Below.refl _ _) hB6 ?_; intro v7 w7 hv7 hb7 hg7 hl7
               have hx7 := (hg7.block _ (Array.getElem?_eq_some_iff.1 hx6).1 (fun e => one_OI_ne hx5 nf5 e.symm)).trans hx6
               obtain ⟨a7, c7, rfl, -⟩ := id hv7.rl
               have c17 : w7.cell? ⟨w1.heap.size + 1 + 1, 1, none⟩ = some (.slice af k cf) := by rw [cell_of_row _ _ 1 _ _ _ hx7]; rfl
               have z17 : w7.frozen? ⟨w1.heap.size + 1 + 1, 1, none⟩ = false := by unfold World.frozen?; rw [hx7]; simp)
            | (go_simp; go_at_call 76; refine (pick_any hi r (P + 1 + 3 * wide + 3 + k) at_ wr.drew nrd (by omega) (by omega)).mono ?_; rintro e w5 ⟨q5, rfl, -, -, -, nrd5, hm5⟩
               have hz5 : wr.heap.size ≤ w5.heap.size := hm5.size
               have nf5 := OI.mod (w := wr.drew) nf hm5 (by omega)
               have hB5 : w.heap.size ≤ w5.heap.size := by omega
               have hx5 := (hm5.block _ (Array.getElem?_eq_some_iff.1 NX.out).1 (by omega)).trans NX.out
               have c15 : w5.cell? ⟨w1.heap.size + 1 + 1, 1, none⟩ = some (.slice af k cf) := by rw [cell_of_row _ _ 1 _ _ _ hx5]; rfl
               have hB6 : w.heap.size ≤ (w5.alloc (.cells #[.int .i64 q5] 3)).heap.size := by rw [World.size_alloc]; omega
               have hx6 := (heap_alloc_old w5 (.cells #[.int .i64 q5] 3) (Array.getElem?_eq_some_iff.1 hx5).1).trans hx5
               have c16 : (w5.alloc (.cells #[.int .i64 q5] 3)).cell? ⟨w1.heap.size + 1 + 1, 1, none⟩ = some (.slice af k cf) := by rw [cell_of_row _ _ 1 _ _ _ hx6]; rfl)
            | fail)
          all_goals
            have N5 := NodeAt.mod (X := wr.drew) ⟨NX.out, NY.out, nf, nr, nrd, nm.trans (Mod.drewN wr 1).zero, NNE.out⟩ hm5 hr hbx nrd5
            have N7 := hid (N5.grow hr hbx hg7 hv7 hl7)
            rw [show (fs ++ [q5]).length = fs.length + 1 by simp] at N7
            have HV7 := hid (show (fs ++ [q5]).length = k + 1 by simp [HFL.out])
            clear N5 hx7 hx6 hx5 c17 c16 c15 nf5 hv7 hl7 hg7 nf nr nrd
            go_wp2_with fail
            go_roundw
            case rel => exact ⟨k + 1, _, _, by go_num, hk1, HV7.out, N7.out⟩
            case measure => simp [intOf]; omega
        · have hd : decide ((k : Int) < knI (0)) = false := decide_eq_false hlt
          go_wp2_with fail
          refine (skn_any _ wr).mono ?_
          rintro e _ ⟨rfl, rfl⟩
          go_wp2_with fail
          refine bodyPost_ret (v := .agg #[.int .i64 (0), .slice af k cf, .slice ao wide co]) ?_ rfl ?_
          · simp [results, Try.results75, go_sem, y0, y1, y2]
          obtain ⟨p1, p2, p3, p4⟩ := NodeAt.done (a := .int .i64 (0)) (b := .slice af k cf) (c := .slice ao wide co) ⟨NX.out, NY.out, nf, nr, nrd, nm, NNE.out⟩ hr
          exact ⟨_, fs, xs, _, _, rfl, p1, p2, by have := HFL.out; omega, by have := HXL.out; omega, p3.up (by omega), p4⟩
    · have hqz : (kd == 0) = false := by simpa using hq
      clear hq
      have HN := hid N0
      have HXL := hid (show (([] : List Int)).length ≤ wide from Nat.zero_le _)
      go_wp2_with fail
      go_loopw [8] (fun i wr => ∃ (k : Nat) (fs : List Int) (vf : Value), i = .int .i64 k ∧ k ≤ 2 ∧ fs.length = k ∧ NodeAt w hi r (P + 1 + k) (w1.heap.size + 1 + 1) kd vf (.slice (some ⟨w1.heap.size + 1, 0, none⟩) 0 0) fs [] wr) (fun i _ => 2 - (intOf i).toNat)
      case atStart => exact ⟨0, [], _, rfl, by omega, rfl, HN.out⟩
      case round =>
        clear HN
        obtain ⟨k, fs, vf, rfl, hk, hfl, nx, ny, nf, nr, nrd, nm, nne⟩ := hrel
        have HFL := hid hfl
        obtain ⟨af, cf, rfl, -⟩ := id nf.rl
        rw [hfl] at nx nf nne
        have c0 : wr.cell? ⟨w1.heap.size + 1 + 1, 0, none⟩ = some (.int .i64 (kd)) := by rw [cell_of_row _ _ 0 _ _ _ nx]; rfl
        have c1 : wr.cell? ⟨w1.heap.size + 1 + 1, 1, none⟩ = some (.slice af k cf) := by rw [cell_of_row _ _ 1 _ _ _ nx]; rfl
        have c2 : wr.cell? ⟨w1.heap.size + 1 + 1, 2, none⟩ = some (.slice (some ⟨w1.heap.size + 1, 0, none⟩) 0 0) := by rw [cell_of_row _ _ 2 _ _ _ nx]; rfl
        have y0 : wr.cell? ⟨w.heap.size, 0, none⟩ = some (.int .i64 0) := by rw [cell_of_row _ _ 0 _ _ _ ny]; rfl
        have y1 : wr.cell? ⟨w.heap.size, 1, none⟩ = some (.slice none 0 0) := by rw [cell_of_row _ _ 1 _ _ _ ny]; rfl
        have y2 : wr.cell? ⟨w.heap.size, 2, none⟩ = some (.slice none 0 0) := by rw [cell_of_row _ _ 2 _ _ _ ny]; rfl
        have z0 : wr.frozen? ⟨w.heap.size, 0, none⟩ = false := by unfold World.frozen?; rw [ny]; simp
        have z1 : wr.frozen? ⟨w.heap.size, 1, none⟩ = false := by unfold World.frozen?; rw [ny]; simp
        have z2 : wr.frozen? ⟨w.heap.size, 2, none⟩ = false := by unfold World.frozen?; rw [ny]; simp
        have NX := hid nx
        have NY := hid ny
        have hfl3 : fs.length + [(0 : Int)].length < 1099511627776 := by simp; omega
        have NNE := hid nne
        clear hfl nx ny nne
        by_cases hlt : (k : Int) < knI (kd)
        · have hk1 : k + 1 ≤ 2 := by have := knI_le (kd); omega
          have hd : decide ((k : Int) < knI (kd)) = true := decide_eq_true hlt
          have c1d : wr.drew.cell? ⟨w1.heap.size + 1 + 1, 1, none⟩ = some (.slice af k cf) := c1
          have hsz := nm.size
          go_wp2_with fail
          refine (skn_any _ wr).mono ?_
          rintro e _ ⟨rfl, rfl⟩
          go_wp2_with fail
          go_region_law (first
            | (refine step_appAllL rfl _ _ 24 rfl Try.underlying24 w.heap.size _ _ fs [q5] (nf5.alloc _) (one_rl w5 q5) rfl rfl hfl3 (Below.refl _ _) hB6 ?_; intro v7 w7 hv7 hb7 hg7 hl7
               have hx7 := (hg7.block _ (Array.getElem?_eq_some_iff.1 hx6).1 (fun e => one_OI_ne hx5 nf5 e.symm)).trans hx6
               obtain ⟨a7, c7, rfl, -⟩ := id hv7.rl
               have c17 : w7.cell? ⟨w1.heap.size + 1 + 1, 1, none⟩ = some (.slice af k cf) := by rw [cell_of_row _ _ 1 _ _ _ hx7]; rfl
               have z17 : w7.frozen? ⟨w1.heap.size + 1 + 1, 1, none⟩ = false := by unfold World.frozen?; rw [hx7]; simp)
            | (go_simp; go_at_call 76; refine (pick_any hi r (P + 1 + k) at_ wr.drew nrd (by omega) (by omega)).mono ?_; rintro e w5 ⟨q5, rfl, -, -, -, nrd5, hm5⟩
               have hz5 : wr.heap.size ≤ w5.heap.size := hm5.size
               have nf5 := OI.mod (w := wr.drew) nf hm5 (by omega)
               have hB5 : w.heap.size ≤ w5.heap.size := by omega
               have hx5 := (hm5.block _ (Array.getElem?_eq_some_iff.1 NX.out).1 (by omega)).trans NX.out
               have c15 : w5.cell? ⟨w1.heap.size + 1 + 1, 1, none⟩ = some (.slice af k cf) := by rw [cell_of_row _ _ 1 _ _ _ hx5]; rfl
               have hB6 : w.heap.size ≤ (w5.alloc (.cells #[.int .i64 q5] 3)).heap.size := by rw [World.size_alloc]; omega
               have hx6 := (heap_alloc_old w5 (.cells #[.int .i64 q5] 3) (Array.getElem?_eq_some_iff.1 hx5).1).trans hx5
               have c16 : (w5.alloc (.cells #[.int .i64 q5] 3)).cell? ⟨w1.heap.size + 1 + 1, 1, none⟩ = some (.slice af k cf) := by rw [cell_of_row _ _ 1 _ _ _ hx6]; rfl)
            | fail)
          all_goals
            have N5 := NodeAt.mod (X := wr.drew) ⟨NX.out, NY.out, nf, nr, nrd, nm.trans (Mod.drewN wr 1).zero, NNE.out⟩ hm5 hr hbx nrd5
            have N7 := hid (N5.grow hr hbx hg7 hv7 hl7)
            rw [show (fs ++ [q5]).length = fs.length + 1 by simp] at N7
            have HV7 := hid (show (fs ++ [q5]).length = k + 1 by simp [HFL.out])
            clear N5 hx7 hx6 hx5 c17 c16 c15 nf5 hv7 hl7 hg7 nf nr nrd
            go_wp2_with fail
            go_roundw
            case rel => exact ⟨k + 1, _, _, by go_num, hk1, HV7.out, N7.out⟩
            case measure => simp [intOf]; omega
        · have hd : decide ((k : Int) < knI (kd)) = false := decide_eq_false hlt
          go_wp2_with fail
          refine (skn_any _ wr).mono ?_
          rintro e _ ⟨rfl, rfl⟩
          go_wp2_with fail
          refine bodyPost_ret (v := .agg #[.int .i64 (kd), .slice af k cf, .slice (some ⟨w1.heap.size + 1, 0, none⟩) 0 0]) ?_ rfl ?_
          · simp [results, Try.results75, go_sem, y0, y1, y2]
          obtain ⟨p1, p2, p3, p4⟩ := NodeAt.done (a := .int .i64 (kd)) (b := .slice af k cf) (c := .slice (some ⟨w1.heap.size + 1, 0, none⟩) 0 0) ⟨NX.out, NY.out, nf, nr, nrd, nm, NNE.out⟩ hr
          exact ⟨_, fs, [], _, _, rfl, p1, p2, by have := HFL.out; omega, by have := HXL.out; omega, p3.up (by omega), p4⟩
end Go.Proofs.Yteelobokjidphaa
