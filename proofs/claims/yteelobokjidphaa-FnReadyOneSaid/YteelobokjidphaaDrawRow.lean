/- The contract of the drawing of a row. No condition. -/
import Derived.Test.YteelobokjidphaaDraw
namespace Go.Proofs.Yteelobokjidphaa
open Go.RowKit

theorem RD.below {w w' : World} {hi r P B : Nat} (h : RD w hi r P) (hb : Below B w w') (hB : r < B) : RD w' hi r P := by
  obtain ⟨a, n, c, p, h1, h2, h3, h4, h5, h6⟩ := h
  refine ⟨a, n, c, p, by rw [hb.block r hB]; exact h1, h2, h3, h4, h5, fun i hi' => ?_⟩
  obtain ⟨b, o, x, e, hlt, hc, hx⟩ := h6 i hi'
  exact ⟨b, o, x, e, hlt, (hb.cell (p := ⟨b, o + i, none⟩) (by show b < B; omega)).trans hc, hx⟩

/-- What a drawing leaves: a row; two rows. -/
def Drawn1 (w : World) (N : Nat) (e : Ending) (w' : World) : Prop := ∃ vo xs, e = .returned vo ∧ OI w' w.heap.size vo xs ∧ xs.length ≤ N ∧ Below w.heap.size w w'
def Drawn2 (w : World) (N : Nat) (e : Ending) (w' : World) : Prop :=
  ∃ vo uo xs ys, e = .returned (.tuple #[vo, uo]) ∧ RL w' vo xs ∧ RL w' uo ys ∧ xs.length ≤ N ∧ ys.length ≤ N ∧ Below w.heap.size w w'

/-- What the drawing of a row leaves. -/
def RowDrawn (w : World) (hi r P n : Nat) (e : Ending) (w' : World) : Prop :=
  ∃ vo xs, e = .returned vo ∧ OI w' w.heap.size vo xs ∧ xs.length = n ∧ RD w' hi r P ∧ Mod r (r + 1) w w'

/-- What holds of the row as far as it is drawn. -/
def RowAt (w : World) (hi r P k : Nat) (o : Value) (wr : World) : Prop :=
  ∃ xs, xs.length = k ∧ OI wr w.heap.size o xs ∧ RD wr hi r P ∧ Mod r (r + 1) w wr

set_option maxHeartbeats 4000000 in
theorem l91Row_any (hi r P n : Nat) (w : World) (h : RD w hi r P) (hn : n ≤ 100) (hP : P ≤ 900000) :
    Calls Try.prog 78 #[.pointer (some ⟨r, 0, none⟩), .int .i64 n] w (RowDrawn w hi r (P + 3 * n + 3) n) := by
  have hr := h.lt
  have H := hid h
  clear h
  go_enter Try.func78, Try.ntmps78
  go_wp2_with fail
  go_loopw [5, 6] (fun o i wr => ∃ k : Nat, k ≤ n ∧ i = .int .i64 k ∧ RowAt w hi r (P + 3 * k) k o wr) (fun _ i _ => n - (intOf i).toNat)
  case atStart => exact ⟨0, Nat.zero_le _, rfl, [], rfl, OI.fresh0 w (Nat.le_refl _), H.out.mod (Mod.alloc w _) (.inr rfl), (Mod.alloc w _).zero⟩
  case round =>
    obtain ⟨k, hk, rfl, xs, hxs, ho, hrd, hm⟩ := hrel
    have hs := hm.size
    have HX := hid hxs
    clear hxs
    by_cases hlt : k < n
    · go_wp2_with fail
      refine (pick_any hi r _ 5 _ hrd (by omega) (by omega)).mono ?_
      rintro e w1 ⟨q1, rfl, -, -, -, hrd1, hm1⟩
      replace ho := ho.mod hm1 (by omega)
      replace hm := hm.trans hm1
      have hs1 := hm1.size
      go_wp2_with fail
      refine (pick_any hi r _ 1009 _ hrd1 (by omega) (by omega)).mono ?_
      rintro e w2 ⟨q2, rfl, -, -, -, hrd2, hm2⟩
      replace ho := ho.mod hm2 (by omega)
      replace hm := hm.trans hm2
      have hs2 := hm2.size
      clear hrd hrd1
      go_wp2_with fail
      have hb3 := heap_alloc_new w2 (.cells #[.int .i64 q1, .int .i64 q2] 3)
      have hm3 := Mod.alloc w2 (.cells #[.int .i64 q1, .int .i64 q2] 3)
      have hrd3 := hrd2.mod hm3 (.inr rfl)
      replace ho := ho.mod hm3 (by omega)
      replace hm := hm.trans hm3.zero
      have hs3 := hm3.size
      have HB3 := hid hb3
      clear hb3
      refine (pick_any hi r _ 2 _ hrd3 (by omega) (by omega)).mono ?_
      rintro e w4 ⟨q3, rfl, h30, h31, -, hrd4, hm4⟩
      replace ho := ho.mod hm4 (by omega)
      replace hm := hm.trans hm4
      have hs4 := hm4.size
      have hb4 : w4.heap[w2.heap.size]? = some (.cells #[.int .i64 q1, .int .i64 q2] 3 (0, 0)) := (hm4.block _ (by simp) (by omega)).trans HB3.out
      have h32 := h31 (by omega)
      clear h31 hrd2 hrd3 hm1 hm2 hm3 hm4
      have hc0 := cell_of_row w4 w2.heap.size 0 _ _ _ hb4
      have hc1 := cell_of_row w4 w2.heap.size 1 _ _ _ hb4
      simp at hc0 hc1
      have HB4 := hid hb4
      clear hb4
      have hw4 : w.heap.size ≤ w4.heap.size := by omega
      have hcl : ∀ q v', ∀ w', OI w' w.heap.size v' (xs ++ [q]) → Below w.heap.size w4 w' → ∃ k' : Nat, k' ≤ n ∧ (Value.int .i64 ((k : Int) + 1)) = .int .i64 k' ∧ RowAt w hi r (P + 3 * k') k' v' w' := fun q v' w' ho' hb' =>
        ⟨k + 1, by omega, by go_num, xs ++ [q], by simp [HX.out], ho', (hrd4.below hb' (by omega)).up (by omega), hm.then_below hb'⟩
      have HCL := hid hcl
      have HM := hid hm
      have HR := hid hrd4
      clear hcl hm hrd4
      have hxl : xs.length < 1099511627776 := by have := HX.out; omega
      rcases (show q3 = 0 ∨ q3 = 1 by omega) with rfl | rfl
      all_goals
        go_wp2_with (at_builtin; refine app1 rfl _ _ 24 rfl Try.underlying24 w.heap.size _ _ _ ho rfl rfl hxl (Below.refl _ _) hw4 ?_; intro v' w' ho' hbel' _)
        go_roundw
        case rel => exact HCL.out _ _ _ ho' hbel'
        case measure => simp [intOf]; omega
    · obtain rfl : k = n := by omega
      by_cases hn0 : k = 0
      · subst hn0
        go_wp2_with fail
        go_ret
        exact ⟨_, xs, rfl, ho, HX.out, hrd.up (by omega), hm⟩
      · have hn1 : 0 < k := by omega
        go_wp2_with fail
        refine (pick_any hi r _ 50 _ hrd (by omega) (by omega)).mono ?_
        rintro e w1 ⟨q1, rfl, -, -, -, hrd1, hm1⟩
        replace ho := ho.mod hm1 (by omega)
        replace hm := hm.trans hm1
        have hs1 := hm1.size
        by_cases hq : q1 = 0
        · subst hq
          clear hrd
          go_wp2_with fail
          refine (pick_any hi r _ k _ hrd1 (by omega) (by omega)).mono ?_
          rintro e w2 ⟨q2, rfl, h20, h21, -, hrd2, hm2⟩
          obtain ⟨j, rfl⟩ := Int.eq_ofNat_of_zero_le h20
          have h22 := h21 (by omega)
          replace ho := ho.mod hm2 (by omega)
          replace hm := hm.trans hm2
          have hs2 := hm2.size
          clear hrd1 h21 h20
          go_wp2_with fail
          have hb3 := heap_alloc_new w2 (.cells #[.int .i64 (-1), .int .i64 1008, .int .i64 1009] 3)
          have hm3 := Mod.alloc w2 (.cells #[.int .i64 (-1), .int .i64 1008, .int .i64 1009] 3)
          have hrd3 := hrd2.mod hm3 (.inr rfl)
          replace ho := ho.mod hm3 (by omega)
          replace hm := hm.trans hm3.zero
          have hs3 := hm3.size
          have HB3 := hid hb3
          clear hb3
          refine (pick_any hi r _ 3 _ hrd3 (by omega) (by omega)).mono ?_
          rintro e w4 ⟨q3, rfl, h30, h31, -, hrd4, hm4⟩
          replace ho := ho.mod hm4 (by omega)
          replace hm := hm.trans hm4
          have hs4 := hm4.size
          have hb4 : w4.heap[w2.heap.size]? = some (.cells #[.int .i64 (-1), .int .i64 1008, .int .i64 1009] 3 (0, 0)) := (hm4.block _ (by simp) (by omega)).trans HB3.out
          have h32 := h31 (by omega)
          clear h31 hrd2 hrd3 hm1 hm2 hm3 hm4
          have hc0 := cell_of_row w4 w2.heap.size 0 _ _ _ hb4
          have hc1 := cell_of_row w4 w2.heap.size 1 _ _ _ hb4
          have hc2 := cell_of_row w4 w2.heap.size 2 _ _ _ hb4
          simp at hc0 hc1 hc2
          have HB4 := hid hb4
          clear hb4
          have hjx : j < xs.length := by have := HX.out; omega
          obtain ⟨g, c, rfl, hg1, hg2, -, -⟩ := OI.at ho hjx
          obtain ⟨hcj, hfj⟩ := OI.cell ho hjx
          have hjl : (j : Int) < (xs.length : Int) := by omega
          have hcl : ∀ q, RowDrawn w hi r (P + 3 * k + 3) k (.returned (.slice (some ⟨g, 0, none⟩) xs.length c)) (w4.setCell ⟨g, j, none⟩ (.int .i64 q)) := fun q =>
            ⟨_, xs.set j q, rfl, OI.set ho j q, by simp [HX.out], (hrd4.mod (Mod.setCell (A := w.heap.size) (B := g + 1) (a := ⟨g, j, none⟩) hg1 (Nat.lt_succ_self _) _) (by have := H.out; obtain ⟨_, _, _, _, _, _, _, _, h5, _⟩ := this; omega)).up (by omega),
              hm.then_below ((Below.refl _ _).setCell (p := ⟨g, j, none⟩) hg1 _)⟩
          have HCL := hid hcl
          have HM := hid hm
          have HR := hid hrd4
          clear hcl hm hrd4
          rcases (show q3 = 0 ∨ q3 = 1 ∨ q3 = 2 by omega) with rfl | rfl | rfl
          all_goals
            go_wp2_with fail
            go_ret
            exact HCL.out _
        · go_wp2_with fail
          go_ret
          exact ⟨_, xs, rfl, ho, HX.out, hrd1.up (by omega), hm⟩
end Go.Proofs.Yteelobokjidphaa
