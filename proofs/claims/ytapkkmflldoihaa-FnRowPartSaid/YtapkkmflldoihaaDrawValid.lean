/- The contract of the drawing of a row for the statement on valid rows. No condition. -/
import Derived.Test.YtapkkmflldoihaaDrawRow
namespace Go.Proofs.Ytapkkmflldoihaa
open Go.RowKit

def Drawn1 (w : World) (N : Nat) (e : Ending) (w' : World) : Prop := ∃ vo xs, e = .returned vo ∧ OI w' w.heap.size vo xs ∧ xs.length ≤ N ∧ Below w.heap.size w w'

set_option maxHeartbeats 4000000 in
theorem drawValid_any (v : Value) (bs : List Int) (w : World) (h : BL w v bs) :
    Calls Try.prog 13 #[v] w (Drawn1 w 7) := by
  go_enter Try.func13, Try.ntmps13
  go_wp2_with fail
  refine (l6Open_any v bs w h).mono ?_
  rintro e w1 ⟨rfl, hrd, hb⟩
  have hs1 := hb.size
  go_wp2_with fail
  refine (pick_any _ _ _ 8 _ hrd (by omega) (by omega)).mono ?_
  rintro e w2 ⟨q, rfl, h0, h1, -, hrd2, hm2⟩
  replace hb := hm2.below hb (Nat.le_refl _) hb.size
  have hs2 := hm2.size
  obtain ⟨n, rfl⟩ := Int.eq_ofNat_of_zero_le h0
  have h2 := h1 (by omega)
  clear h1 hrd hm2
  go_wp2_with fail
  refine (l91Row_any _ _ _ n _ hrd2 (by omega) (by omega)).mono ?_
  rintro e w3 ⟨vo, xs, rfl, ho, hx, hrd3, hm3⟩
  have hs3 := hm3.size
  replace hb := hm3.below hb (Nat.le_refl _) hb.size
  have hr2 := hrd2.lt
  obtain ⟨a, c, rfl, hxc, -, -⟩ := OI.rl ho
  have hxl : xs.length ≤ 7 := by omega
  clear hx hrd2 hm3
  by_cases hx0 : xs = []
  · subst hx0
    go_wp2_with fail
    go_ret
    exact ⟨_, [], rfl, ho.base (by omega), by simp, hb⟩
  have hx1 : 0 < xs.length := List.length_pos_iff.2 hx0
  clear hx0
  go_wp2_with fail
  refine (pick_any _ _ _ 8 _ hrd3 (by omega) (by omega)).mono ?_
  rintro e w4 ⟨q4, rfl, -, -, -, hrd4, hm4⟩
  have hs4 := hm4.size
  replace hb := hm4.below hb (Nat.le_refl _) hb.size
  replace ho := ho.mod hm4 (by omega)
  clear hrd3 hm4
  by_cases hq : q4 = 0
  · subst hq
    go_wp2_with fail
    refine (pick_any _ _ _ xs.length _ hrd4 (by omega) (by omega)).mono ?_
    rintro e w5 ⟨q5, rfl, h50, h51, -, hrd5, hm5⟩
    have hs5 := hm5.size
    replace hb := hm5.below hb (Nat.le_refl _) hb.size
    replace ho := ho.mod hm5 (by omega)
    obtain ⟨j, rfl⟩ := Int.eq_ofNat_of_zero_le h50
    have h52 := h51 (by omega)
    clear hrd4 hm5 h51
    go_wp2_with fail
    have hb6 := heap_alloc_new w5 (.cells #[.int .i64 (-1), .int .i64 1009] 3)
    have hm6 := Mod.alloc w5 (.cells #[.int .i64 (-1), .int .i64 1009] 3)
    have hs6 := hm6.size
    have hrd6 := hrd5.mod hm6 (.inr rfl)
    replace hb := hm6.below0 hb hb.size
    replace ho := ho.mod hm6 (by omega)
    have HB6 := hid hb6
    clear hb6
    refine (pick_any _ _ _ 2 _ hrd6 (by omega) (by omega)).mono ?_
    rintro e w7 ⟨q7, rfl, h70, h71, -, hrd7, hm7⟩
    have hs7 := hm7.size
    replace hb := hm7.below hb (Nat.le_refl _) hb.size
    replace ho := ho.mod hm7 (by omega)
    have hb7 : w7.heap[w5.heap.size]? = some (.cells #[.int .i64 (-1), .int .i64 1009] 3 (0, 0)) := (hm7.block _ (by simp) (by omega)).trans HB6.out
    have h72 := h71 (by omega)
    clear h71 hrd5 hrd6 hm6 hm7
    have hc0 := cell_of_row w7 w5.heap.size 0 _ _ _ hb7
    have hc1 := cell_of_row w7 w5.heap.size 1 _ _ _ hb7
    simp at hc0 hc1
    have HB7 := hid hb7
    clear hb7
    have hjx : j < xs.length := by omega
    obtain ⟨g, c', hv, hg1, hg2, -, -⟩ := OI.at ho hjx
    simp only [Value.slice.injEq, true_and] at hv
    obtain ⟨rfl, rfl⟩ := hv
    obtain ⟨hcj, hfj⟩ := OI.cell ho hjx
    have hjl : (j : Int) < (xs.length : Int) := by omega
    have hcl : ∀ q, Drawn1 w 7 (.returned (.slice (some ⟨g, 0, none⟩) xs.length c)) (w7.setCell ⟨g, j, none⟩ (.int .i64 q)) := fun q =>
      ⟨_, xs.set j q, rfl, (OI.set ho j q).base (by omega), by simpa using hxl, hb.setCell (p := ⟨g, j, none⟩) (by show w.heap.size ≤ g; omega) _⟩
    have HCL := hid hcl
    have HR := hid hrd7
    clear hcl hrd7
    rcases (show q7 = 0 ∨ q7 = 1 by omega) with rfl | rfl
    all_goals
      go_wp2_with fail
      go_ret
      exact HCL.out _
  · go_wp2_with fail
    go_ret
    exact ⟨_, xs, rfl, ho.base (by omega), hxl, hb⟩
end Go.Proofs.Ytapkkmflldoihaa
