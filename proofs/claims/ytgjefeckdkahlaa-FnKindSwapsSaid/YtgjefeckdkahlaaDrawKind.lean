/- The contracts of the drawing of a kind. No condition. -/
import Derived.Test.YtgjefeckdkahlaaDraw
namespace Go.Proofs.Ytgjefeckdkahlaa
open Go.RowKit

def KindDrawn (w : World) (e : Ending) (w' : World) : Prop := ∃ q : Int, e = .returned (.int .i64 q) ∧ -1 ≤ q ∧ q ≤ 7 ∧ Below w.heap.size w w'

theorem drawKindValid_any (v : Value) (bs : List Int) (w : World) (h : BL w v bs) :
    Calls Try.prog 30 #[v] w (KindDrawn w) := by
  go_enter Try.func30, Try.ntmps30
  go_wp2_with fail
  refine (l6Open_any v bs w h).mono ?_
  rintro e w1 ⟨rfl, hrd, hb⟩
  go_wp2_with fail
  refine (pick_any _ _ _ 9 _ hrd (by omega) (by omega)).mono ?_
  rintro e w2 ⟨q, rfl, h0, h1, -, hrd2, hm2⟩
  replace hb := hm2.below hb (Nat.le_refl _) hb.size
  have h2 := h1 (by omega)
  go_wp2_with fail
  go_ret
  exact ⟨q - 1, rfl, by omega, by omega, hb⟩

theorem drawKindNeeds_any (v : Value) (bs : List Int) (w : World) (h : BL w v bs) :
    Calls Try.prog 31 #[v] w (KindDrawn w) := by
  go_enter Try.func31, Try.ntmps31
  go_wp2_with fail
  refine (l6Open_any v bs w h).mono ?_
  rintro e w1 ⟨rfl, hrd, hb⟩
  go_wp2_with fail
  refine (pick_any _ _ _ 8 _ hrd (by omega) (by omega)).mono ?_
  rintro e w2 ⟨q, rfl, h0, h1, -, hrd2, hm2⟩
  replace hb := hm2.below hb (Nat.le_refl _) hb.size
  have h2 := h1 (by omega)
  go_wp2_with fail
  go_ret
  exact ⟨q - 1, rfl, by omega, by omega, hb⟩

theorem drawKindSwaps_any (v : Value) (bs : List Int) (w : World) (h : BL w v bs) :
    Calls Try.prog 32 #[v] w (KindDrawn w) := by
  go_enter Try.func32, Try.ntmps32
  go_wp2_with fail
  refine (l6Open_any v bs w h).mono ?_
  rintro e w1 ⟨rfl, hrd, hb⟩
  go_wp2_with fail
  refine (pick_any _ _ _ 8 _ hrd (by omega) (by omega)).mono ?_
  rintro e w2 ⟨q, rfl, h0, h1, -, hrd2, hm2⟩
  replace hb := hm2.below hb (Nat.le_refl _) hb.size
  have h2 := h1 (by omega)
  go_wp2_with fail
  go_ret
  exact ⟨q - 1, rfl, by omega, by omega, hb⟩

end Go.Proofs.Ytgjefeckdkahlaa
