/- The contract of the drawing of a row. No condition. -/
import Derived.Test.YtgjefeckdkahlaaDrawRow
namespace Go.Proofs.Ytgjefeckdkahlaa
open Go.RowKit

set_option maxHeartbeats 4000000 in
theorem drawSums_any (v : Value) (bs : List Int) (w : World) (h : BL w v bs) :
    Calls Try.prog 43 #[v] w (Drawn1 w 7) := by
  go_enter Try.func43, Try.ntmps43
  go_wp2_with fail
  refine (l6Open_any v bs w h).mono ?_
  rintro e w1 ⟨rfl, hrd, hb⟩
  have hs1 := hb.size
  go_wp2_with fail
  refine (pick_any _ _ _ 8 _ hrd (by omega) (by omega)).mono ?_
  rintro e w2 ⟨q, rfl, h0, h1, -, hrd2, hm2⟩
  replace hb := hm2.below hb (Nat.le_refl _) hb.size
  have hs2 := hm2.size
  obtain ⟨n, rfl⟩ := Int.eq_ofNat_of_zero_le h0
  have h2 := h1 (by omega)
  clear h1 hrd hm2
  go_wp2_with fail
  refine (l91Row_any _ _ _ n _ hrd2 (by omega) (by omega)).mono ?_
  rintro e w3 ⟨vo, xs, rfl, ho, hx, hrd3, hm3⟩
  replace hb := hm3.below hb (Nat.le_refl _) hb.size
  go_wp2_with fail
  go_ret
  exact ⟨_, xs, rfl, ho.base (by omega), by omega, hb⟩
end Go.Proofs.Ytgjefeckdkahlaa
