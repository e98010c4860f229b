/- The contract of the drawing of a row. No condition. -/
import Derived.Test.YtgjefeckdkahlaaDrawSums
namespace Go.Proofs.Ytgjefeckdkahlaa
open Go.RowKit
theorem drawSort_any (v : Value) (bs : List Int) (w : World) (h : BL w v bs) :
    Calls Try.prog 21 #[v] w (Drawn1 w 7) := by
  go_enter Try.func21, Try.ntmps21
  go_wp2_with fail
  refine (drawSums_any v bs w h).mono ?_
  rintro e w1 ⟨vo, xs, rfl, ho, hx, hb⟩
  go_wp2_with fail
  go_ret
  exact ⟨_, xs, rfl, ho, hx, hb⟩
end Go.Proofs.Ytgjefeckdkahlaa
