/- The contract of the drawing of a kind and rows. No condition. -/
import Derived.Test.YteelobokjidphaaDrawRow
import Derived.Test.YteelobokjidphaaKind
import Derived.Test.YteelobokjidphaaGrid
namespace Go.Proofs.Yteelobokjidphaa
open Go.RowKit

def RunDrawn (w : World) (e : Ending) (w' : World) : Prop :=
  ∃ k v xss, e = .returned (.tuple #[.int .i64 k, v]) ∧ RS w' w'.heap.size v xss ∧ xss.length ≤ 3 ∧ 0 ≤ k ∧ k ≤ 5 ∧ Below w.heap.size w w'

/-- The rows as far as they are drawn. -/
def RunAt (w : World) (r P k : Nat) (o : Value) (wr : World) : Prop :=
  ∃ xss, xss.length = k ∧ Grid wr (r + 1) o xss ∧ RD wr w.heap.size r (P + k * 30) ∧ Below w.heap.size w wr

/-- What is drawn behind how many rows there are to be. -/
theorem knI_range (k : Int) (h0 : 0 ≤ k) (h5 : k ≤ 5) : 0 ≤ knI k ∧ knI k ≤ 2 := by
  have : kvB k = true := by unfold kvB; simp [h0, h5]
  unfold knI
  rw [if_pos this]
  (repeat' split) <;> omega
end Go.Proofs.Yteelobokjidphaa
