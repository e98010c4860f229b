/- How many numbers fit: the statements' own helper. No condition. -/
import Derived.Test.YteelobokjidphaaBase
namespace Go.Proofs.Yteelobokjidphaa
open Go.RowKit
set_option maxRecDepth 100000
set_option maxHeartbeats 400000 in
theorem szInt_any (v : Value) (xs : List Int) (left : Int) (w : World) (h : RL w v xs) (h0 : 0 ≤ left) (h1 : left ≤ 1048576) :
    Calls Try.prog 65 #[v, .int .i64 left] w (fun e w' => e = .returned (.int .i64 (if (xs.length : Int) ≤ left then left - xs.length else -1)) ∧ w = w') := by
  obtain ⟨a, c, rfl, h2, h3, -⟩ := h
  unfold maxLen at h3
  have e1 : IntKind.i64.wrap (left - (xs.length : Int)) = left - xs.length := IntWalk.i64_in _ (by omega)
  by_cases hle : (xs.length : Int) ≤ left
  · rw [if_pos hle]
    have hn : ¬ (left - (xs.length : Int) < 0) := by omega
    go_enter Try.func65, Try.ntmps65
    go_wp2_with fail
    go_ret
    exact ⟨rfl, rfl⟩
  · rw [if_neg hle]
    have hn : left - (xs.length : Int) < 0 := by omega
    go_enter Try.func65, Try.ntmps65
    go_wp2_with fail
    go_ret
    exact ⟨rfl, rfl⟩
end Go.Proofs.Yteelobokjidphaa
