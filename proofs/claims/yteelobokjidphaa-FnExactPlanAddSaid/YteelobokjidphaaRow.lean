/- The contracts of the functions that say whether a row is valid (the reference's and the program's). No condition. -/
import Derived.Test.YteelobokjidphaaBase
import Derived.Test.YteelobokjidphaaPure
namespace Go.Proofs.Yteelobokjidphaa
open Go.RowKit

theorem l6In_any (n lo hi : Int) (w : World) :
    Calls Try.prog 59 #[.int .i64 n, .int .i64 lo, .int .i64 hi] w fun e w' => e = .returned (.bool (inB n lo hi)) ∧ w = w' := by
  go_enter Try.func59, Try.ntmps59
  go_wp2
  all_goals
    go_ret
    refine ⟨?_, rfl⟩
  · have h : lo ≤ n := by assumption
    simp [inB, h]
  · have h : n < lo := by assumption
    simp [inB]; omega

set_option maxHeartbeats 400000 in
theorem srv_any (v : Value) (xs : List Int) (w : World) (h : RL w v xs) :
    Calls Try.prog 66 #[v] w fun e w' => e = .returned (.bool (rvB xs)) ∧ w = w' := by
  obtain ⟨a, c, rfl, h1, h2, h3⟩ := h
  unfold maxLen at h2
  go_enter Try.func66, Try.ntmps66
  go_wp2
  go_loop [3] (fun i => ∃ k : Nat, k ≤ xs.length ∧ i = .int .i64 k ∧ ∀ j, j < k → inB (xs.getD j 0) 0 1008 = true) (fun i => xs.length - (intOf i).toNat)
  case atStart => exact ⟨0, Nat.zero_le _, rfl, by omega⟩
  case round =>
    obtain ⟨k, hk, rfl, hj⟩ := hrel
    have HJ := hid hj
    clear hj
    by_cases hlt : k < xs.length
    · obtain ⟨b, o, rfl, hb, hc⟩ := h3 k hlt
      clear h3
      obtain ⟨n, hn⟩ : ∃ n, n = xs.getD k 0 := ⟨_, rfl⟩
      rw [← hn] at hc
      have HN := hid hn
      clear hn
      go_wp2_with (go_at_call 59; refine (l6In_any _ _ _ _).mono ?_; rintro e w' ⟨rfl, rfl⟩)
      · have hf : (!inB n 0 1008) = true := by assumption
        go_ret
        exact ⟨by rw [rvB_false_of hlt (by rw [← HN.out]; simpa using hf)]; rfl, rfl⟩
      · have hf : (!inB n 0 1008) = false := by assumption
        go_round
        case rel =>
          refine ⟨k + 1, by omega, by go_num, fun j hj => ?_⟩
          by_cases e : j = k
          · subst e; rw [← HN.out]; simpa using hf
          · exact HJ.out j (by omega)
        case measure => simp [intOf]; omega
    · go_wp2
      go_ret
      exact ⟨by rw [rvB_of_all (fun j hj => HJ.out j (by omega))]; show Ending.returned (.bool _) = _; congr 2; simp; omega, rfl⟩

set_option maxHeartbeats 400000 in
theorem ival_any (v : Value) (xs : List Int) (w : World) (h : RL w v xs) :
    Calls Try.prog 82 #[v] w fun e w' => e = .returned (.bool (rvB xs)) ∧ w = w' := by
  obtain ⟨a, c, rfl, h1, h2, h3⟩ := h
  unfold maxLen at h2
  go_enter Try.func82, Try.ntmps82
  by_cases h6 : 6 < xs.length
  · go_wp2
    go_ret
    exact ⟨by rw [show rvB xs = false from by unfold rvB; simp; intro _; omega]; rfl, rfl⟩
  · have h6' : xs.length ≤ 6 := by omega
    go_wp2
    go_loop [10] (fun i => ∃ k : Nat, k ≤ xs.length ∧ i = .int .i64 k ∧ ∀ j, j < k → inB (xs.getD j 0) 0 1008 = true) (fun i => xs.length - (intOf i).toNat)
    case atStart => exact ⟨0, Nat.zero_le _, rfl, by omega⟩
    case round =>
      obtain ⟨k, hk, rfl, hj⟩ := hrel
      have HJ := hid hj
      clear hj
      by_cases hlt : k < xs.length
      · obtain ⟨b, o, rfl, hb, hc⟩ := h3 k hlt
        clear h3
        obtain ⟨n, hn⟩ : ∃ n, n = xs.getD k 0 := ⟨_, rfl⟩
        rw [← hn] at hc
        have HN := hid hn
        clear hn
        by_cases hin : 0 ≤ n ∧ n < 1009
        · obtain ⟨hi1, hi2⟩ := hin
          go_wp2
          go_round
          case rel =>
            refine ⟨k + 1, by omega, by go_num, fun j hj => ?_⟩
            by_cases e : j = k
            · subst e; rw [← HN.out]; exact inB_true.2 ⟨by omega, by omega⟩
            · exact HJ.out j (by omega)
          case measure => simp [intOf]; omega
        · have hf : inB n 0 1008 = false := inB_false.2 (by omega)
          have hF := hid hf
          clear hf
          have hr := rvB_false_of (xs := xs) hlt (by rw [← HN.out]; exact hF.out)
          have HR := hid hr
          clear hr
          by_cases hn0 : n < 0
          all_goals
            go_wp2
            go_ret
            exact ⟨by rw [HR.out]; rfl, rfl⟩
      · go_wp2
        go_ret
        exact ⟨by rw [rvB_of_all (fun j hj => HJ.out j (by omega))]; show Ending.returned (.bool _) = _; congr 2; simp; omega, rfl⟩

theorem irv_any (v : Value) (xs : List Int) (w : World) (h : RL w v xs) :
    Calls Try.prog 49 #[v] w fun e w' => e = .returned (.bool (rvB xs)) ∧ w = w' := by
  have h' := h
  obtain ⟨a, c, rfl, -⟩ := h'
  go_enter Try.func49, Try.ntmps49
  go_wp2_with (go_at_call 82; refine (ival_any _ xs _ h).mono ?_; rintro e w' ⟨rfl, rfl⟩)
  go_ret
  exact ⟨rfl, rfl⟩
end Go.Proofs.Yteelobokjidphaa
