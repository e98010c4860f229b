/- The contract of the statements' own comparison of rows. No condition. -/
import Derived.Test.YteelobokjidphaaBase
import Derived.Test.YteelobokjidphaaPure
import Derived.Deep.QuietTactic
import Derived.BigQuiet
namespace Go.Proofs.Yteelobokjidphaa
open Go.RowKit

set_option maxHeartbeats 400000 in
theorem sameRow_any (v u : Value) (xs ys : List Int) (w : World) (h : RL w v xs) (h' : RL w u ys) :
    Calls Try.prog 46 #[v, u] w fun e w' => e = .returned (.bool (sameB xs ys)) ∧ ∃ n, w' = w.drewN n := by
  obtain ⟨a, c, rfl, h1, h2, h3⟩ := h
  obtain ⟨a', c', rfl, h1', h2', h3'⟩ := h'
  unfold maxLen at h2 h2'
  by_cases hxy : xs.length = ys.length
  · have ht : ((xs.length : Int) == (ys.length : Int)) = true := by rw [natBeq]; exact decide_eq_true hxy
    have hn' : ((xs.length : Int) != (ys.length : Int)) = false := by rw [bne, ht]; rfl
    have HXY := hid hxy
    have H3 := hid h3
    have H3' := hid h3'
    clear hxy h3 h3' ht
    go_enter Try.func46, Try.ntmps46
    go_wp2
    go_loopw [5] (fun i wr => ∃ k : Nat, k ≤ xs.length ∧ i = .int .i64 k ∧ (∀ j, j < k → xs.getD j 0 = ys.getD j 0) ∧ ∃ n, wr = w.drewN n) (fun i _ => xs.length - (intOf i).toNat)
    case atStart => exact ⟨0, Nat.zero_le _, rfl, by omega, 0, rfl⟩
    case round =>
      obtain ⟨k, hk, rfl, hj, nd, rfl⟩ := hrel
      have HJ := hid hj
      clear hj
      by_cases hlt : k < xs.length
      · obtain ⟨b, of, rfl, hbs, hc⟩ := H3.out k hlt
        obtain ⟨b', of', rfl, hbs', hc'⟩ := H3'.out k (by rw [← HXY.out]; exact hlt)
        obtain ⟨n, hn⟩ : ∃ n, n = xs.getD k 0 := ⟨_, rfl⟩
        obtain ⟨m, hm⟩ : ∃ m, m = ys.getD k 0 := ⟨_, rfl⟩
        rw [← hn] at hc
        rw [← hm] at hc'
        have HN := hid hn
        have HM := hid hm
        have hly : (k : Int) < (ys.length : Int) := by have := HXY.out; omega
        have hk0 : (0 : Int) ≤ (k : Int) := by omega
        clear hn hm
        by_cases hnm : n = m
        · subst hnm
          go_wp2
          go_quiet (fail)
          go_wp2
          go_roundw
          case rel =>
            refine ⟨k + 1, by omega, by go_num, fun j hj => ?_, _, rfl⟩
            by_cases e : j = k
            · subst e; rw [← HN.out, ← HM.out]
            · exact HJ.out j (by omega)
          case measure => simp [intOf]; omega
        · have hne : (n != m) = true := by simpa using hnm
          have hs : sameB xs ys = false := sameB_at (j := k) (by rw [← HN.out, ← HM.out]; exact hnm)
          have HS := hid hs
          clear hs
          go_wp2
          go_quiet (fail)
          go_wp2
          go_ret
          exact ⟨by rw [HS.out]; rfl, _, World.drewN_drewN _ _ _⟩
      · go_wp2
        go_ret
        obtain rfl : k = xs.length := by omega
        exact ⟨by rw [sameB_of HXY.out HJ.out]; rfl, nd, rfl⟩
  · have ht : ((xs.length : Int) == (ys.length : Int)) = false := by rw [natBeq]; exact decide_eq_false hxy
    have hn' : ((xs.length : Int) != (ys.length : Int)) = true := by rw [bne, ht]; rfl
    rw [sameB_len hxy]
    clear hxy ht
    go_enter Try.func46, Try.ntmps46
    go_wp2
    go_ret
    exact ⟨rfl, 0, rfl⟩

theorem sameRow_m (v u : Value) (xs ys : List Int) (w : World) (h : RL w v xs) (h' : RL w u ys) :
    Calls Try.prog 46 #[v, u] w fun e w' => e = .returned (.bool (sameB xs ys)) ∧ Mod 0 0 w w' :=
  (sameRow_any v u xs ys w h h').mono fun _ _ ⟨he, n, hw⟩ => ⟨he, hw ▸ Mod.drewN w n⟩

theorem sameRow_self (v u : Value) (xs : List Int) (w : World) (h : RL w v xs) (h' : RL w u xs) :
    Calls Try.prog 46 #[v, u] w fun e w' => e = .returned (.bool true) ∧ ∃ n, w' = w.drewN n :=
  (sameRow_any v u xs xs w h h').mono fun _ _ ⟨he, hw⟩ => ⟨by rw [he, sameB_self], hw⟩
end Go.Proofs.Yteelobokjidphaa
