/- The contracts of the statements' own helpers over slices of numbers: copy, compare, mark, held. No condition. -/
import Derived.Test.YteelobokjidphaaBase
import Derived.Test.YteelobokjidphaaPure
import Derived.Deep.QuietTactic
import Derived.BigQuiet
namespace Go.Proofs.Yteelobokjidphaa
open Go.RowKit

set_option maxHeartbeats 400000 in
theorem toInt_any (v : Value) (xs : List Int) (w : World) (h : RL w v xs) (hlen : xs.length ≤ 1048576) :
    Calls Try.prog 69 #[v] w (PostI w xs) := by
  obtain ⟨a, c, rfl, h1, h2, h3⟩ := h
  unfold maxLen at h2
  have H3 := hid h3
  clear h3
  go_enter Try.func69, Try.ntmps69
  go_wp2_with (at_make; refine mk1 rfl _ _ 24 rfl Try.underlying24 w.heap.size xs.length _ _ rfl rfl rfl rfl (by omega) (Below.refl _ _) (Nat.le_refl _) ?_; intro v' w1 ho rfl hbel _)
  go_loopw [4] (fun i wr => ∃ k : Nat, k ≤ xs.length ∧ i = .int .i64 k ∧ OI wr w.heap.size (.slice (some ⟨w.heap.size, 0, none⟩) xs.length xs.length) (filled (fun i => xs.getD i 0) xs.length k) ∧ Below w.heap.size w wr)
    (fun i _ => xs.length - (intOf i).toNat)
  case atStart => exact ⟨0, Nat.zero_le _, rfl, by rw [filled_zero]; exact ho, hbel⟩
  case round =>
    clear ho hbel
    obtain ⟨k, hk, rfl, ho, hbel⟩ := hrel
    by_cases hlt : k < xs.length
    · obtain ⟨b, of, rfl, hbs, hc⟩ := H3.out k hlt
      obtain ⟨n, hn'⟩ : ∃ n, n = xs.getD k 0 := ⟨_, rfl⟩
      rw [← hn'] at hc
      rw [← hbel.cell (p := ⟨b, of + k, none⟩) hbs] at hc
      have HN := hid hn'
      have hfl := filled_length (fun i => xs.getD i 0) hk
      obtain ⟨hcell, hfroz⟩ := OI.cell ho (i := k) (by rw [hfl]; exact hlt)
      have hset := OI.set ho k n
      have HSET := hid hset
      clear hn' hfl hset
      go_wp2
      go_roundw
      case rel =>
        refine ⟨k + 1, by omega, by go_num, ?_, hbel.setCell (Nat.le_refl _) _⟩
        rw [← filled_set _ hlt, ← HN.out]
        exact HSET.out
      case measure => simp [intOf]; omega
    · go_wp2
      go_ret
      obtain rfl : k = xs.length := by omega
      exact ⟨_, rfl, by rw [filled_all, copied_eq] at ho; exact ho, hbel⟩

set_option maxHeartbeats 400000 in
theorem eqInt_any (v u : Value) (xs ys : List Int) (w : World) (h : RL w v xs) (h' : RL w u ys) :
    Calls Try.prog 21 #[v, u] w fun e w' => e = .returned (.bool (sameB xs ys)) ∧ ∃ n, w' = w.drewN n := by
  obtain ⟨a, c, rfl, h1, h2, h3⟩ := h
  obtain ⟨a', c', rfl, h1', h2', h3'⟩ := h'
  unfold maxLen at h2 h2'
  by_cases hxy : xs.length = ys.length
  · have ht : ((xs.length : Int) == (ys.length : Int)) = true := by rw [natBeq]; exact decide_eq_true hxy
    have hn' : ((xs.length : Int) != (ys.length : Int)) = false := by rw [bne, ht]; rfl
    have HXY := hid hxy
    have H3 := hid h3
    have H3' := hid h3'
    clear hxy h3 h3' ht
    go_enter Try.func21, Try.ntmps21
    go_wp2
    go_loopw [5] (fun i wr => ∃ k : Nat, k ≤ xs.length ∧ i = .int .i64 k ∧ (∀ j, j < k → xs.getD j 0 = ys.getD j 0) ∧ ∃ n, wr = w.drewN n) (fun i _ => xs.length - (intOf i).toNat)
    case atStart => exact ⟨0, Nat.zero_le _, rfl, by omega, 0, rfl⟩
    case round =>
      obtain ⟨k, hk, rfl, hj, nd, rfl⟩ := hrel
      have HJ := hid hj
      clear hj
      by_cases hlt : k < xs.length
      · obtain ⟨b, of, rfl, hbs, hc⟩ := H3.out k hlt
        obtain ⟨b', of', rfl, hbs', hc'⟩ := H3'.out k (by rw [← HXY.out]; exact hlt)
        obtain ⟨n, hn⟩ : ∃ n, n = xs.getD k 0 := ⟨_, rfl⟩
        obtain ⟨m, hm⟩ : ∃ m, m = ys.getD k 0 := ⟨_, rfl⟩
        rw [← hn] at hc
        rw [← hm] at hc'
        have HN := hid hn
        have HM := hid hm
        have hly : (k : Int) < (ys.length : Int) := by have := HXY.out; omega
        have hk0 : (0 : Int) ≤ (k : Int) := by omega
        clear hn hm
        by_cases hnm : n = m
        · subst hnm
          go_wp2
          go_quiet (fail)
          go_wp2
          go_roundw
          case rel =>
            refine ⟨k + 1, by omega, by go_num, fun j hj => ?_, _, rfl⟩
            by_cases e : j = k
            · subst e; rw [← HN.out, ← HM.out]
            · exact HJ.out j (by omega)
          case measure => simp [intOf]; omega
        · have hne : (n != m) = true := by simpa using hnm
          have hs : sameB xs ys = false := sameB_at (j := k) (by rw [← HN.out, ← HM.out]; exact hnm)
          have HS := hid hs
          clear hs
          go_wp2
          go_quiet (fail)
          go_wp2
          go_ret
          exact ⟨by rw [HS.out]; rfl, _, World.drewN_drewN _ _ _⟩
      · go_wp2
        go_ret
        obtain rfl : k = xs.length := by omega
        exact ⟨by rw [sameB_of HXY.out HJ.out]; rfl, nd, rfl⟩
  · have ht : ((xs.length : Int) == (ys.length : Int)) = false := by rw [natBeq]; exact decide_eq_false hxy
    have hn' : ((xs.length : Int) != (ys.length : Int)) = true := by rw [bne, ht]; rfl
    rw [sameB_len hxy]
    clear hxy ht
    go_enter Try.func21, Try.ntmps21
    go_wp2
    go_ret
    exact ⟨rfl, 0, rfl⟩

set_option maxHeartbeats 400000 in
theorem markInt_any (v : Value) (xs : List Int) (k : Int) (A : Nat) (w : World) (h : OI w A v xs) (h0 : 0 ≤ k) (h1 : k ≤ 4611686018427387904) (hl : xs.length ≤ 1048576) :
    Calls Try.prog 24 #[v, .int .i64 k] w fun e w' => e = .returned (.int .i64 (k + xs.length)) ∧ OI w' A v (marks k xs.length) ∧ w.grownBy w' v.ownBlock := by
  by_cases hx : xs = []
  · subst hx
    obtain ⟨a, c, rfl, -⟩ := OI.rl h
    go_enter Try.func24, Try.ntmps24
    go_wp2
    refine wp_loop_rounds 1 ?_
    rw [rounds_succ]
    go_wp2
    go_ret
    exact ⟨by simp, by simpa [marks] using h, World.grownBy.refl _ _⟩
  · have hpos : 0 < xs.length := List.length_pos_iff.2 hx
    obtain ⟨g, c, rfl, hA, hg, -, -⟩ := OI.at h hpos
    have H := hid h
    clear hx h
    go_enter Try.func24, Try.ntmps24
    go_wp2
    go_loopw [1, 5] (fun q i wr => ∃ j : Nat, j ≤ xs.length ∧ i = .int .i64 j ∧ q = .int .i64 (k + j) ∧ OI wr A (.slice (some ⟨g, 0, none⟩) xs.length c) (marked xs k j) ∧ w.grownBy wr (some g)) (fun _ i _ => xs.length - (intOf i).toNat)
    case atStart => exact ⟨0, Nat.zero_le _, rfl, by simp, by rw [marked_zero]; exact H.out, World.grownBy.refl _ _⟩
    case round =>
      obtain ⟨j, hj, rfl, rfl, ho, hgr⟩ := hrel
      by_cases hlt : j < xs.length
      · have hml := marked_length xs k hj
        obtain ⟨hcell, hfroz⟩ := OI.cell ho (i := j) (by rw [hml]; exact hlt)
        have HSET := hid (OI.set ho j (k + (j : Int)))
        clear hml
        go_wp2
        go_roundw
        case rel =>
          refine ⟨j + 1, by omega, by go_num, by go_num, ?_, ?_⟩
          · rw [← marked_set xs k hlt]; exact HSET.out
          · exact ⟨hgr.os, hgr.tape, hgr.output, by simpa using hgr.size, fun b hb hne => by rw [Below.heap_setCell _ _ _ _ (by intro e; exact hne (by rw [e]))]; exact hgr.block b hb hne⟩
        case measure => simp [intOf]; omega
      · go_wp2
        go_ret
        obtain rfl : j = xs.length := by omega
        exact ⟨rfl, by rw [marked_all] at ho; exact ho, hgr⟩
set_option maxHeartbeats 400000 in
theorem heldInt_any (v : Value) (k : Int) (n : Nat) (w : World) (h : RL w v (marks k n)) (h0 : 0 ≤ k) (h1 : k ≤ 4611686018427387904) (hl : n ≤ 1048576) :
    Calls Try.prog 25 #[v, .int .i64 k] w fun e w' => e = .returned (.int .i64 (k + n)) ∧ w = w' := by
  obtain ⟨a, c, rfl, h2, h3, h4⟩ := h
  rw [marks_length] at h2 h4
  rw [marks_length]
  unfold maxLen at h3
  have H4 := hid h4
  clear h4
  go_enter Try.func25, Try.ntmps25
  go_wp2
  go_loop [1, 5] (fun q i => ∃ j : Nat, j ≤ n ∧ i = .int .i64 j ∧ q = .int .i64 (k + j)) (fun _ i => n - (intOf i).toNat)
  case atStart => exact ⟨0, Nat.zero_le _, rfl, by simp⟩
  case round =>
    obtain ⟨j, hj, rfl, rfl⟩ := hrel
    by_cases hlt : j < n
    · obtain ⟨b, o, rfl, hb, hc⟩ := H4.out j hlt
      rw [marks_get k hlt] at hc
      go_wp2
      go_round
      case rel => exact ⟨j + 1, by omega, by go_num, by go_num⟩
      case measure => simp [intOf]; omega
    · go_wp2
      go_ret
      obtain rfl : j = n := by omega
      exact ⟨rfl, rfl⟩
theorem eqInt_m (v u : Value) (xs ys : List Int) (w : World) (h : RL w v xs) (h' : RL w u ys) :
    Calls Try.prog 21 #[v, u] w fun e w' => e = .returned (.bool (sameB xs ys)) ∧ Mod 0 0 w w' :=
  (eqInt_any v u xs ys w h h').mono fun _ _ ⟨he, n, hw⟩ => ⟨he, hw ▸ Mod.drewN w n⟩

/-- Marking an owned row, told by its range. -/
theorem markInt_r (v : Value) (xs : List Int) (k : Int) (lo hi : Nat) (w : World) (h : OR w lo hi v xs) (h0 : 0 ≤ k) (h1 : k ≤ 4611686018427387904) (hl : xs.length ≤ 1048576) :
    Calls Try.prog 24 #[v, .int .i64 k] w fun e w' => e = .returned (.int .i64 (k + xs.length)) ∧ OR w' lo hi v (marks k xs.length) ∧ Mod lo hi w w' :=
  (markInt_any v xs k lo w h.1 h0 h1 hl).mono fun _ _ ⟨he, ho, hg⟩ => ⟨he, ⟨ho, Nat.le_trans h.2.1 hg.size, h.2.2⟩, h.of_grown hg⟩

set_option maxRecDepth 100000
set_option maxHeartbeats 400000 in
theorem szInt_any (v : Value) (xs : List Int) (left : Int) (w : World) (h : RL w v xs) (h0 : 0 ≤ left) (h1 : left ≤ 1048576) :
    Calls Try.prog 65 #[v, .int .i64 left] w (fun e w' => e = .returned (.int .i64 (if (xs.length : Int) ≤ left then left - xs.length else -1)) ∧ w = w') := by
  obtain ⟨a, c, rfl, h2, h3, -⟩ := h
  unfold maxLen at h3
  have e1 : IntKind.i64.wrap (left - (xs.length : Int)) = left - xs.length := IntWalk.i64_in _ (by omega)
  by_cases hle : (xs.length : Int) ≤ left
  · rw [if_pos hle]
    have hn : ¬ (left - (xs.length : Int) < 0) := by omega
    go_enter Try.func65, Try.ntmps65
    go_wp2_with fail
    go_ret
    exact ⟨rfl, rfl⟩
  · rw [if_neg hle]
    have hn : left - (xs.length : Int) < 0 := by omega
    go_enter Try.func65, Try.ntmps65
    go_wp2_with fail
    go_ret
    exact ⟨rfl, rfl⟩
end Go.Proofs.Yteelobokjidphaa
