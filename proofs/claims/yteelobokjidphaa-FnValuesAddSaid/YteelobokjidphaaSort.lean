/- The contracts of the functions that sort a row, the library's among them (at few values). No condition. -/
import Derived.Test.YteelobokjidphaaRow
import Derived.Test.YteelobokjidphaaAppAll
import Derived.Test.YteelobokjidphaaPure
import Derived.BigRegion
import Derived.Deep.QuietTactic
import Derived.BigQuiet
namespace Go.Proofs.Yteelobokjidphaa
open Go.RowKit

theorem isNaN_any (x : Int) (w : World) : Calls Try.prog 135 #[.int .i64 x] w fun e w' => e = .returned (.bool false) ∧ w = w' := by
  go_enter Try.func135, Try.ntmps135
  go_wp2_with fail
  go_ret
  exact ⟨rfl, rfl⟩
theorem less_any (x y : Int) (w : World) : Calls Try.prog 125 #[.int .i64 x, .int .i64 y] w fun e w' => e = .returned (.bool (decide (x < y))) ∧ w' = w := by
  go_enter Try.func125, Try.ntmps125
  go_wp2_with fail
  refine (isNaN_any _ _).mono ?_
  rintro e w' ⟨rfl, rfl⟩
  go_wp2_with fail
  go_ret
  exact ⟨rfl, rfl⟩

set_option maxHeartbeats 4000000 in
theorem insertion_any (g c n A : Nat) (xs : List Int) (w : World) (h : OI w A (.slice (some ⟨g, 0, none⟩) n c) xs) (hn : xs.length = n) (hl : 0 < n) (hl6 : n ≤ 6) :
    Calls Try.prog 119 #[.slice (some ⟨g, 0, none⟩) n c, .int .i64 0, .int .i64 n] w fun e w' => e = .returned (.tuple #[]) ∧ OI w' A (.slice (some ⟨g, 0, none⟩) n c) (sortL xs) ∧ w.grownBy w' (some g) := by
  have h1 : sortL (xs.take 1) ++ xs.drop 1 = xs := by
    have e : xs.take 1 = [xs.getD 0 0] := by
      cases xs with
      | nil => simp at hn; omega
      | cons x r => simp
    rw [e]
    cases xs with
    | nil => simp at hn; omega
    | cons x r => simp [sortL, put]
  have H1 := hid h1
  have HN := hid hn
  have H := hid h
  clear h1 hn h
  go_enter Try.func119, Try.ntmps119
  go_wp2_with fail
  go_loopw [6, 7] (fun i _ wr => ∃ k : Nat, 1 ≤ k ∧ k ≤ n ∧ i = .int .i64 (k : Int) ∧ OI wr A (.slice (some ⟨g, 0, none⟩) n c) (sortL (xs.take k) ++ xs.drop k) ∧ w.grownBy wr (some g)) (fun i _ _ => n - (intOf i).toNat)
  case atStart => exact ⟨1, by omega, by omega, rfl, by rw [H1.out]; exact H.out, World.grownBy.refl _ _⟩
  case round =>
    obtain ⟨k, hk1, hk, rfl, ho, hgr⟩ := hrel
    by_cases hlt : k < n
    · have hkx : k < xs.length := by rw [HN.out]; exact hlt
      obtain ⟨P, hP⟩ : ∃ P, P = sortL (xs.take k) := ⟨_, rfl⟩
      obtain ⟨R, hR⟩ : ∃ R, R = xs.drop (k + 1) := ⟨_, rfl⟩
      obtain ⟨x, hx⟩ : ∃ x, x = xs.getD k 0 := ⟨_, rfl⟩
      have hPs : P.Pairwise (· ≤ ·) := by rw [hP]; exact sortL_sorted _
      have hPl : P.length = k := by rw [hP, sortL_length]; simp; omega
      have hst : sortL (xs.take k) ++ xs.drop k = mid P x R k := by
        rw [← hP, hx, hR, ← hPl, mid_start, hPl, List.drop_eq_getElem_cons hkx]
        simp [hkx]
      have hfin : put P x ++ R = sortL (xs.take (k + 1)) ++ xs.drop (k + 1) := by rw [sortL_take_succ hkx, ← hP, ← hx, ← hR]
      rw [hst] at ho
      have HF := hid hfin
      have HPS := hid hPs
      have HPL := hid hPl
      have HML := hid (fun j (hj : j ≤ k) => (show (mid P x R j).length = n by rw [mid_length _ _ _ _ (by omega), hPl, hR]; have := HN.out; simp; omega))
      clear hP hR hx hPs hPl hst hfin hkx
      obtain ⟨wo, rfl⟩ : ∃ wo : World, wo = wr := ⟨_, rfl⟩
      go_wp2_with fail
      go_loopw [7] (fun j wr => ∃ m : Nat, m ≤ k ∧ j = .int .i64 (m : Int) ∧ OI wr A (.slice (some ⟨g, 0, none⟩) n c) (mid P x R m) ∧ w.grownBy wr (some g) ∧ ∀ i, m ≤ i → i < k → x < P.getD i 0) (fun j _ => (intOf j).toNat)
      case atStart => exact ⟨k, Nat.le_refl _, rfl, ho, hgr, by omega⟩
      case round =>
        clear ho hgr
        obtain ⟨m, hm, rfl, ho, hgr, hgt⟩ := hrel
        have HGT := hid hgt
        clear hgt
        cases m with
        | zero =>
          have hd : decide ((0 : Int) < ((0 : Nat) : Int)) = false := by simp
          have hd' : decide ((0 : Int) < 0) = false := by simp
          go_wp2_with fail
          go_quiet (fail)
          go_wp2_with fail
          go_roundw
          case rel => exact ⟨k + 1, by omega, by omega, by go_num, by rw [← HF.out, ← mid_end HPS.out (j := 0) (by omega) (fun i h1 h2 => HGT.out i h1 (by rw [← HPL.out]; exact h2)) (by omega)]; exact ho, ⟨hgr.os, hgr.tape, hgr.output, hgr.size, hgr.block⟩⟩
          case measure => simp [intOf]; omega
        | succ m =>
          obtain ⟨c1, f1⟩ := OI.cell ho (i := m + 1) (by rw [HML.out _ hm]; omega)
          obtain ⟨c2, f2⟩ := OI.cell ho (i := m) (by rw [HML.out _ hm]; omega)
          have hPl := HPL.out
          rw [mid_at _ _ _ _ (by omega)] at c1
          rw [mid_pred _ _ _ _ (by omega)] at c2
          obtain ⟨p, hp⟩ : ∃ p, p = P.getD m 0 := ⟨_, rfl⟩
          rw [← hp] at c2
          have hset := ((OI.set ho (m + 1) p).set m x).drew
          rw [hp, mid_swap _ _ _ _ (by omega), ← hp] at hset
          have HSET := hid hset
          have HP := hid hp
          clear hset hp hPl
          have hd : decide ((0 : Int) < (m : Int) + 1) = true := decide_eq_true (by omega)
          have e1 : IntKind.i64.wrap ((m : Int) + 1 - 1) = (m : Int) := by rw [IntWalk.i64_in _ (by omega)]; omega
          have b0 : (0 : Int) ≤ (m : Int) := by omega
          have b1 : (m : Int) < (n : Int) := by omega
          have b2 : (0 : Int) ≤ (m : Int) + 1 := by omega
          have b3 : (m : Int) + 1 < (n : Int) := by omega
          have b4 : ((m : Int) + 1).toNat = m + 1 := by omega
          have n1 : ¬ m = m + 1 := by omega
          have n2 : ¬ m + 1 = m := by omega
          by_cases hxp : x < p
          · go_wp2_with fail
            go_quiet ((go_at_call 125; exact Calls.quiet_of_same (less_any x p _)))
            go_wp2_with fail
            go_region
            go_wp2_with fail
            go_roundw
            case rel =>
              refine ⟨m, by omega, by go_num, ?_, ?_, ?_⟩
              · exact HSET.out
              · exact gset (gset (w' := wr.drewN _) ⟨hgr.os, hgr.tape, hgr.output, hgr.size, hgr.block⟩ _ _) _ _
              · intro i h1 h2
                by_cases e : i = m
                · subst e; rw [← HP.out]; exact hxp
                · exact HGT.out i (by omega) h2
            case measure => simp [intOf]
          · go_wp2_with fail
            go_quiet ((go_at_call 125; exact Calls.quiet_of_same (less_any x p _)))
            go_wp2_with fail
            go_roundw
            case rel => exact ⟨k + 1, by omega, by omega, by go_num, by rw [← HF.out, ← mid_end HPS.out (j := m + 1) (by rw [HPL.out]; omega) (fun i h1 h2 => HGT.out i h1 (by rw [← HPL.out]; exact h2)) (fun _ => by rw [Nat.add_sub_cancel, ← HP.out]; omega)]; exact ho, ⟨hgr.os, hgr.tape, hgr.output, hgr.size, hgr.block⟩⟩
            case measure => simp [intOf]; omega
    · obtain rfl : k = n := by omega
      go_wp2_with fail
      go_end0
      refine ⟨rfl, ?_, hgr⟩
      have := HN.out
      rw [List.take_of_length_le (by omega), List.drop_eq_nil_of_le (by omega), List.append_nil] at ho
      exact ho

/-- The library's loop, at few values: one insertion sort. -/
theorem pdq_any (g c n A : Nat) (q : Int) (xs : List Int) (w : World) (h : OI w A (.slice (some ⟨g, 0, none⟩) n c) xs) (hn : xs.length = n) (hl : 0 < n) (hl6 : n ≤ 6) :
    Calls Try.prog 117 #[.slice (some ⟨g, 0, none⟩) n c, .int .i64 0, .int .i64 n, .int .i64 q] w fun e w' => e = .returned (.tuple #[]) ∧ OI w' A (.slice (some ⟨g, 0, none⟩) n c) (sortL xs) ∧ w.grownBy w' (some g) := by
  have HN := hid hn
  clear hn
  go_enter Try.func117, Try.ntmps117
  go_wp2_with fail
  refine wp_loop_rounds 1 ?_
  rw [rounds_succ]
  go_wp2_with fail
  refine (insertion_any g c n A xs _ h HN.out hl hl6).mono ?_
  rintro e w' ⟨rfl, ho, hg⟩
  go_wp2_with fail
  refine bodyPost_ret (results_none rfl _ _ _) rfl ?_
  exact ⟨rfl, ho, hg⟩

set_option maxRecDepth 100000 in
theorem len_0 (w : World) : Calls Try.prog 118 #[.int .u64 0] w fun e w' => ∃ q, e = .returned (.int .i64 q) ∧ w = w' := by
  go_enter Try.func118, Try.ntmps118
  go_wp2
  go_ret
  exact ⟨_, rfl, rfl⟩
set_option maxRecDepth 100000 in
theorem len_1 (w : World) : Calls Try.prog 118 #[.int .u64 1] w fun e w' => ∃ q, e = .returned (.int .i64 q) ∧ w = w' := by
  go_enter Try.func118, Try.ntmps118
  go_wp2
  go_ret
  exact ⟨_, rfl, rfl⟩
set_option maxRecDepth 100000 in
theorem len_2 (w : World) : Calls Try.prog 118 #[.int .u64 2] w fun e w' => ∃ q, e = .returned (.int .i64 q) ∧ w = w' := by
  go_enter Try.func118, Try.ntmps118
  go_wp2
  go_ret
  exact ⟨_, rfl, rfl⟩
set_option maxRecDepth 100000 in
theorem len_3 (w : World) : Calls Try.prog 118 #[.int .u64 3] w fun e w' => ∃ q, e = .returned (.int .i64 q) ∧ w = w' := by
  go_enter Try.func118, Try.ntmps118
  go_wp2
  go_ret
  exact ⟨_, rfl, rfl⟩
set_option maxRecDepth 100000 in
theorem len_4 (w : World) : Calls Try.prog 118 #[.int .u64 4] w fun e w' => ∃ q, e = .returned (.int .i64 q) ∧ w = w' := by
  go_enter Try.func118, Try.ntmps118
  go_wp2
  go_ret
  exact ⟨_, rfl, rfl⟩
set_option maxRecDepth 100000 in
theorem len_5 (w : World) : Calls Try.prog 118 #[.int .u64 5] w fun e w' => ∃ q, e = .returned (.int .i64 q) ∧ w = w' := by
  go_enter Try.func118, Try.ntmps118
  go_wp2
  go_ret
  exact ⟨_, rfl, rfl⟩
set_option maxRecDepth 100000 in
theorem len_6 (w : World) : Calls Try.prog 118 #[.int .u64 6] w fun e w' => ∃ q, e = .returned (.int .i64 q) ∧ w = w' := by
  go_enter Try.func118, Try.ntmps118
  go_wp2
  go_ret
  exact ⟨_, rfl, rfl⟩
theorem len_any (n : Nat) (hn : n ≤ 6) (w : World) : Calls Try.prog 118 #[.int .u64 (n : Int)] w fun e w' => ∃ q, e = .returned (.int .i64 q) ∧ w = w' := by
  rcases (show n = 0 ∨ n = 1 ∨ n = 2 ∨ n = 3 ∨ n = 4 ∨ n = 5 ∨ n = 6 by omega) with rfl | rfl | rfl | rfl | rfl | rfl | rfl
  · exact len_0 w
  · exact len_1 w
  · exact len_2 w
  · exact len_3 w
  · exact len_4 w
  · exact len_5 w
  · exact len_6 w

theorem insertion_none (a : Option Addr) (c : Nat) (w : World) :
    Calls Try.prog 119 #[.slice a 0 c, .int .i64 0, .int .i64 0] w fun e w' => e = .returned (.tuple #[]) ∧ w = w' := by
  go_enter Try.func119, Try.ntmps119
  go_wp2_with fail
  refine wp_loop_rounds 1 ?_
  rw [rounds_succ]
  go_wp2_with fail
  go_end0
  exact ⟨rfl, rfl⟩
theorem pdq_none (a : Option Addr) (c : Nat) (q : Int) (w : World) :
    Calls Try.prog 117 #[.slice a 0 c, .int .i64 0, .int .i64 0, .int .i64 q] w fun e w' => e = .returned (.tuple #[]) ∧ w = w' := by
  go_enter Try.func117, Try.ntmps117
  go_wp2_with fail
  refine wp_loop_rounds 1 ?_
  rw [rounds_succ]
  go_wp2_with fail
  refine (insertion_none a c _).mono ?_
  rintro e w' ⟨rfl, rfl⟩
  go_wp2_with fail
  refine bodyPost_ret (results_none rfl _ _ _) rfl ?_
  exact ⟨rfl, rfl⟩

theorem slicesSort_any (v : Value) (A : Nat) (xs : List Int) (w : World) (h : OI w A v xs) (hl6 : xs.length ≤ 6) :
    Calls Try.prog 115 #[v] w fun e w' => e = .returned (.tuple #[]) ∧ OI w' A v (sortL xs) ∧ w.grownBy w' v.ownBlock := by
  by_cases hx : xs = []
  · subst hx
    obtain ⟨a, c, rfl, -⟩ := OI.rl h
    go_enter Try.func115, Try.ntmps115
    go_wp2_with fail
    refine (len_0 _).mono ?_
    rintro e w' ⟨q, rfl, rfl⟩
    go_wp2_with fail
    refine (pdq_none a c q _).mono ?_
    rintro e w' ⟨rfl, rfl⟩
    go_wp2_with fail
    go_end0
    exact ⟨rfl, h, World.grownBy.refl _ _⟩
  · have hpos := List.length_pos_iff.2 hx
    obtain ⟨g, c, rfl, hA, hg, -, -⟩ := OI.at h hpos
    obtain ⟨n, hn⟩ : ∃ n, xs.length = n := ⟨_, rfl⟩
    rw [hn] at h hpos hl6 ⊢
    have e1 : IntKind.u64.wrap (n : Int) = (n : Int) := IntWalk.u64_in _ (by omega)
    have HN := hid hn
    clear hx hn
    go_enter Try.func115, Try.ntmps115
    go_wp2_with fail
    refine (len_any n (by omega) _).mono ?_
    rintro e w' ⟨q, rfl, rfl⟩
    go_wp2_with fail
    refine (pdq_any g c n A q xs _ h HN.out hpos hl6).mono ?_
    rintro e w' ⟨rfl, ho, hgr⟩
    go_wp2_with fail
    go_end0
    exact ⟨rfl, ho, hgr⟩

theorem sorted_any (v : Value) (xs : List Int) (w : World) (h : RL w v xs) (hl : xs.length ≤ 6) :
    Calls Try.prog 108 #[v] w (PostI w (sortL xs)) := by
  have h0 := h
  obtain ⟨a, c, rfl, h1, h2, -⟩ := h0
  go_enter Try.func108, Try.ntmps108
  go_wp2_with (at_builtin; refine appAll rfl _ _ 99 rfl Try.underlying99 w.heap.size _ _ _ _ (OI.nil w _) h rfl rfl (by simp; omega) (Below.refl _ _) (Nat.le_refl _) ?_; intro v' w1 ho hbel _)
  rw [List.nil_append] at ho
  go_wp2_with fail
  refine (slicesSort_any _ _ xs _ ho hl).mono ?_
  rintro e w2 ⟨rfl, ho2, hg⟩
  have hb2 : Below w.heap.size w w2 := hbel.grown hg hbel.size fun k hk => (ho.lt k hk).1
  go_wp2_with fail
  go_ret
  exact ⟨_, rfl, ho2, hb2⟩

theorem isort_any (v : Value) (xs : List Int) (w : World) (h : RL w v xs) :
    Calls Try.prog 94 #[v] w (PostIB w (sortR xs) (rvB xs)) := by
  cases hb : rvB xs
  · have HB := hid hb
    clear hb
    go_enter Try.func94, Try.ntmps94
    go_wp2_with fail
    refine (ival_any _ xs _ h).mono ?_
    rintro e w' ⟨rfl, rfl⟩
    rw [HB.out]
    go_wp2_with fail
    go_ret2
    exact ⟨_, rfl, by unfold sortR; rw [HB.out]; exact OI.nil _ _, Below.refl _ _⟩
  · have hl := rvB_len hb
    have HB := hid hb
    clear hb
    go_enter Try.func94, Try.ntmps94
    go_wp2_with fail
    refine (ival_any _ xs _ h).mono ?_
    rintro e w' ⟨rfl, rfl⟩
    rw [HB.out]
    go_wp2_with fail
    refine (sorted_any _ xs _ h (by omega)).mono ?_
    rintro e w' ⟨vo, rfl, ho, hbel⟩
    go_wp2_with fail
    go_ret2
    exact ⟨vo, rfl, by rw [sortR_of HB.out]; exact ho, hbel⟩
end Go.Proofs.Yteelobokjidphaa
