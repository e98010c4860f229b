/- A sorted row ascends. No condition. -/
import Derived.Test.YtgjefeckdkahlaaRows
import Derived.Test.YtgjefeckdkahlaaArgs
import Derived.Test.YtgjefeckdkahlaaDrawSort
import Derived.Test.YtgjefeckdkahlaaSort
import Derived.Test.YtgjefeckdkahlaaSpecSort
import Derived.Test.YtgjefeckdkahlaaSameRow
namespace Go.Proofs.Ytgjefeckdkahlaa.fnSort
open Go.ChangeShapes Go.WideShapes Go.ChangeAt Go.RowKit

set_option maxHeartbeats 4000000 in
theorem walk (v0 : Value) (x0 : List Int) (w : World) (w0 : BL w v0 x0) :
    Calls Try.prog 4 #[v0] w fun e w' => e = .returned (.bool true) ∧ Below w.heap.size w w' := by
  obtain ⟨a0, c0, rfl, -⟩ := id w0
  by_cases hl0 : 1048576 < x0.length
  · go_enter Try.func4, Try.ntmps4
    go_wp2_with fail
    go_ret
    exact ⟨rfl, Below.refl _ _⟩
  have hl0' : x0.length ≤ 1048576 := by omega
  clear hl0
  go_enter Try.func4, Try.ntmps4
  go_wp2_with fail
  refine (drawSort_any _ x0 w w0).mono ?_
  rintro e w1 ⟨va, xs, rfl, A, hxl, bt⟩
  replace A := A.r
  have s1 := bt.size
  cases hok : rvB xs
  · have OK := hid hok
    clear hok
    go_wp2_with fail
    refine (isort_any _ xs _ A.rl).mono ?_
    rintro e w2 ⟨vo, rfl, O, b0⟩
    have m2 := Mod.of_below b0
    replace O := O.r
    replace A := A.mod m2 (by omega)
    have s2 := m2.size
    replace bt := m2.below0 bt bt.size
    clear b0
    rw [OK.out]
    go_wp2_with fail
    refine (ssort_any _ xs _ A.rl).mono ?_
    rintro e w3 ⟨vw, rfl, W, b0⟩
    have m3 := Mod.of_below b0
    replace W := W.r
    replace A := A.mod m3 (by omega)
    replace O := O.mod m3 (by omega)
    have s3 := m3.size
    replace bt := m3.below0 bt bt.size
    clear b0
    rw [OK.out]
    go_wp2_with fail
    refine (sameRow_m _ _ _ _ _ O.rl W.rl).mono ?_
    rintro e w4 ⟨rfl, m4⟩
    replace A := A.mod m4 (by omega)
    replace O := O.mod m4 (by omega)
    replace W := W.mod m4 (by omega)
    have s4 := m4.size
    replace bt := m4.below0 bt bt.size
    rw [sameB_self]
    go_wp2_with fail
    refine (sameRow_m _ _ _ _ _ O.rl W.rl).mono ?_
    rintro e w5 ⟨rfl, m5⟩
    replace A := A.mod m5 (by omega)
    replace O := O.mod m5 (by omega)
    replace W := W.mod m5 (by omega)
    have s5 := m5.size
    replace bt := m5.below0 bt bt.size
    rw [sameB_self]
    go_wp2_with fail
    go_ret
    exact ⟨rfl, bt⟩
  · have OK := hid hok
    have hx6 := rvB_len hok
    clear hok
    go_wp2_with fail
    refine (isort_any _ xs _ A.rl).mono ?_
    rintro e w2 ⟨vo, rfl, O, b0⟩
    have m2 := Mod.of_below b0
    replace O := O.r
    replace A := A.mod m2 (by omega)
    have s2 := m2.size
    replace bt := m2.below0 bt bt.size
    clear b0
    rw [OK.out]
    go_wp2_with fail
    refine (ssort_any _ xs _ A.rl).mono ?_
    rintro e w3 ⟨vw, rfl, W, b0⟩
    have m3 := Mod.of_below b0
    replace W := W.r
    replace A := A.mod m3 (by omega)
    replace O := O.mod m3 (by omega)
    have s3 := m3.size
    replace bt := m3.below0 bt bt.size
    clear b0
    rw [OK.out]
    go_wp2_with fail
    refine (sameRow_m _ _ _ _ _ O.rl W.rl).mono ?_
    rintro e w4 ⟨rfl, m4⟩
    replace A := A.mod m4 (by omega)
    replace O := O.mod m4 (by omega)
    replace W := W.mod m4 (by omega)
    have s4 := m4.size
    replace bt := m4.below0 bt bt.size
    rw [sameB_self]
    rw [sortR_of OK.out] at O
    have HL := hid (sortL_length xs)
    have HP := hid (sortL_perm xs)
    have HSO := hid (sortL_sorted xs)
    obtain ⟨ys, hys⟩ : ∃ ys, ys = sortL xs := ⟨_, rfl⟩
    rw [← hys] at O HL HP HSO
    clear hys
    obtain ⟨aa, ca, hva, _, _, h3⟩ := id A.rl
    obtain ⟨ao, co, hvo, _, _, h4⟩ := id O.rl
    subst hva
    subst hvo
    have H3 := hid h3
    have H4 := hid h4
    clear h3 h4
    have hy6 : ys.length ≤ 6 := by have := HL.out; omega
    go_wp2_with fail
    go_loopw [8] (fun i wr => ∃ k : Nat, k ≤ ys.length ∧ i = .int .i64 (k : Int) ∧ ∃ n, wr = w4.drewN n) (fun i _ => ys.length - (intOf i).toNat)
    case atStart => exact ⟨0, Nat.zero_le _, rfl, 0, rfl⟩
    case round =>
      obtain ⟨i, hi, rfl, nd, rfl⟩ := hrel
      by_cases hlt : i < ys.length
      · obtain ⟨bo, oo, rfl, -, hci⟩ := H4.out i hlt
        obtain ⟨x, hx⟩ : ∃ x, x = ys.getD i 0 := ⟨_, rfl⟩
        rw [← hx] at hci
        have HX := hid hx
        clear hx
        go_wp2_with fail
        go_loopw [9, 10] (fun n k wr => ∃ m : Nat, m ≤ xs.length ∧ k = .int .i64 (m : Int) ∧ n = .int .i64 (cntI xs x m - cntI ys x m) ∧ ∃ d, wr = w4.drewN d) (fun _ k _ => xs.length - (intOf k).toNat)
        case atStart => exact ⟨0, Nat.zero_le _, rfl, by simp [cntI], nd, rfl⟩
        case round =>
          obtain ⟨m, hm, rfl, rfl, nd', rfl⟩ := hrel
          have hli := HL.out
          by_cases hlm : m < xs.length
          · obtain ⟨b, of, rfl, -, hca⟩ := H3.out m hlm
            obtain ⟨bo', oo', hbo, -, hcb⟩ := H4.out m (by omega)
            simp only [Option.some.injEq, Addr.mk.injEq, and_true] at hbo
            obtain ⟨rfl, rfl⟩ := hbo
            obtain ⟨r1, r2⟩ := cntI_range xs x m
            obtain ⟨r3, r4⟩ := cntI_range ys x m
            have e1 : cntI xs x (m + 1) = cntI xs x m + (if xs.getD m 0 = x then 1 else 0) := rfl
            have e2 : cntI ys x (m + 1) = cntI ys x m + (if ys.getD m 0 = x then 1 else 0) := rfl
            obtain ⟨a, ha⟩ : ∃ a, a = xs.getD m 0 := ⟨_, rfl⟩
            obtain ⟨q, hq⟩ : ∃ q, q = ys.getD m 0 := ⟨_, rfl⟩
            rw [← ha] at hca e1
            rw [← hq] at hcb e2
            obtain ⟨c1, hc1⟩ : ∃ c, c = cntI xs x m := ⟨_, rfl⟩
            obtain ⟨c2, hc2⟩ : ∃ c, c = cntI ys x m := ⟨_, rfl⟩
            rw [← hc1] at e1 r1 r2 ⊢
            rw [← hc2] at e2 r3 r4 ⊢
            have b1 : (0 : Int) ≤ (m : Int) := by omega
            have b2 : (m : Int) < (xs.length : Int) := by omega
            have b3 : (m : Int) < (ys.length : Int) := by omega
            have b4 : (0 : Int) ≤ (i : Int) := by omega
            have b5 : (i : Int) < (ys.length : Int) := by omega
            clear ha hq hc1 hc2 hli
            by_cases hax : a = x
            · by_cases hqx : q = x
              · have t1 : (a == x) = true := by simpa using hax
                have t2 : (q == x) = true := by simpa using hqx
                rw [if_pos hax] at e1
                rw [if_pos hqx] at e2
                have E1 := hid e1
                have E2 := hid e2
                clear e1 e2 hax hqx
                go_wp2_with fail
                go_quiet (fail)
                go_wp2_with fail
                go_quiet (fail)
                go_wp2_with fail
                go_roundw
                case rel => exact ⟨m + 1, by omega, by go_num, by rw [E1.out, E2.out]; go_num, _, by first | rfl | exact World.drewN_drewN _ _ _⟩
                case measure => simp [intOf]; omega
              · have t1 : (a == x) = true := by simpa using hax
                have t2 : (q == x) = false := by simpa using hqx
                rw [if_pos hax] at e1
                rw [if_neg hqx] at e2
                have E1 := hid e1
                have E2 := hid e2
                clear e1 e2 hax hqx
                go_wp2_with fail
                go_quiet (fail)
                go_wp2_with fail
                go_quiet (fail)
                go_wp2_with fail
                go_roundw
                case rel => exact ⟨m + 1, by omega, by go_num, by rw [E1.out, E2.out]; go_num, _, by first | rfl | exact World.drewN_drewN _ _ _⟩
                case measure => simp [intOf]; omega
            · by_cases hqx : q = x
              · have t1 : (a == x) = false := by simpa using hax
                have t2 : (q == x) = true := by simpa using hqx
                rw [if_neg hax] at e1
                rw [if_pos hqx] at e2
                have E1 := hid e1
                have E2 := hid e2
                clear e1 e2 hax hqx
                go_wp2_with fail
                go_quiet (fail)
                go_wp2_with fail
                go_quiet (fail)
                go_wp2_with fail
                go_roundw
                case rel => exact ⟨m + 1, by omega, by go_num, by rw [E1.out, E2.out]; go_num, _, by first | rfl | exact World.drewN_drewN _ _ _⟩
                case measure => simp [intOf]; omega
              · have t1 : (a == x) = false := by simpa using hax
                have t2 : (q == x) = false := by simpa using hqx
                rw [if_neg hax] at e1
                rw [if_neg hqx] at e2
                have E1 := hid e1
                have E2 := hid e2
                clear e1 e2 hax hqx
                go_wp2_with fail
                go_quiet (fail)
                go_wp2_with fail
                go_quiet (fail)
                go_wp2_with fail
                go_roundw
                case rel => exact ⟨m + 1, by omega, by go_num, by rw [E1.out, E2.out]; go_num, _, by first | rfl | exact World.drewN_drewN _ _ _⟩
                case measure => simp [intOf]; omega
          · obtain rfl : m = xs.length := by omega
            have hz : cntI xs x xs.length - cntI ys x xs.length = 0 := by
              have := cntI_perm HP.out x
              rw [HL.out] at this
              omega
            rw [hz]
            clear hz hli
            cases i with
            | zero =>
              go_wp2_with fail
              go_quiet (fail)
              go_wp2_with fail
              go_roundw
              case rel => exact ⟨1, by omega, by go_num, _, by first | rfl | exact World.drewN_drewN _ _ _⟩
              case measure => simp [intOf]; omega
            | succ j =>
              obtain ⟨bo', oo', hbo, -, hcj⟩ := H4.out j (by omega)
              simp only [Option.some.injEq, Addr.mk.injEq, and_true] at hbo
              obtain ⟨rfl, rfl⟩ := hbo
              have hle := sorted_getD HSO.out (i := j) (j := j + 1) (by omega) hlt
              rw [← HX.out] at hle
              obtain ⟨p, hp⟩ : ∃ p, p = ys.getD j 0 := ⟨_, rfl⟩
              rw [← hp] at hcj hle
              clear hp
              have hgt : decide (x < p) = false := decide_eq_false (by omega)
              have d1 : decide ((0 : Int) < (j : Int) + 1) = true := decide_eq_true (by omega)
              have e0 : IntKind.i64.wrap ((j : Int) + 1 - 1) = (j : Int) := by rw [IntWalk.i64_in _ (by omega)]; omega
              have b1 : (0 : Int) ≤ (j : Int) := by omega
              have b2 : (j : Int) < (ys.length : Int) := by omega
              have b3 : (j : Int) + 1 < (ys.length : Int) := by omega
              have b4 : (0 : Int) ≤ (j : Int) + 1 := by omega
              have b5 : ((j : Int) + 1).toNat = j + 1 := by omega
              go_wp2_with fail
              go_quiet (fail)
              go_wp2_with fail
              go_roundw
              case rel => exact ⟨j + 1 + 1, by omega, by go_num, _, by first | rfl | exact World.drewN_drewN _ _ _⟩
              case measure => simp [intOf]; omega
      · obtain rfl : i = ys.length := by omega
        have hle : ((ys.length : Int) == (xs.length : Int)) = true := by rw [HL.out]; simp
        go_wp2_with fail
        go_ret
        exact ⟨rfl, bdrewN bt _⟩

theorem own : ownKnob Try.prog.godebug = none := by kernel_rfl
theorem laidOut : laidOutB Try.prog = true := by kernel_rfl
set_option maxRecDepth 100000 in
theorem lifted (os : Os) (started : os.Started) (H : Type) (enc : TypeId × Value → H) :
    ReturnsInHanded {} Try.checked os 4 .any (Rows.fnSortSpec.pre6 enc Try.prog Try.f4 Rows.fnSortRow.domain false) (Rows.fnSortSpec.post enc Try.prog Try.f4 false true false false) := by
  refine returnsInHanded_of_change (C := Try.checked) own started (by kernel_rfl) Try.func4
    (ChangeSpec.witness6 (enc := enc) (C := Try.checked) false ⟨#[], #[.slice none 0 0], []⟩ 8 (by kernel_rfl) (by kernel_rfl) (by kernel_rfl) (by kernel_rfl)) ?_
  intro W base args ds gs before hval0 hW _ _
  have hval : ∀ (j : Nat) t v, Try.f4.params[j]? = some t → args[j]? = some v → Value.okWide Try.prog W .any base t v := hval0
  have hW' := hW
  obtain ⟨p, q, hA0, hV, rfl, _, _⟩ := hW
  have hA : DataW.TrodAll enc Try.prog W 0 (fun _ => true) true Try.f4.params.toList args.toList ds p := hA0
  rw [Try.params4] at hA hval
  obtain ⟨v0, vs0, d0, ds0, p0, q0, hargs, rfl, rfl, h0, r0⟩ := trodAll_cons hA
  obtain ⟨rfl, rfl, rfl⟩ := trodAll_nil r0
  obtain rfl : args = #[v0] := by cases args; simp_all
  obtain ⟨rfl, rfl⟩ := trodVars_none hV
  have k0 := h0
  have lt0 : ∀ x ∈ p0, x.block < W.heap.size := by obtain ⟨m, hm⟩ := k0; exact DataW.trod_lt m _ _ _ hm
  obtain ⟨x0, w0⟩ := open_bl (hval 0 29 v0 rfl rfl) h0
  clear hA0 hval0
  refine (walk v0 x0 W w0).mono fun e W' ⟨he, bel⟩ => ?_
  subst he
  exact ⟨_, rfl, _, _, _, [], _, [], hW', trodAll_mk1 (shut_bool Try.underlying4 _), (trodAll_cons_mk (Below.trod laidOut (by kernel_rfl) (of_decide_eq_true (by kernel_rfl)) k0 bel lt0) trodAll_mk0), rfl, bel.frame _, fun h => by cases h⟩

theorem over : Rows.fnSortRow.holds Try.pinned (OpenSpec.ofChange Rows.fnSortSpec) :=
  OpenClaim.holds_of_wide 4 Try.f4 rfl rfl rfl rfl rfl rfl rfl ⟨rfl, rfl, rfl, rfl, rfl⟩ rfl rfl rfl rfl rfl (by kernel_rfl) Try.func4 (by kernel_rfl)
    (of_decide_eq_true (by kernel_rfl)) (by unfold Func.isWrapper; first | (rw [if_pos (by decide +kernel)]; kernel_rfl) | (rw [if_neg (by decide +kernel)]; exact ⟨rfl, rfl⟩))
    (fun os started H enc _ => lifted os started H enc)

theorem proved : Rows.FnSortSaid := over
end Go.Proofs.Ytgjefeckdkahlaa.fnSort
