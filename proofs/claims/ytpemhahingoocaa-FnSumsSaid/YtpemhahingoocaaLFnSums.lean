/- Each sum is that of the one ahead and a value. No condition. -/
import Derived.Test.YtpemhahingoocaaRows
import Derived.Test.YtpemhahingoocaaArgs
import Derived.Test.YtpemhahingoocaaDrawSums
import Derived.Test.YtpemhahingoocaaPureSums
import Derived.Test.YtpemhahingoocaaSameRow
namespace Go.Proofs.Ytpemhahingoocaa.fnSums
open Go.ChangeShapes Go.WideShapes Go.ChangeAt Go.RowKit

set_option maxHeartbeats 4000000 in
theorem walk (v0 : Value) (x0 : List Int) (w : World) (w0 : BL w v0 x0) :
    Calls Try.prog 5 #[v0] w fun e w' => e = .returned (.bool true) ∧ Below w.heap.size w w' := by
  obtain ⟨a0, c0, rfl, -⟩ := id w0
  by_cases hl0 : 1048576 < x0.length
  · go_enter Try.func5, Try.ntmps5
    go_wp2_with fail
    go_ret
    exact ⟨rfl, Below.refl _ _⟩
  have hl0' : x0.length ≤ 1048576 := by omega
  clear hl0
  go_enter Try.func5, Try.ntmps5
  go_wp2_with fail
  refine (drawSums_any _ x0 w w0).mono ?_
  rintro e w1 ⟨va, xs, rfl, A, hxl, bt⟩
  replace A := A.r
  have s1 := bt.size
  cases hok : rvB xs
  · have OK := hid hok
    clear hok
    go_wp2_with fail
    refine (isums_any _ xs _ A.rl).mono ?_
    rintro e w2 ⟨vo, rfl, O, b0⟩
    have m2 := Mod.of_below b0
    replace O := O.r
    replace A := A.mod m2 (by omega)
    have s2 := m2.size
    replace bt := m2.below0 bt bt.size
    clear b0
    rw [OK.out]
    go_wp2_with fail
    refine (ssums_any _ xs _ A.rl).mono ?_
    rintro e w3 ⟨vw, rfl, W, b0⟩
    have m3 := Mod.of_below b0
    replace W := W.r
    replace A := A.mod m3 (by omega)
    replace O := O.mod m3 (by omega)
    have s3 := m3.size
    replace bt := m3.below0 bt bt.size
    clear b0
    rw [OK.out]
    go_wp2_with fail
    refine (sameRow_m _ _ _ _ _ O.rl W.rl).mono ?_
    rintro e w4 ⟨rfl, m4⟩
    replace A := A.mod m4 (by omega)
    replace O := O.mod m4 (by omega)
    replace W := W.mod m4 (by omega)
    have s4 := m4.size
    replace bt := m4.below0 bt bt.size
    rw [sameB_self]
    go_wp2_with fail
    refine (sameRow_m _ _ _ _ _ O.rl W.rl).mono ?_
    rintro e w5 ⟨rfl, m5⟩
    replace A := A.mod m5 (by omega)
    replace O := O.mod m5 (by omega)
    replace W := W.mod m5 (by omega)
    have s5 := m5.size
    replace bt := m5.below0 bt bt.size
    rw [sameB_self]
    go_wp2_with fail
    go_ret
    exact ⟨rfl, bt⟩
  · have OK := hid hok
    have hx6 := rvB_len hok
    clear hok
    go_wp2_with fail
    refine (isums_any _ xs _ A.rl).mono ?_
    rintro e w2 ⟨vo, rfl, O, b0⟩
    have m2 := Mod.of_below b0
    replace O := O.r
    replace A := A.mod m2 (by omega)
    have s2 := m2.size
    replace bt := m2.below0 bt bt.size
    clear b0
    rw [OK.out]
    go_wp2_with fail
    refine (ssums_any _ xs _ A.rl).mono ?_
    rintro e w3 ⟨vw, rfl, W, b0⟩
    have m3 := Mod.of_below b0
    replace W := W.r
    replace A := A.mod m3 (by omega)
    replace O := O.mod m3 (by omega)
    have s3 := m3.size
    replace bt := m3.below0 bt bt.size
    clear b0
    rw [OK.out]
    go_wp2_with fail
    refine (sameRow_m _ _ _ _ _ O.rl W.rl).mono ?_
    rintro e w4 ⟨rfl, m4⟩
    replace A := A.mod m4 (by omega)
    replace O := O.mod m4 (by omega)
    replace W := W.mod m4 (by omega)
    have s4 := m4.size
    replace bt := m4.below0 bt bt.size
    rw [sameB_self]
    have HG := hid (fun i (hi : i < xs.length) => sumsR_get OK.out hi)
    have HL := hid (sumsR_length OK.out)
    have HV := hid (sumsR_valid OK.out)
    have HBX := hid (fun k (hk : k < xs.length) => rvB_get OK.out hk)
    obtain ⟨aa, ca, hva, _, _, h3⟩ := id A.rl
    obtain ⟨ao, co, hvo, _, _, h4⟩ := id O.rl
    subst hva
    subst hvo
    have H3 := hid h3
    have H4 := hid h4
    clear h3 h4
    go_wp2_with fail
    go_loopw [8] (fun i wr => ∃ k : Nat, k ≤ xs.length ∧ i = .int .i64 (k : Int) ∧ ∃ n, wr = w4.drewN n) (fun i _ => xs.length - (intOf i).toNat)
    case atStart => exact ⟨0, Nat.zero_le _, rfl, 0, rfl⟩
    case round =>
      obtain ⟨k, hk, rfl, nd, rfl⟩ := hrel
      by_cases hlt : k < xs.length
      · obtain ⟨b, of, rfl, -, hc⟩ := H3.out k hlt
        obtain ⟨bo, oo, rfl, -, hco⟩ := H4.out k (by rw [HL.out]; exact hlt)
        rw [HG.out k hlt] at hco
        obtain ⟨hn1, hn2⟩ := HBX.out k hlt
        have hlo : (k : Int) < ((sumsR xs).length : Int) := by have := HL.out; omega
        have hk0 : (0 : Int) ≤ (k : Int) := by omega
        cases k with
        | zero =>
          have hp : psum xs 1 = xs.getD 0 0 := by show (0 + xs.getD 0 0) % 1009 = _; omega
          rw [hp] at hco
          obtain ⟨n, hn'⟩ : ∃ n, n = xs.getD 0 0 := ⟨_, rfl⟩
          rw [← hn'] at hc hco hn1 hn2
          clear hn' hp
          simp only [Nat.add_zero] at hc hco
          go_wp2
          go_roundw
          case rel => exact ⟨1, by omega, by go_num, nd, rfl⟩
          case measure => simp [intOf]; omega
        | succ j =>
          obtain ⟨bo', oo', hbo, -, hcp⟩ := H4.out j (by rw [HL.out]; omega)
          simp only [Option.some.injEq, Addr.mk.injEq, and_true] at hbo
          obtain ⟨rfl, rfl⟩ := hbo
          rw [HG.out j (by omega)] at hcp
          obtain ⟨hp1, hp2⟩ := psum_range xs (j + 1)
          have hps : psum xs (j + 1 + 1) = (psum xs (j + 1) + xs.getD (j + 1) 0) % 1009 := rfl
          rw [hps] at hco
          obtain ⟨n, hn'⟩ : ∃ n, n = xs.getD (j + 1) 0 := ⟨_, rfl⟩
          obtain ⟨p, hp'⟩ : ∃ p, p = psum xs (j + 1) := ⟨_, rfl⟩
          rw [← hn'] at hc hco hn1 hn2
          rw [← hp'] at hco hcp hp1 hp2
          clear hn' hp' hps
          have e0 : IntKind.i64.wrap ((j : Int) + 1 - 1) = (j : Int) := by rw [IntWalk.i64_in _ (by omega)]; omega
          have e1 : IntKind.i64.wrap (p + n) = p + n := IntWalk.i64_in _ (by omega)
          have e2 : (p + n).tmod 1009 = (p + n) % 1009 := Int.tmod_eq_emod_of_nonneg (by omega)
          have b1 : (0 : Int) ≤ (j : Int) := by omega
          have b2 : (j : Int) < ((sumsR xs).length : Int) := by omega
          have b3 : (j : Int) + 1 < (xs.length : Int) := by omega
          go_wp2
          go_quiet (fail)
          go_wp2
          go_roundw
          case rel => exact ⟨j + 1 + 1, by omega, by go_num, _, by first | rfl | exact World.drewN_drewN _ _ _⟩
          case measure => simp [intOf]; omega
      · obtain rfl : k = xs.length := by omega
        go_wp2_with fail
        refine (irv_any _ _ (w4.drewN nd) O.rl).mono ?_
        rintro e _ ⟨rfl, rfl⟩
        rw [HV.out]
        have hle : (((sumsR xs).length : Int) == (xs.length : Int)) = true := by rw [HL.out]; simp
        go_wp2_with fail
        go_ret
        exact ⟨rfl, bdrewN bt _⟩

theorem own : ownKnob Try.prog.godebug = none := by kernel_rfl
theorem laidOut : laidOutB Try.prog = true := by kernel_rfl
set_option maxRecDepth 100000 in
theorem lifted (os : Os) (started : os.Started) (H : Type) (enc : TypeId × Value → H) :
    ReturnsInHanded {} Try.checked os 5 .any (Rows.fnSumsSpec.pre6 enc Try.prog Try.f5 Rows.fnSumsRow.domain false) (Rows.fnSumsSpec.post enc Try.prog Try.f5 false true false false) := by
  refine returnsInHanded_of_change (C := Try.checked) own started (by kernel_rfl) Try.func5
    (ChangeSpec.witness6 (enc := enc) (C := Try.checked) false ⟨#[], #[.slice none 0 0], []⟩ 8 (by kernel_rfl) (by kernel_rfl) (by kernel_rfl) (by kernel_rfl)) ?_
  intro W base args ds gs before hval0 hW _ _
  have hval : ∀ (j : Nat) t v, Try.f5.params[j]? = some t → args[j]? = some v → Value.okWide Try.prog W .any base t v := hval0
  have hW' := hW
  obtain ⟨p, q, hA0, hV, rfl, _, _⟩ := hW
  have hA : DataW.TrodAll enc Try.prog W 0 (fun _ => true) true Try.f5.params.toList args.toList ds p := hA0
  rw [Try.params5] at hA hval
  obtain ⟨v0, vs0, d0, ds0, p0, q0, hargs, rfl, rfl, h0, r0⟩ := trodAll_cons hA
  obtain ⟨rfl, rfl, rfl⟩ := trodAll_nil r0
  obtain rfl : args = #[v0] := by cases args; simp_all
  obtain ⟨rfl, rfl⟩ := trodVars_none hV
  have k0 := h0
  have lt0 : ∀ x ∈ p0, x.block < W.heap.size := by obtain ⟨m, hm⟩ := k0; exact DataW.trod_lt m _ _ _ hm
  obtain ⟨x0, w0⟩ := open_bl (hval 0 29 v0 rfl rfl) h0
  clear hA0 hval0
  refine (walk v0 x0 W w0).mono fun e W' ⟨he, bel⟩ => ?_
  subst he
  exact ⟨_, rfl, _, _, _, [], _, [], hW', trodAll_mk1 (shut_bool Try.underlying4 _), (trodAll_cons_mk (Below.trod laidOut (by kernel_rfl) (of_decide_eq_true (by kernel_rfl)) k0 bel lt0) trodAll_mk0), rfl, bel.frame _, fun h => by cases h⟩

theorem over : Rows.fnSumsRow.holds Try.pinned (OpenSpec.ofChange Rows.fnSumsSpec) :=
  OpenClaim.holds_of_wide 5 Try.f5 rfl rfl rfl rfl rfl rfl rfl ⟨rfl, rfl, rfl, rfl, rfl⟩ rfl rfl rfl rfl rfl (by kernel_rfl) Try.func5 (by kernel_rfl)
    (of_decide_eq_true (by kernel_rfl)) (by unfold Func.isWrapper; first | (rw [if_pos (by decide +kernel)]; kernel_rfl) | (rw [if_neg (by decide +kernel)]; exact ⟨rfl, rfl⟩))
    (fun os started H enc _ => lifted os started H enc)

theorem proved : Rows.FnSumsSaid := over
end Go.Proofs.Ytpemhahingoocaa.fnSums
