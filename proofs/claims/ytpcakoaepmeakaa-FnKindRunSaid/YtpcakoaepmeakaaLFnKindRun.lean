/- A kind keeps how many values there are. No condition. -/
import Derived.Test.YtpcakoaepmeakaaRows
import Derived.Test.YtpcakoaepmeakaaArgs
import Derived.Test.YtpcakoaepmeakaaRunHelp
namespace Go.Proofs.Ytpcakoaepmeakaa.fnKindRun
open Go.ChangeShapes Go.WideShapes Go.ChangeAt Go.RowKit

set_option maxHeartbeats 4000000 in
theorem walk (v0 : Value) (x0 : List Int) (w : World) (w0 : BL w v0 x0) :
    Calls Try.prog 4 #[v0] w fun e w' => e = .returned (.bool true) ∧ Below w.heap.size w w' := by
  obtain ⟨a0, c0, rfl, -⟩ := id w0
  by_cases hl0 : 1048576 < x0.length
  · go_enter Try.func4, Try.ntmps4
    go_wp2_with fail
    go_ret
    exact ⟨rfl, Below.refl _ _⟩
  have hl0' : x0.length ≤ 1048576 := by omega
  clear hl0
  go_enter Try.func4, Try.ntmps4
  go_wp2_with fail
  refine (drawRun_any _ x0 w w0).mono ?_
  rintro e w1 ⟨k, va, xss, rfl, A, hxl, hk0, hk5, bt⟩
  obtain ⟨aa, ca, rfl, hca, -⟩ := id A
  have s1 := bt.size
  cases hok : krB k xss
  · have OK := hid hok
    clear hok
    go_wp2_with fail
    refine (ikr_any k _ _ xss _ A).mono ?_
    rintro e w2 ⟨vo, rfl, O, b0⟩
    have m2 := Mod.of_below b0
    replace O := O.r
    replace A := A.mod m2 (by omega)
    have s2 := m2.size
    replace bt := m2.below0 bt bt.size
    clear b0
    rw [OK.out]
    go_wp2_with fail
    refine (skr_any k _ _ xss _ A).mono ?_
    rintro e w3 ⟨vw, rfl, W, b0⟩
    have m3 := Mod.of_below b0
    replace W := W.r
    replace A := A.mod m3 (by omega)
    replace O := O.mod m3 (by omega)
    have s3 := m3.size
    replace bt := m3.below0 bt bt.size
    clear b0
    rw [OK.out]
    go_wp2_with fail
    refine (sameRow_m _ _ _ _ _ O.rl W.rl).mono ?_
    rintro e w4 ⟨rfl, m4⟩
    replace A := A.mod m4 (by omega)
    replace O := O.mod m4 (by omega)
    replace W := W.mod m4 (by omega)
    have s4 := m4.size
    replace bt := m4.below0 bt bt.size
    rw [sameB_self]
    go_wp2_with fail
    refine (sameRow_m _ _ _ _ _ O.rl W.rl).mono ?_
    rintro e w5 ⟨rfl, m5⟩
    replace A := A.mod m5 (by omega)
    replace O := O.mod m5 (by omega)
    replace W := W.mod m5 (by omega)
    have s5 := m5.size
    replace bt := m5.below0 bt bt.size
    rw [sameB_self]
    go_wp2_with fail
    go_ret
    exact ⟨rfl, bt⟩
  rcases krB_true hok with ⟨xa, xb, rfl, hb, hk⟩ | ⟨xa, rfl, hb, hk⟩
  · have OK := hid hok
    have HB := hid hb
    clear hok hb
    go_wp2_with fail
    refine (ikr_any k _ _ _ _ A).mono ?_
    rintro e w2 ⟨vo, rfl, O, b0⟩
    have m2 := Mod.of_below b0
    replace O := O.r
    replace A := A.mod m2 (by omega)
    have s2 := m2.size
    replace bt := m2.below0 bt bt.size
    clear b0
    rw [OK.out]
    go_wp2_with fail
    refine (skr_any k _ _ _ _ A).mono ?_
    rintro e w3 ⟨vw, rfl, W, b0⟩
    have m3 := Mod.of_below b0
    replace W := W.r
    replace A := A.mod m3 (by omega)
    replace O := O.mod m3 (by omega)
    have s3 := m3.size
    replace bt := m3.below0 bt bt.size
    clear b0
    rw [OK.out]
    go_wp2_with fail
    refine (sameRow_m _ _ _ _ _ O.rl W.rl).mono ?_
    rintro e w4 ⟨rfl, m4⟩
    replace A := A.mod m4 (by omega)
    replace O := O.mod m4 (by omega)
    replace W := W.mod m4 (by omega)
    have s4 := m4.size
    replace bt := m4.below0 bt bt.size
    rw [sameB_self]
    have hol : (krL k [xa, xb]).length = xa.length ∧ rvB (krL k [xa, xb]) = true := by
      rcases hk with rfl | rfl
      · rw [krL_two_add]; exact ⟨joinR_length HB.out, add_valid HB.out⟩
      · rw [krL_two_mul]; exact ⟨joinR_length HB.out, mul_valid HB.out⟩
    have hkn : knI k = 2 := by rcases hk with rfl | rfl <;> rfl
    obtain ⟨hva, hvb, hll⟩ := bothB_parts HB.out
    obtain ⟨hol, hov⟩ := hol
    generalize krL k [xa, xb] = zs at O hol hov
    obtain ⟨ao, co, rfl, hco, -⟩ := id O.rl
    obtain ⟨_, _, e', h1, h2, h3, h4⟩ := id A
    cases e'
    obtain ⟨b, o, u, rfl, hb, hc, hr⟩ := h4 0 (by simp)
    rw [Nat.add_zero] at hc
    obtain ⟨b', o', u', e', hb', hc', hr'⟩ := h4 1 (by simp)
    simp only [Option.some.injEq, Addr.mk.injEq, and_true] at e'
    obtain ⟨rfl, rfl⟩ := e'
    have b0 : 0 < ([xa, xb] : List (List Int)).length := by simp
    have b1 : (0 : Int) < (([xa, xb] : List (List Int)).length : Int) := by simp
    have b2 : (1 : Int) < (([xa, xb] : List (List Int)).length : Int) := by simp
    clear h4
    obtain ⟨au, cu, rfl, -⟩ := id hr
    obtain ⟨au', cu', rfl, -⟩ := id hr'
    simp only [List.getD_cons_zero, List.getD_cons_succ] at hr hc hr' hc'
    clear b0 b1 b2
    have HVA := hid hva
    have HOV := hid hov
    have HKN := hid hkn
    have e1 : ((xa.length : Int) != (zs.length : Int)) = false := by rw [hol]; simp
    have HVB := hid hvb
    have e2 : ((xb.length : Int) != (zs.length : Int)) = false := by rw [hol, ← hll]; simp
    clear hva hov hkn hvb hll
    clear hol
    go_wp2_with fail
    skip
    refine wp_loop_rounds 3 ?_
    rw [rounds_succ]
    go_wp2_with fail
    refine (irv_any _ xa _ hr.rl).mono ?_
    rintro e _ ⟨rfl, rfl⟩
    rw [HVA.out]
    go_wp2_with fail
    rw [rounds_succ]
    go_wp2_with fail
    refine (irv_any _ xb _ hr'.rl).mono ?_
    rintro e _ ⟨rfl, rfl⟩
    rw [HVB.out]
    go_wp2_with fail
    rw [rounds_succ]
    go_wp2_with fail
    refine (ikn_any _ _).mono ?_
    rintro e w5 ⟨rfl, m5⟩
    replace A := A.mod m5 (by omega)
    replace O := O.mod m5 (by omega)
    have s5 := m5.size
    replace bt := m5.below0 bt bt.size
    rw [HKN.out]
    go_wp2_with fail
    refine (irv_any _ zs _ O.rl).mono ?_
    rintro e _ ⟨rfl, rfl⟩
    rw [HOV.out]
    go_wp2_with fail
    go_ret
    exact ⟨rfl, bt⟩
  · have OK := hid hok
    have HB := hid hb
    clear hok hb
    go_wp2_with fail
    refine (ikr_any k _ _ _ _ A).mono ?_
    rintro e w2 ⟨vo, rfl, O, b0⟩
    have m2 := Mod.of_below b0
    replace O := O.r
    replace A := A.mod m2 (by omega)
    have s2 := m2.size
    replace bt := m2.below0 bt bt.size
    clear b0
    rw [OK.out]
    go_wp2_with fail
    refine (skr_any k _ _ _ _ A).mono ?_
    rintro e w3 ⟨vw, rfl, W, b0⟩
    have m3 := Mod.of_below b0
    replace W := W.r
    replace A := A.mod m3 (by omega)
    replace O := O.mod m3 (by omega)
    have s3 := m3.size
    replace bt := m3.below0 bt bt.size
    clear b0
    rw [OK.out]
    go_wp2_with fail
    refine (sameRow_m _ _ _ _ _ O.rl W.rl).mono ?_
    rintro e w4 ⟨rfl, m4⟩
    replace A := A.mod m4 (by omega)
    replace O := O.mod m4 (by omega)
    replace W := W.mod m4 (by omega)
    have s4 := m4.size
    replace bt := m4.below0 bt bt.size
    rw [sameB_self]
    have hol : (krL k [xa]).length = xa.length ∧ rvB (krL k [xa]) = true := by
      rcases hk with rfl | rfl | rfl
      · rw [krL_one_sums]; exact ⟨sumsR_length HB.out, sumsR_valid HB.out⟩
      · rw [krL_one_sort, sortR_of HB.out]; exact ⟨sortL_length xa, (rvB_perm (sortL_perm xa)).trans HB.out⟩
      · rw [krL_one_turn, turnR_of HB.out]; exact ⟨List.length_reverse, rvB_rev HB.out⟩
    have hkn : knI k = 1 := by rcases hk with rfl | rfl | rfl <;> rfl
    have hva := HB.out
    obtain ⟨hol, hov⟩ := hol
    generalize krL k [xa] = zs at O hol hov
    obtain ⟨ao, co, rfl, hco, -⟩ := id O.rl
    obtain ⟨_, _, e', h1, h2, h3, h4⟩ := id A
    cases e'
    obtain ⟨b, o, u, rfl, hb, hc, hr⟩ := h4 0 (by simp)
    rw [Nat.add_zero] at hc
    have b0 : 0 < ([xa] : List (List Int)).length := by simp
    have b1 : (0 : Int) < (([xa] : List (List Int)).length : Int) := by simp
    clear h4
    obtain ⟨au, cu, rfl, -⟩ := id hr
    simp only [List.getD_cons_zero, List.getD_cons_succ] at hr hc
    clear b0 b1
    have HVA := hid hva
    have HOV := hid hov
    have HKN := hid hkn
    have e1 : ((xa.length : Int) != (zs.length : Int)) = false := by rw [hol]; simp
    clear hva hov hkn
    clear hol
    go_wp2_with fail
    skip
    refine wp_loop_rounds 2 ?_
    rw [rounds_succ]
    go_wp2_with fail
    refine (irv_any _ xa _ hr.rl).mono ?_
    rintro e _ ⟨rfl, rfl⟩
    rw [HVA.out]
    go_wp2_with fail
    rw [rounds_succ]
    go_wp2_with fail
    refine (ikn_any _ _).mono ?_
    rintro e w5 ⟨rfl, m5⟩
    replace A := A.mod m5 (by omega)
    replace O := O.mod m5 (by omega)
    have s5 := m5.size
    replace bt := m5.below0 bt bt.size
    rw [HKN.out]
    go_wp2_with fail
    refine (irv_any _ zs _ O.rl).mono ?_
    rintro e _ ⟨rfl, rfl⟩
    rw [HOV.out]
    go_wp2_with fail
    go_ret
    exact ⟨rfl, bt⟩

theorem own : ownKnob Try.prog.godebug = none := by kernel_rfl
theorem laidOut : laidOutB Try.prog = true := by kernel_rfl
set_option maxRecDepth 100000 in
theorem lifted (os : Os) (started : os.Started) (H : Type) (enc : TypeId × Value → H) :
    ReturnsInHanded {} Try.checked os 4 .any (Rows.fnKindRunSpec.pre6 enc Try.prog Try.f4 Rows.fnKindRunRow.domain false) (Rows.fnKindRunSpec.post enc Try.prog Try.f4 false true false false) := by
  refine returnsInHanded_of_change (C := Try.checked) own started (by kernel_rfl) Try.func4
    (ChangeSpec.witness6 (enc := enc) (C := Try.checked) false ⟨#[], #[.slice none 0 0], []⟩ 8 (by kernel_rfl) (by kernel_rfl) (by kernel_rfl) (by kernel_rfl)) ?_
  intro W base args ds gs before hval0 hW _ _
  have hval : ∀ (j : Nat) t v, Try.f4.params[j]? = some t → args[j]? = some v → Value.okWide Try.prog W .any base t v := hval0
  have hW' := hW
  obtain ⟨p, q, hA0, hV, rfl, _, _⟩ := hW
  have hA : DataW.TrodAll enc Try.prog W 0 (fun _ => true) true Try.f4.params.toList args.toList ds p := hA0
  rw [Try.params4] at hA hval
  obtain ⟨v0, vs0, d0, ds0, p0, q0, hargs, rfl, rfl, h0, r0⟩ := trodAll_cons hA
  obtain ⟨rfl, rfl, rfl⟩ := trodAll_nil r0
  obtain rfl : args = #[v0] := by cases args; simp_all
  obtain ⟨rfl, rfl⟩ := trodVars_none hV
  have k0 := h0
  have lt0 : ∀ x ∈ p0, x.block < W.heap.size := by obtain ⟨m, hm⟩ := k0; exact DataW.trod_lt m _ _ _ hm
  obtain ⟨x0, w0⟩ := open_bl (hval 0 22 v0 rfl rfl) h0
  clear hA0 hval0
  refine (walk v0 x0 W w0).mono fun e W' ⟨he, bel⟩ => ?_
  subst he
  exact ⟨_, rfl, _, _, _, [], _, [], hW', trodAll_mk1 (shut_bool Try.underlying4 _), (trodAll_cons_mk (Below.trod laidOut (by kernel_rfl) (of_decide_eq_true (by kernel_rfl)) k0 bel lt0) trodAll_mk0), rfl, bel.frame _, fun h => by cases h⟩

theorem over : Rows.fnKindRunRow.holds Try.pinned (OpenSpec.ofChange Rows.fnKindRunSpec) :=
  OpenClaim.holds_of_wide 4 Try.f4 rfl rfl rfl rfl rfl rfl rfl ⟨rfl, rfl, rfl, rfl, rfl⟩ rfl rfl rfl rfl rfl (by kernel_rfl) Try.func4 (by kernel_rfl)
    (of_decide_eq_true (by kernel_rfl)) (by unfold Func.isWrapper; first | (rw [if_pos (by decide +kernel)]; kernel_rfl) | (rw [if_neg (by decide +kernel)]; exact ⟨rfl, rfl⟩))
    (fun os started H enc _ => lifted os started H enc)

theorem proved : Rows.FnKindRunSaid := over
end Go.Proofs.Ytpcakoaepmeakaa.fnKindRun
