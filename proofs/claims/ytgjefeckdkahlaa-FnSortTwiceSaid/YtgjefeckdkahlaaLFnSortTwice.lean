/- Sorting twice is sorting once. No condition. -/
import Derived.Test.YtgjefeckdkahlaaRows
import Derived.Test.YtgjefeckdkahlaaArgs
import Derived.Test.YtgjefeckdkahlaaDrawSort
import Derived.Test.YtgjefeckdkahlaaSort
import Derived.Test.YtgjefeckdkahlaaSpecSort
import Derived.Test.YtgjefeckdkahlaaTurn
import Derived.Test.YtgjefeckdkahlaaSameRow
namespace Go.Proofs.Ytgjefeckdkahlaa.fnSortTwice
open Go.ChangeShapes Go.WideShapes Go.ChangeAt Go.RowKit

set_option maxHeartbeats 4000000 in
theorem walk (v0 : Value) (x0 : List Int) (w : World) (w0 : BL w v0 x0) :
    Calls Try.prog 5 #[v0] w fun e w' => e = .returned (.bool true) ∧ Below w.heap.size w w' := by
  obtain ⟨a0, c0, rfl, -⟩ := id w0
  by_cases hl0 : 1048576 < x0.length
  · go_enter Try.func5, Try.ntmps5
    go_wp2_with fail
    go_ret
    exact ⟨rfl, Below.refl _ _⟩
  have hl0' : x0.length ≤ 1048576 := by omega
  clear hl0
  go_enter Try.func5, Try.ntmps5
  go_wp2_with fail
  refine (drawSort_any _ x0 w w0).mono ?_
  rintro e w1 ⟨va, xs, rfl, A, hxl, bt⟩
  replace A := A.r
  have s1 := bt.size
  cases hok : rvB xs
  · have OK := hid hok
    clear hok
    go_wp2_with fail
    refine (isort_any _ xs _ A.rl).mono ?_
    rintro e w2 ⟨vo, rfl, O, b0⟩
    have m2 := Mod.of_below b0
    replace O := O.r
    replace A := A.mod m2 (by omega)
    have s2 := m2.size
    replace bt := m2.below0 bt bt.size
    clear b0
    rw [OK.out]
    go_wp2_with fail
    refine (ssort_any _ xs _ A.rl).mono ?_
    rintro e w3 ⟨vw, rfl, W, b0⟩
    have m3 := Mod.of_below b0
    replace W := W.r
    replace A := A.mod m3 (by omega)
    replace O := O.mod m3 (by omega)
    have s3 := m3.size
    replace bt := m3.below0 bt bt.size
    clear b0
    rw [OK.out]
    go_wp2_with fail
    refine (sameRow_m _ _ _ _ _ O.rl W.rl).mono ?_
    rintro e w4 ⟨rfl, m4⟩
    replace A := A.mod m4 (by omega)
    replace O := O.mod m4 (by omega)
    replace W := W.mod m4 (by omega)
    have s4 := m4.size
    replace bt := m4.below0 bt bt.size
    rw [sameB_self]
    go_wp2_with fail
    refine (sameRow_m _ _ _ _ _ O.rl W.rl).mono ?_
    rintro e w5 ⟨rfl, m5⟩
    replace A := A.mod m5 (by omega)
    replace O := O.mod m5 (by omega)
    replace W := W.mod m5 (by omega)
    have s5 := m5.size
    replace bt := m5.below0 bt bt.size
    rw [sameB_self]
    go_wp2_with fail
    go_ret
    exact ⟨rfl, bt⟩
  · have OK := hid hok
    have hx6 := rvB_len hok
    clear hok
    go_wp2_with fail
    refine (isort_any _ xs _ A.rl).mono ?_
    rintro e w2 ⟨vo, rfl, O, b0⟩
    have m2 := Mod.of_below b0
    replace O := O.r
    replace A := A.mod m2 (by omega)
    have s2 := m2.size
    replace bt := m2.below0 bt bt.size
    clear b0
    rw [OK.out]
    go_wp2_with fail
    refine (ssort_any _ xs _ A.rl).mono ?_
    rintro e w3 ⟨vw, rfl, W, b0⟩
    have m3 := Mod.of_below b0
    replace W := W.r
    replace A := A.mod m3 (by omega)
    replace O := O.mod m3 (by omega)
    have s3 := m3.size
    replace bt := m3.below0 bt bt.size
    clear b0
    rw [OK.out]
    go_wp2_with fail
    refine (sameRow_m _ _ _ _ _ O.rl W.rl).mono ?_
    rintro e w4 ⟨rfl, m4⟩
    replace A := A.mod m4 (by omega)
    replace O := O.mod m4 (by omega)
    replace W := W.mod m4 (by omega)
    have s4 := m4.size
    replace bt := m4.below0 bt bt.size
    rw [sameB_self]
    have HS := hid (sortR_of OK.out)
    rw [HS.out] at O
    have V1 := hid ((rvB_perm (sortL_perm xs)).trans OK.out)
    have VR := hid (rvB_rev OK.out)
    have T1 := hid (sortR_of V1.out)
    have T2 := hid (turnR_of OK.out)
    have T3 := hid (sortR_of VR.out)
    go_wp2_with fail
    refine (isort_any _ _ _ O.rl).mono ?_
    rintro e w5 ⟨vx, rfl, X, b0⟩
    have m5 := Mod.of_below b0
    replace X := X.r
    replace A := A.mod m5 (by omega)
    replace O := O.mod m5 (by omega)
    have s5 := m5.size
    replace bt := m5.below0 bt bt.size
    clear b0
    rw [V1.out]
    rw [T1.out, sortL_twice] at X
    go_wp2_with fail
    refine (iturn_any _ xs _ A.rl).mono ?_
    rintro e w6 ⟨vy, rfl, Y, b0⟩
    have m6 := Mod.of_below b0
    replace Y := Y.r
    replace A := A.mod m6 (by omega)
    replace O := O.mod m6 (by omega)
    replace X := X.mod m6 (by omega)
    have s6 := m6.size
    replace bt := m6.below0 bt bt.size
    clear b0
    rw [OK.out]
    rw [T2.out] at Y
    go_wp2_with fail
    refine (isort_any _ _ _ Y.rl).mono ?_
    rintro e w7 ⟨vz, rfl, Z, b0⟩
    have m7 := Mod.of_below b0
    replace Z := Z.r
    replace A := A.mod m7 (by omega)
    replace O := O.mod m7 (by omega)
    replace X := X.mod m7 (by omega)
    replace Y := Y.mod m7 (by omega)
    have s7 := m7.size
    replace bt := m7.below0 bt bt.size
    clear b0
    rw [VR.out]
    rw [T3.out, sortL_rev] at Z
    go_wp2_with fail
    refine (sameRow_m _ _ _ _ _ X.rl O.rl).mono ?_
    rintro e w8 ⟨rfl, m8⟩
    replace A := A.mod m8 (by omega)
    replace O := O.mod m8 (by omega)
    replace X := X.mod m8 (by omega)
    replace Y := Y.mod m8 (by omega)
    replace Z := Z.mod m8 (by omega)
    have s8 := m8.size
    replace bt := m8.below0 bt bt.size
    rw [sameB_self]
    go_wp2_with fail
    refine (sameRow_m _ _ _ _ _ Z.rl O.rl).mono ?_
    rintro e w9 ⟨rfl, m9⟩
    replace A := A.mod m9 (by omega)
    replace O := O.mod m9 (by omega)
    replace X := X.mod m9 (by omega)
    replace Y := Y.mod m9 (by omega)
    replace Z := Z.mod m9 (by omega)
    have s9 := m9.size
    replace bt := m9.below0 bt bt.size
    rw [sameB_self]
    go_wp2_with fail
    go_ret
    exact ⟨rfl, bt⟩

theorem own : ownKnob Try.prog.godebug = none := by kernel_rfl
theorem laidOut : laidOutB Try.prog = true := by kernel_rfl
set_option maxRecDepth 100000 in
theorem lifted (os : Os) (started : os.Started) (H : Type) (enc : TypeId × Value → H) :
    ReturnsInHanded {} Try.checked os 5 .any (Rows.fnSortTwiceSpec.pre6 enc Try.prog Try.f5 Rows.fnSortTwiceRow.domain false) (Rows.fnSortTwiceSpec.post enc Try.prog Try.f5 false true false false) := by
  refine returnsInHanded_of_change (C := Try.checked) own started (by kernel_rfl) Try.func5
    (ChangeSpec.witness6 (enc := enc) (C := Try.checked) false ⟨#[], #[.slice none 0 0], []⟩ 8 (by kernel_rfl) (by kernel_rfl) (by kernel_rfl) (by kernel_rfl)) ?_
  intro W base args ds gs before hval0 hW _ _
  have hval : ∀ (j : Nat) t v, Try.f5.params[j]? = some t → args[j]? = some v → Value.okWide Try.prog W .any base t v := hval0
  have hW' := hW
  obtain ⟨p, q, hA0, hV, rfl, _, _⟩ := hW
  have hA : DataW.TrodAll enc Try.prog W 0 (fun _ => true) true Try.f5.params.toList args.toList ds p := hA0
  rw [Try.params5] at hA hval
  obtain ⟨v0, vs0, d0, ds0, p0, q0, hargs, rfl, rfl, h0, r0⟩ := trodAll_cons hA
  obtain ⟨rfl, rfl, rfl⟩ := trodAll_nil r0
  obtain rfl : args = #[v0] := by cases args; simp_all
  obtain ⟨rfl, rfl⟩ := trodVars_none hV
  have k0 := h0
  have lt0 : ∀ x ∈ p0, x.block < W.heap.size := by obtain ⟨m, hm⟩ := k0; exact DataW.trod_lt m _ _ _ hm
  obtain ⟨x0, w0⟩ := open_bl (hval 0 29 v0 rfl rfl) h0
  clear hA0 hval0
  refine (walk v0 x0 W w0).mono fun e W' ⟨he, bel⟩ => ?_
  subst he
  exact ⟨_, rfl, _, _, _, [], _, [], hW', trodAll_mk1 (shut_bool Try.underlying4 _), (trodAll_cons_mk (Below.trod laidOut (by kernel_rfl) (of_decide_eq_true (by kernel_rfl)) k0 bel lt0) trodAll_mk0), rfl, bel.frame _, fun h => by cases h⟩

theorem over : Rows.fnSortTwiceRow.holds Try.pinned (OpenSpec.ofChange Rows.fnSortTwiceSpec) :=
  OpenClaim.holds_of_wide 5 Try.f5 rfl rfl rfl rfl rfl rfl rfl ⟨rfl, rfl, rfl, rfl, rfl⟩ rfl rfl rfl rfl rfl (by kernel_rfl) Try.func5 (by kernel_rfl)
    (of_decide_eq_true (by kernel_rfl)) (by unfold Func.isWrapper; first | (rw [if_pos (by decide +kernel)]; kernel_rfl) | (rw [if_neg (by decide +kernel)]; exact ⟨rfl, rfl⟩))
    (fun os started H enc _ => lifted os started H enc)

theorem proved : Rows.FnSortTwiceSaid := over
end Go.Proofs.Ytgjefeckdkahlaa.fnSortTwice
