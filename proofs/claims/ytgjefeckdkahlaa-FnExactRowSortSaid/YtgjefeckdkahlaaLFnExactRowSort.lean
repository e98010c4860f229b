/- The program's RowSort returns what the reference's returns, for all arguments. No condition. -/
import Derived.Test.YtgjefeckdkahlaaRows
import Derived.Test.YtgjefeckdkahlaaArgs
import Derived.Test.YtgjefeckdkahlaaLawInt
import Derived.Test.YtgjefeckdkahlaaSort
import Derived.Test.YtgjefeckdkahlaaSpecSort
namespace Go.Proofs.Ytgjefeckdkahlaa.fnExactRowSort
open Go.ChangeShapes Go.WideShapes Go.ChangeAt Go.RowKit

set_option maxHeartbeats 4000000 in
theorem walk (v0 : Value) (x0 : List Int) (w : World) (w0 : RL w v0 x0) :
    Calls Try.prog 3 #[v0] w fun e w' => e = .returned (.bool true) ∧ Below w.heap.size w w' := by
  obtain ⟨a0, c0, rfl, -⟩ := id w0
  obtain ⟨out, hout⟩ : ∃ out, out = sortR x0 := ⟨_, rfl⟩
  obtain ⟨ok, hok⟩ : ∃ ok, ok = rvB x0 := ⟨_, rfl⟩
  have hol : out.length ≤ 1048576 := by rw [hout]; exact sortR_len _
  have hs : ∀ v w, RL w v x0 → Calls Try.prog 15 #[v] w (PostIB w out ok) := fun v w h => by rw [hout, hok]; exact ssort_any v x0 w h
  have hi : ∀ v w, RL w v x0 → Calls Try.prog 17 #[v] w (PostIB w out ok) := fun v w h => by rw [hout, hok]; exact isort_any v x0 w h
  have HS := hid hs
  have HI := hid hi
  clear hs hi hout hok
  by_cases hl0 : 1048576 < x0.length
  · go_enter Try.func3, Try.ntmps3
    go_wp2_with fail
    go_ret
    exact ⟨rfl, Below.refl _ _⟩
  have hl0' : x0.length ≤ 1048576 := by omega
  clear hl0
  have bt := Below.refl w.heap.size w
  have A0 := w0.rr
  go_enter Try.func3, Try.ntmps3
  go_wp2_with fail
  refine (toInt_any _ x0 _ A0.rl hl0').mono ?_
  rintro e w101 ⟨t0, rfl, T0, b0⟩
  have m1 := Mod.of_below b0
  replace T0 := T0.r
  replace A0 := A0.mod m1 (by omega)
  have s1 := m1.size
  replace bt := m1.below0 bt bt.size
  clear b0
  go_wp2_with fail
  refine (HS.out _ _ T0.rl).mono ?_
  rintro e w102 ⟨gw, rfl, GW, b0⟩
  have m2 := Mod.of_below b0
  replace GW := GW.r
  replace A0 := A0.mod m2 (by omega)
  replace T0 := T0.mod m2 (by omega)
  have s2 := m2.size
  replace bt := m2.below0 bt bt.size
  clear b0
  go_wp2_with fail
  refine (toInt_any _ x0 _ A0.rl hl0').mono ?_
  rintro e w103 ⟨y0, rfl, Y0, b0⟩
  have m3 := Mod.of_below b0
  replace Y0 := Y0.r
  replace A0 := A0.mod m3 (by omega)
  replace GW := GW.mod m3 (by omega)
  have s3 := m3.size
  replace bt := m3.below0 bt bt.size
  clear b0
  go_wp2_with fail
  refine (HI.out _ _ Y0.rl).mono ?_
  rintro e w104 ⟨g0, rfl, G0, b0⟩
  have m4 := Mod.of_below b0
  replace G0 := G0.r
  replace A0 := A0.mod m4 (by omega)
  replace GW := GW.mod m4 (by omega)
  replace Y0 := Y0.mod m4 (by omega)
  have s4 := m4.size
  replace bt := m4.below0 bt bt.size
  clear b0
  go_wp2_with fail
  refine (eqInt_m _ _ out out _ G0.rl GW.rl).mono ?_
  rintro e w105 ⟨rfl, m5⟩
  replace A0 := A0.mod m5 (by omega)
  replace GW := GW.mod m5 (by omega)
  replace Y0 := Y0.mod m5 (by omega)
  replace G0 := G0.mod m5 (by omega)
  have s5 := m5.size
  replace bt := m5.below0 bt bt.size
  rw [sameB_self]
  go_wp2_with fail
  refine (toInt_any _ x0 _ A0.rl hl0').mono ?_
  rintro e w106 ⟨u0, rfl, U0, b0⟩
  have m6 := Mod.of_below b0
  replace U0 := U0.r
  replace A0 := A0.mod m6 (by omega)
  replace GW := GW.mod m6 (by omega)
  replace Y0 := Y0.mod m6 (by omega)
  replace G0 := G0.mod m6 (by omega)
  have s6 := m6.size
  replace bt := m6.below0 bt bt.size
  clear b0
  go_wp2_with fail
  refine (eqInt_m _ _ x0 x0 _ Y0.rl U0.rl).mono ?_
  rintro e w107 ⟨rfl, m7⟩
  replace A0 := A0.mod m7 (by omega)
  replace GW := GW.mod m7 (by omega)
  replace Y0 := Y0.mod m7 (by omega)
  replace G0 := G0.mod m7 (by omega)
  replace U0 := U0.mod m7 (by omega)
  have s7 := m7.size
  replace bt := m7.below0 bt bt.size
  rw [sameB_self]
  go_wp2_with fail
  refine (markInt_r _ x0 1 _ _ _ Y0 (by omega) (by omega) hl0').mono ?_
  rintro e w108 ⟨rfl, Y0, m8⟩
  replace A0 := A0.mod m8 (by omega)
  replace GW := GW.mod m8 (by omega)
  replace G0 := G0.mod m8 (by omega)
  have s8 := m8.size
  replace bt := m8.below bt (by omega) bt.size
  go_wp2_with fail
  refine (eqInt_m _ _ out out _ G0.rl GW.rl).mono ?_
  rintro e w109 ⟨rfl, m9⟩
  replace A0 := A0.mod m9 (by omega)
  replace GW := GW.mod m9 (by omega)
  replace G0 := G0.mod m9 (by omega)
  have s9 := m9.size
  replace bt := m9.below0 bt bt.size
  rw [sameB_self]
  go_wp2_with fail
  refine (markInt_r _ out 1 _ _ _ G0 (by omega) (by omega) hol).mono ?_
  rintro e w110 ⟨rfl, G0, m10⟩
  replace A0 := A0.mod m10 (by omega)
  replace GW := GW.mod m10 (by omega)
  have s10 := m10.size
  replace bt := m10.below bt (by omega) bt.size
  go_wp2_with fail
  refine (heldInt_any _ 1 out.length _ G0.rl (by omega) (by omega) hol).mono ?_
  rintro e _ ⟨rfl, rfl⟩
  go_wp2_with fail
  refine (toInt_any _ x0 _ A0.rl hl0').mono ?_
  rintro e w111 ⟨z0, rfl, Z0, b0⟩
  have m11 := Mod.of_below b0
  replace Z0 := Z0.r
  replace A0 := A0.mod m11 (by omega)
  replace GW := GW.mod m11 (by omega)
  replace G0 := G0.mod m11 (by omega)
  have s11 := m11.size
  replace bt := m11.below0 bt bt.size
  clear b0
  go_wp2_with fail
  refine (HI.out _ _ Z0.rl).mono ?_
  rintro e w112 ⟨h0, rfl, H0, b0⟩
  have m12 := Mod.of_below b0
  replace H0 := H0.r
  replace A0 := A0.mod m12 (by omega)
  replace GW := GW.mod m12 (by omega)
  replace G0 := G0.mod m12 (by omega)
  replace Z0 := Z0.mod m12 (by omega)
  have s12 := m12.size
  replace bt := m12.below0 bt bt.size
  clear b0
  go_wp2_with fail
  refine (eqInt_m _ _ out out _ H0.rl GW.rl).mono ?_
  rintro e w113 ⟨rfl, m13⟩
  replace A0 := A0.mod m13 (by omega)
  replace GW := GW.mod m13 (by omega)
  replace G0 := G0.mod m13 (by omega)
  replace Z0 := Z0.mod m13 (by omega)
  replace H0 := H0.mod m13 (by omega)
  have s13 := m13.size
  replace bt := m13.below0 bt bt.size
  rw [sameB_self]
  go_wp2_with fail
  refine (heldInt_any _ 1 out.length _ G0.rl (by omega) (by omega) hol).mono ?_
  rintro e _ ⟨rfl, rfl⟩
  go_wp2_with fail
  go_ret
  exact ⟨rfl, bt⟩

theorem own : ownKnob Try.prog.godebug = none := by kernel_rfl
theorem laidOut : laidOutB Try.prog = true := by kernel_rfl
set_option maxRecDepth 100000 in
theorem lifted (os : Os) (started : os.Started) (H : Type) (enc : TypeId × Value → H) :
    ReturnsInHanded {} Try.checked os 3 .any (Rows.fnExactRowSortSpec.pre6 enc Try.prog Try.f3 Rows.fnExactRowSortRow.domain false) (Rows.fnExactRowSortSpec.post enc Try.prog Try.f3 false true false false) := by
  refine returnsInHanded_of_change (C := Try.checked) own started (by kernel_rfl) Try.func3
    (ChangeSpec.witness6 (enc := enc) (C := Try.checked) false ⟨#[], #[.slice none 0 0], []⟩ 8 (by kernel_rfl) (by kernel_rfl) (by kernel_rfl) (by kernel_rfl)) ?_
  intro W base args ds gs before hval0 hW _ _
  have hval : ∀ (j : Nat) t v, Try.f3.params[j]? = some t → args[j]? = some v → Value.okWide Try.prog W .any base t v := hval0
  have hW' := hW
  obtain ⟨p, q, hA0, hV, rfl, _, _⟩ := hW
  have hA : DataW.TrodAll enc Try.prog W 0 (fun _ => true) true Try.f3.params.toList args.toList ds p := hA0
  rw [Try.params3] at hA hval
  obtain ⟨v0, vs0, d0, ds0, p0, q0, hargs, rfl, rfl, h0, r0⟩ := trodAll_cons hA
  obtain ⟨rfl, rfl, rfl⟩ := trodAll_nil r0
  obtain rfl : args = #[v0] := by cases args; simp_all
  obtain ⟨rfl, rfl⟩ := trodVars_none hV
  have k0 := h0
  have lt0 : ∀ x ∈ p0, x.block < W.heap.size := by obtain ⟨m, hm⟩ := k0; exact DataW.trod_lt m _ _ _ hm
  obtain ⟨x0, w0⟩ := open_rl (hval 0 22 v0 rfl rfl) h0
  clear hA0 hval0
  refine (walk v0 x0 W w0).mono fun e W' ⟨he, bel⟩ => ?_
  subst he
  exact ⟨_, rfl, _, _, _, [], _, [], hW', trodAll_mk1 (shut_bool Try.underlying4 _), (trodAll_cons_mk (Below.trod laidOut (by kernel_rfl) (of_decide_eq_true (by kernel_rfl)) k0 bel lt0) trodAll_mk0), rfl, bel.frame _, fun h => by cases h⟩

theorem over : Rows.fnExactRowSortRow.holds Try.pinned (OpenSpec.ofChange Rows.fnExactRowSortSpec) :=
  OpenClaim.holds_of_wide 3 Try.f3 rfl rfl rfl rfl rfl rfl rfl ⟨rfl, rfl, rfl, rfl, rfl⟩ rfl rfl rfl rfl rfl (by kernel_rfl) Try.func3 (by kernel_rfl)
    (of_decide_eq_true (by kernel_rfl)) (by unfold Func.isWrapper; first | (rw [if_pos (by decide +kernel)]; kernel_rfl) | (rw [if_neg (by decide +kernel)]; exact ⟨rfl, rfl⟩))
    (fun os started H enc _ => lifted os started H enc)

theorem proved : Rows.FnExactRowSortSaid := over
end Go.Proofs.Ytgjefeckdkahlaa.fnExactRowSort
