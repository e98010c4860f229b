/- The program's RowValid returns what the reference's returns, for all arguments. No condition. -/
import Derived.Test.YtapkkmflldoihaaRows
import Derived.Test.YtapkkmflldoihaaArgs
import Derived.Test.YtapkkmflldoihaaLawInt
import Derived.Test.YtapkkmflldoihaaRow
namespace Go.Proofs.Ytapkkmflldoihaa.fnExactRowValid
open Go.ChangeShapes Go.WideShapes Go.ChangeAt Go.RowKit

set_option maxHeartbeats 4000000 in
theorem walk (v0 : Value) (x0 : List Int) (w : World) (w0 : RL w v0 x0) :
    Calls Try.prog 4 #[v0] w fun e w' => e = .returned (.bool true) ∧ Below w.heap.size w w' := by
  obtain ⟨a0, c0, rfl, -⟩ := id w0
  by_cases hl0 : 1048576 < x0.length
  · go_enter Try.func4, Try.ntmps4
    go_wp2_with fail
    go_ret
    exact ⟨rfl, Below.refl _ _⟩
  have hl0' : x0.length ≤ 1048576 := by omega
  clear hl0
  have bt := Below.refl w.heap.size w
  have A0 := w0.rr
  go_enter Try.func4, Try.ntmps4
  go_wp2_with fail
  refine (toInt_any _ x0 _ A0.rl hl0').mono ?_
  rintro e w101 ⟨t0, rfl, T0, b0⟩
  have m1 := Mod.of_below b0
  replace T0 := T0.r
  replace A0 := A0.mod m1 (by omega)
  have s1 := m1.size
  replace bt := m1.below0 bt bt.size
  clear b0
  go_wp2_with fail
  refine (srv_any _ x0 _ T0.rl).mono ?_
  rintro e _ ⟨rfl, rfl⟩
  go_wp2_with fail
  refine (toInt_any _ x0 _ A0.rl hl0').mono ?_
  rintro e w102 ⟨y0, rfl, Y0, b0⟩
  have m2 := Mod.of_below b0
  replace Y0 := Y0.r
  replace A0 := A0.mod m2 (by omega)
  have s2 := m2.size
  replace bt := m2.below0 bt bt.size
  clear b0
  go_wp2_with fail
  refine (irv_any _ x0 _ Y0.rl).mono ?_
  rintro e _ ⟨rfl, rfl⟩
  go_wp2_with fail
  refine (toInt_any _ x0 _ A0.rl hl0').mono ?_
  rintro e w103 ⟨u0, rfl, U0, b0⟩
  have m3 := Mod.of_below b0
  replace U0 := U0.r
  replace A0 := A0.mod m3 (by omega)
  replace Y0 := Y0.mod m3 (by omega)
  have s3 := m3.size
  replace bt := m3.below0 bt bt.size
  clear b0
  go_wp2_with fail
  refine (eqInt_m _ _ x0 x0 _ Y0.rl U0.rl).mono ?_
  rintro e w104 ⟨rfl, m4⟩
  replace A0 := A0.mod m4 (by omega)
  replace Y0 := Y0.mod m4 (by omega)
  replace U0 := U0.mod m4 (by omega)
  have s4 := m4.size
  replace bt := m4.below0 bt bt.size
  rw [sameB_self]
  go_wp2_with fail
  go_ret
  exact ⟨rfl, bt⟩

theorem own : ownKnob Try.prog.godebug = none := by kernel_rfl
theorem laidOut : laidOutB Try.prog = true := by kernel_rfl
set_option maxRecDepth 100000 in
theorem lifted (os : Os) (started : os.Started) (H : Type) (enc : TypeId × Value → H) :
    ReturnsInHanded {} Try.checked os 4 .any (Rows.fnExactRowValidSpec.pre6 enc Try.prog Try.f4 Rows.fnExactRowValidRow.domain false) (Rows.fnExactRowValidSpec.post enc Try.prog Try.f4 false true false false) := by
  refine returnsInHanded_of_change (C := Try.checked) own started (by kernel_rfl) Try.func4
    (ChangeSpec.witness6 (enc := enc) (C := Try.checked) false ⟨#[], #[.slice none 0 0], []⟩ 8 (by kernel_rfl) (by kernel_rfl) (by kernel_rfl) (by kernel_rfl)) ?_
  intro W base args ds gs before hval0 hW _ _
  have hval : ∀ (j : Nat) t v, Try.f4.params[j]? = some t → args[j]? = some v → Value.okWide Try.prog W .any base t v := hval0
  have hW' := hW
  obtain ⟨p, q, hA0, hV, rfl, _, _⟩ := hW
  have hA : DataW.TrodAll enc Try.prog W 0 (fun _ => true) true Try.f4.params.toList args.toList ds p := hA0
  rw [Try.params4] at hA hval
  obtain ⟨v0, vs0, d0, ds0, p0, q0, hargs, rfl, rfl, h0, r0⟩ := trodAll_cons hA
  obtain ⟨rfl, rfl, rfl⟩ := trodAll_nil r0
  obtain rfl : args = #[v0] := by cases args; simp_all
  obtain ⟨rfl, rfl⟩ := trodVars_none hV
  have k0 := h0
  have lt0 : ∀ x ∈ p0, x.block < W.heap.size := by obtain ⟨m, hm⟩ := k0; exact DataW.trod_lt m _ _ _ hm
  obtain ⟨x0, w0⟩ := open_rl (hval 0 23 v0 rfl rfl) h0
  clear hA0 hval0
  refine (walk v0 x0 W w0).mono fun e W' ⟨he, bel⟩ => ?_
  subst he
  exact ⟨_, rfl, _, _, _, [], _, [], hW', trodAll_mk1 (shut_bool Try.underlying4 _), (trodAll_cons_mk (Below.trod laidOut (by kernel_rfl) (of_decide_eq_true (by kernel_rfl)) k0 bel lt0) trodAll_mk0), rfl, bel.frame _, fun h => by cases h⟩

theorem over : Rows.fnExactRowValidRow.holds Try.pinned (OpenSpec.ofChange Rows.fnExactRowValidSpec) :=
  OpenClaim.holds_of_wide 4 Try.f4 rfl rfl rfl rfl rfl rfl rfl ⟨rfl, rfl, rfl, rfl, rfl⟩ rfl rfl rfl rfl rfl (by kernel_rfl) Try.func4 (by kernel_rfl)
    (of_decide_eq_true (by kernel_rfl)) (by unfold Func.isWrapper; first | (rw [if_pos (by decide +kernel)]; kernel_rfl) | (rw [if_neg (by decide +kernel)]; exact ⟨rfl, rfl⟩))
    (fun os started H enc _ => lifted os started H enc)

theorem proved : Rows.FnExactRowValidSaid := over
end Go.Proofs.Ytapkkmflldoihaa.fnExactRowValid
