/- The program's ValuesOf returns what the reference's returns, for all arguments. No condition. -/
import Derived.Test.YteelobokjidphaaRows
import Derived.Test.YteelobokjidphaaArgs
import Derived.Test.YteelobokjidphaaArgsPlan
import Derived.Test.YteelobokjidphaaLawPlan
import Derived.Test.YteelobokjidphaaMarkPlan
import Derived.Test.YteelobokjidphaaLawCopy
import Derived.Test.YteelobokjidphaaLawNode
import Derived.Test.YteelobokjidphaaMarkRows
import Derived.Test.YteelobokjidphaaValueStep
namespace Go.Proofs.Yteelobokjidphaa.fnExactValuesOf
open Go.ChangeShapes Go.WideShapes Go.ChangeAt Go.RowKit

set_option maxRecDepth 50000 in
set_option maxHeartbeats 4000000 in
theorem walk (v0 : Value) (x0 : List Nd) (w : World) (w0 : PLA w v0 x0) :
    Calls Try.prog 4 #[v0] w fun e w' => e = .returned (.bool true) ∧ Below w.heap.size w w' := by
  obtain ⟨a0, c0, rfl, -⟩ := id w0
  have bt := Below.refl w.heap.size w
  have A0 : PL w w.heap.size _ x0 := w0
  obtain ⟨out, hout⟩ : ∃ out, out = valsR x0 := ⟨_, rfl⟩
  obtain ⟨ok, hok⟩ : ∃ ok, ok = planB x0 := ⟨_, rfl⟩
  have hol : out.length ≤ 1048576 := by rw [hout]; exact valsR_len _
  have hor : ∀ i, i < out.length → ((out.getD i []).length : Int) ≤ 1048576 := by rw [hout]; exact valsR_row _
  have hs : ∀ v hi w, PL w hi v x0 → x0.length ≤ 1048576 → Calls Try.prog 26 #[v] w (fun e w' => ∃ vo, e = .returned (.tuple #[vo, .bool ok]) ∧ Grid w' w.heap.size vo out ∧ Below w.heap.size w w') := fun v hi w h hn => by rw [hout, hok]; exact svalues_any v x0 hi w h (by omega)
  have hi : ∀ v hi w, PL w hi v x0 → Calls Try.prog 27 #[v] w (fun e w' => ∃ vo, e = .returned (.tuple #[vo, .bool ok]) ∧ GridD w' w.heap.size vo out ∧ Below w.heap.size w w') := fun v hi w h => by rw [hout, hok]; exact ivalues_any v x0 hi w h
  have HS := hid hs
  have HI := hid hi
  have HOR := hid hor
  clear hs hi hout hok hor w0
  go_enter Try.func4, Try.ntmps4
  go_wp2_with fail
  refine (szNodes_any _ x0 _ 1048576 _ A0 (by omega) (by omega)).mono ?_
  rintro e w101 ⟨⟨n1, rfl, hn1, hf1⟩, m1⟩
  replace A0 := A0.mod m1 (by omega)
  have s1 := m1.size
  replace bt := m1.below0 bt bt.size
  by_cases hneg1 : n1 < 0
  · clear hf1
    go_wp2_with fail
    go_ret
    exact ⟨rfl, bt⟩
  obtain ⟨hl1, hl2⟩ := hf1 (by omega)
  have hl1' : x0.length ≤ 1048576 := by omega
  have HL2 := hid hl2
  clear hf1 hl1 hl2
  go_wp2_with fail
  refine (toNodes_any _ x0 _ _ A0 hl1' HL2.out).mono ?_
  rintro e w102 ⟨t0, rfl, T0, b0⟩
  have m2 := Mod.of_below b0
  obtain ⟨aT0, cT0, rfl, -⟩ := T0.shape
  replace A0 := A0.mod m2 (by omega)
  have s2 := m2.size
  replace bt := m2.below0 bt bt.size
  clear b0
  go_wp2_with fail
  refine (HS.out _ _ _ T0.pl hl1').mono ?_
  rintro e w103 ⟨gw, rfl, GW, b0⟩
  have m3 := Mod.of_below b0
  replace GW := GW.rs
  replace A0 := A0.mod m3 (by omega)
  replace T0 := T0.mod m3 (by omega)
  have s3 := m3.size
  replace bt := m3.below0 bt bt.size
  clear b0
  go_wp2_with fail
  refine (toNodes_any _ x0 _ _ A0 hl1' HL2.out).mono ?_
  rintro e w104 ⟨y0, rfl, Y0, b0⟩
  have m4 := Mod.of_below b0
  obtain ⟨aY0, cY0, rfl, -⟩ := Y0.shape
  replace A0 := A0.mod m4 (by omega)
  replace GW := GW.mod m4 (by omega)
  have s4 := m4.size
  replace bt := m4.below0 bt bt.size
  clear b0
  go_wp2_with fail
  refine (HI.out _ _ _ Y0.pl).mono ?_
  rintro e w105 ⟨g0, rfl, G0, b0⟩
  have m5 := Mod.of_below b0
  replace G0 := G0.r
  replace A0 := A0.mod m5 (by omega)
  replace GW := GW.mod m5 (by omega)
  replace Y0 := Y0.mod m5 (by omega)
  have s5 := m5.size
  replace bt := m5.below0 bt bt.size
  clear b0
  go_wp2_with fail
  refine (eqRows_any _ _ out _ _ _ G0.rs GW).mono ?_
  rintro e w106 ⟨rfl, m6⟩
  replace A0 := A0.mod m6 (by omega)
  replace GW := GW.mod m6 (by omega)
  replace Y0 := Y0.mod m6 (by omega)
  replace G0 := G0.mod m6 (by omega)
  have s6 := m6.size
  replace bt := m6.below0 bt bt.size
  go_wp2_with fail
  refine (toNodes_any _ x0 _ _ A0 hl1' HL2.out).mono ?_
  rintro e w107 ⟨u0, rfl, U0, b0⟩
  have m7 := Mod.of_below b0
  obtain ⟨aU0, cU0, rfl, -⟩ := U0.shape
  replace A0 := A0.mod m7 (by omega)
  replace GW := GW.mod m7 (by omega)
  replace Y0 := Y0.mod m7 (by omega)
  replace G0 := G0.mod m7 (by omega)
  have s7 := m7.size
  replace bt := m7.below0 bt bt.size
  clear b0
  go_wp2_with fail
  refine (eqNodes_any _ _ x0 _ _ _ Y0.pl U0.pl).mono ?_
  rintro e w108 ⟨rfl, m8⟩
  replace A0 := A0.mod m8 (by omega)
  replace GW := GW.mod m8 (by omega)
  replace Y0 := Y0.mod m8 (by omega)
  replace G0 := G0.mod m8 (by omega)
  replace U0 := U0.mod m8 (by omega)
  have s8 := m8.size
  replace bt := m8.below0 bt bt.size
  go_wp2_with fail
  refine (markNodes_r _ x0 1 _ _ _ Y0 (by omega) (by omega) (by omega) HL2.out).mono ?_
  rintro e w109 ⟨rfl, -, m9⟩
  replace A0 := A0.mod m9 (by omega)
  replace GW := GW.mod m9 (by omega)
  replace G0 := G0.mod m9 (by omega)
  have s9 := m9.size
  replace bt := m9.below bt (by omega) bt.size
  have hsn := sumN_nonneg x0
  have hr2 : ¬ 1 + sumN x0 < 0 := by omega
  go_wp2_with fail
  refine (eqRows_any _ _ out _ _ _ G0.rs GW).mono ?_
  rintro e w110 ⟨rfl, m10⟩
  replace A0 := A0.mod m10 (by omega)
  replace GW := GW.mod m10 (by omega)
  replace G0 := G0.mod m10 (by omega)
  have s10 := m10.size
  replace bt := m10.below0 bt bt.size
  have hss := sumS_nonneg out
  have hr3 : ¬ 1 + sumS out < 0 := by omega
  go_wp2_with fail
  refine (markRows_r _ out 1 _ _ _ G0 (by omega) (by omega) (by omega) HOR.out).mono ?_
  rintro e w111 ⟨rfl, G0, m11⟩
  replace A0 := A0.mod m11 (by omega)
  replace GW := GW.mod m11 (by omega)
  have s11 := m11.size
  replace bt := m11.below bt (by omega) bt.size
  go_wp2_with fail
  refine (heldRows_any _ out 1 _ _ G0.rs (by omega) (by omega) (by omega) HOR.out).mono ?_
  rintro e _ ⟨rfl, rfl⟩
  go_wp2_with fail
  refine (toNodes_any _ x0 _ _ A0 hl1' HL2.out).mono ?_
  rintro e w112 ⟨z0, rfl, Z0, b0⟩
  have m12 := Mod.of_below b0
  obtain ⟨aZ0, cZ0, rfl, -⟩ := Z0.shape
  replace A0 := A0.mod m12 (by omega)
  replace GW := GW.mod m12 (by omega)
  replace G0 := G0.mod m12 (by omega)
  have s12 := m12.size
  replace bt := m12.below0 bt bt.size
  clear b0
  go_wp2_with fail
  refine (HI.out _ _ _ Z0.pl).mono ?_
  rintro e w113 ⟨h0, rfl, H0, b0⟩
  have m13 := Mod.of_below b0
  replace H0 := H0.r
  replace A0 := A0.mod m13 (by omega)
  replace GW := GW.mod m13 (by omega)
  replace G0 := G0.mod m13 (by omega)
  replace Z0 := Z0.mod m13 (by omega)
  have s13 := m13.size
  replace bt := m13.below0 bt bt.size
  clear b0
  go_wp2_with fail
  refine (eqRows_any _ _ out _ _ _ H0.rs GW).mono ?_
  rintro e w114 ⟨rfl, m14⟩
  replace A0 := A0.mod m14 (by omega)
  replace GW := GW.mod m14 (by omega)
  replace G0 := G0.mod m14 (by omega)
  replace Z0 := Z0.mod m14 (by omega)
  replace H0 := H0.mod m14 (by omega)
  have s14 := m14.size
  replace bt := m14.below0 bt bt.size
  go_wp2_with fail
  refine (heldRows_any _ out 1 _ _ G0.rs (by omega) (by omega) (by omega) HOR.out).mono ?_
  rintro e _ ⟨rfl, rfl⟩
  go_wp2_with fail
  go_ret
  exact ⟨rfl, bt⟩

theorem own : ownKnob Try.prog.godebug = none := by kernel_rfl
theorem laidOut : laidOutB Try.prog = true := by kernel_rfl
set_option maxRecDepth 100000 in
theorem lifted (os : Os) (started : os.Started) (H : Type) (enc : TypeId × Value → H) :
    ReturnsInHanded {} Try.checked os 4 .any (Rows.fnExactValuesOfSpec.pre6 enc Try.prog Try.f4 Rows.fnExactValuesOfRow.domain false) (Rows.fnExactValuesOfSpec.post enc Try.prog Try.f4 false true false false) := by
  refine returnsInHanded_of_change (C := Try.checked) own started (by kernel_rfl) Try.func4
    (ChangeSpec.witness6 (enc := enc) (C := Try.checked) false ⟨#[], #[.slice none 0 0], []⟩ 8 (by kernel_rfl) (by kernel_rfl) (by kernel_rfl) (by kernel_rfl)) ?_
  intro W base args ds gs before hval0 hW _ _
  have hval : ∀ (j : Nat) t v, Try.f4.params[j]? = some t → args[j]? = some v → Value.okWide Try.prog W .any base t v := hval0
  have hW' := hW
  obtain ⟨p, q, hA0, hV, rfl, _, _⟩ := hW
  have hA : DataW.TrodAll enc Try.prog W 0 (fun _ => true) true Try.f4.params.toList args.toList ds p := hA0
  rw [Try.params4] at hA hval
  obtain ⟨v0, vs0, d0, ds0, p0, q0, hargs, rfl, rfl, h0, r0⟩ := trodAll_cons hA
  obtain ⟨rfl, rfl, rfl⟩ := trodAll_nil r0
  obtain rfl : args = #[v0] := by cases args; simp_all
  obtain ⟨rfl, rfl⟩ := trodVars_none hV
  have k0 := h0
  have lt0 : ∀ x ∈ p0, x.block < W.heap.size := by obtain ⟨m, hm⟩ := k0; exact DataW.trod_lt m _ _ _ hm
  obtain ⟨x0, w0⟩ := open_pl (hval 0 22 v0 rfl rfl) h0
  clear hA0 hval0
  refine (walk v0 x0 W w0).mono fun e W' ⟨he, bel⟩ => ?_
  subst he
  exact ⟨_, rfl, _, _, _, [], _, [], hW', trodAll_mk1 (shut_bool Try.underlying4 _), (trodAll_cons_mk (Below.trod laidOut (by kernel_rfl) (of_decide_eq_true (by kernel_rfl)) k0 bel lt0) trodAll_mk0), rfl, bel.frame _, fun h => by cases h⟩

theorem over : Rows.fnExactValuesOfRow.holds Try.pinned (OpenSpec.ofChange Rows.fnExactValuesOfSpec) :=
  OpenClaim.holds_of_wide 4 Try.f4 rfl rfl rfl rfl rfl rfl rfl ⟨rfl, rfl, rfl, rfl, rfl⟩ rfl rfl rfl rfl rfl (by kernel_rfl) Try.func4 (by kernel_rfl)
    (of_decide_eq_true (by kernel_rfl)) (by unfold Func.isWrapper; first | (rw [if_pos (by decide +kernel)]; kernel_rfl) | (rw [if_neg (by decide +kernel)]; exact ⟨rfl, rfl⟩))
    (fun os started H enc _ => lifted os started H enc)

theorem proved : Rows.FnExactValuesOfSaid := over
end Go.Proofs.Yteelobokjidphaa.fnExactValuesOf
