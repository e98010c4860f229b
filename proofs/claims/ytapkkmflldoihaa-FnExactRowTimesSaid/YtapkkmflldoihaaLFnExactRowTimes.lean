/- The program's RowTimes returns what the reference's returns, for all arguments. No condition. -/
import Derived.Test.YtapkkmflldoihaaRows
import Derived.Test.YtapkkmflldoihaaArgs
import Derived.Test.YtapkkmflldoihaaLawInt
import Derived.Test.YtapkkmflldoihaaRowAdd
import Derived.Test.YtapkkmflldoihaaJoin
namespace Go.Proofs.Ytapkkmflldoihaa.fnExactRowTimes
open Go.ChangeShapes Go.WideShapes Go.ChangeAt Go.RowKit

set_option maxHeartbeats 4000000 in
theorem walk (v0 : Value) (x0 : List Int) (v1 : Value) (x1 : List Int) (w : World) (w0 : RL w v0 x0) (w1 : RL w v1 x1) :
    Calls Try.prog 7 #[v0, v1] w fun e w' => e = .returned (.bool true) ∧ Below w.heap.size w w' := by
  obtain ⟨a0, c0, rfl, -⟩ := id w0
  obtain ⟨a1, c1, rfl, -⟩ := id w1
  obtain ⟨out, hout⟩ : ∃ out, out = joinR mulF x0 x1 := ⟨_, rfl⟩
  obtain ⟨ok, hok⟩ : ∃ ok, ok = bothB x0 x1 := ⟨_, rfl⟩
  have hol : out.length ≤ 1048576 := by rw [hout]; exact joinR_len _ _ _
  have hs : ∀ v u w, RL w v x0 → RL w u x1 → Calls Try.prog 18 #[v, u] w (PostIB w out ok) := fun v u w h h' => by rw [hout, hok]; exact smul_any v u x0 x1 w h h'
  have hi : ∀ v u w, RL w v x0 → RL w u x1 → Calls Try.prog 19 #[v, u] w (PostIB w out ok) := fun v u w h h' => by rw [hout, hok]; exact imul_any v u x0 x1 w h h'
  have HS := hid hs
  have HI := hid hi
  clear hs hi hout hok
  by_cases hl0 : 1048576 < x0.length
  · go_enter Try.func7, Try.ntmps7
    go_wp2_with fail
    go_ret
    exact ⟨rfl, Below.refl _ _⟩
  by_cases hl1 : 1048576 < x1.length
  · go_enter Try.func7, Try.ntmps7
    go_wp2_with fail
    go_ret
    exact ⟨rfl, Below.refl _ _⟩
  have hl0' : x0.length ≤ 1048576 := by omega
  have hl1' : x1.length ≤ 1048576 := by omega
  clear hl0 hl1
  have bt := Below.refl w.heap.size w
  have A0 := w0.rr
  have A1 := w1.rr
  go_enter Try.func7, Try.ntmps7
  go_wp2_with fail
  refine (toInt_any _ x0 _ A0.rl hl0').mono ?_
  rintro e w101 ⟨t0, rfl, T0, b0⟩
  have m1 := Mod.of_below b0
  replace T0 := T0.r
  replace A0 := A0.mod m1 (by omega)
  replace A1 := A1.mod m1 (by omega)
  have s1 := m1.size
  replace bt := m1.below0 bt bt.size
  clear b0
  go_wp2_with fail
  refine (toInt_any _ x1 _ A1.rl hl1').mono ?_
  rintro e w102 ⟨t1, rfl, T1, b0⟩
  have m2 := Mod.of_below b0
  replace T1 := T1.r
  replace A0 := A0.mod m2 (by omega)
  replace A1 := A1.mod m2 (by omega)
  replace T0 := T0.mod m2 (by omega)
  have s2 := m2.size
  replace bt := m2.below0 bt bt.size
  clear b0
  go_wp2_with fail
  refine (HS.out _ _ _ T0.rl T1.rl).mono ?_
  rintro e w103 ⟨gw, rfl, GW, b0⟩
  have m3 := Mod.of_below b0
  replace GW := GW.r
  replace A0 := A0.mod m3 (by omega)
  replace A1 := A1.mod m3 (by omega)
  replace T0 := T0.mod m3 (by omega)
  replace T1 := T1.mod m3 (by omega)
  have s3 := m3.size
  replace bt := m3.below0 bt bt.size
  clear b0
  go_wp2_with fail
  refine (toInt_any _ x0 _ A0.rl hl0').mono ?_
  rintro e w104 ⟨y0, rfl, Y0, b0⟩
  have m4 := Mod.of_below b0
  replace Y0 := Y0.r
  replace A0 := A0.mod m4 (by omega)
  replace A1 := A1.mod m4 (by omega)
  replace GW := GW.mod m4 (by omega)
  have s4 := m4.size
  replace bt := m4.below0 bt bt.size
  clear b0
  go_wp2_with fail
  refine (toInt_any _ x1 _ A1.rl hl1').mono ?_
  rintro e w105 ⟨y1, rfl, Y1, b0⟩
  have m5 := Mod.of_below b0
  replace Y1 := Y1.r
  replace A0 := A0.mod m5 (by omega)
  replace A1 := A1.mod m5 (by omega)
  replace GW := GW.mod m5 (by omega)
  replace Y0 := Y0.mod m5 (by omega)
  have s5 := m5.size
  replace bt := m5.below0 bt bt.size
  clear b0
  go_wp2_with fail
  refine (HI.out _ _ _ Y0.rl Y1.rl).mono ?_
  rintro e w106 ⟨g0, rfl, G0, b0⟩
  have m6 := Mod.of_below b0
  replace G0 := G0.r
  replace A0 := A0.mod m6 (by omega)
  replace A1 := A1.mod m6 (by omega)
  replace GW := GW.mod m6 (by omega)
  replace Y0 := Y0.mod m6 (by omega)
  replace Y1 := Y1.mod m6 (by omega)
  have s6 := m6.size
  replace bt := m6.below0 bt bt.size
  clear b0
  go_wp2_with fail
  refine (eqInt_m _ _ out out _ G0.rl GW.rl).mono ?_
  rintro e w107 ⟨rfl, m7⟩
  replace A0 := A0.mod m7 (by omega)
  replace A1 := A1.mod m7 (by omega)
  replace GW := GW.mod m7 (by omega)
  replace Y0 := Y0.mod m7 (by omega)
  replace Y1 := Y1.mod m7 (by omega)
  replace G0 := G0.mod m7 (by omega)
  have s7 := m7.size
  replace bt := m7.below0 bt bt.size
  rw [sameB_self]
  go_wp2_with fail
  refine (toInt_any _ x0 _ A0.rl hl0').mono ?_
  rintro e w108 ⟨u0, rfl, U0, b0⟩
  have m8 := Mod.of_below b0
  replace U0 := U0.r
  replace A0 := A0.mod m8 (by omega)
  replace A1 := A1.mod m8 (by omega)
  replace GW := GW.mod m8 (by omega)
  replace Y0 := Y0.mod m8 (by omega)
  replace Y1 := Y1.mod m8 (by omega)
  replace G0 := G0.mod m8 (by omega)
  have s8 := m8.size
  replace bt := m8.below0 bt bt.size
  clear b0
  go_wp2_with fail
  refine (eqInt_m _ _ x0 x0 _ Y0.rl U0.rl).mono ?_
  rintro e w109 ⟨rfl, m9⟩
  replace A0 := A0.mod m9 (by omega)
  replace A1 := A1.mod m9 (by omega)
  replace GW := GW.mod m9 (by omega)
  replace Y0 := Y0.mod m9 (by omega)
  replace Y1 := Y1.mod m9 (by omega)
  replace G0 := G0.mod m9 (by omega)
  replace U0 := U0.mod m9 (by omega)
  have s9 := m9.size
  replace bt := m9.below0 bt bt.size
  rw [sameB_self]
  go_wp2_with fail
  refine (toInt_any _ x1 _ A1.rl hl1').mono ?_
  rintro e w110 ⟨u1, rfl, U1, b0⟩
  have m10 := Mod.of_below b0
  replace U1 := U1.r
  replace A0 := A0.mod m10 (by omega)
  replace A1 := A1.mod m10 (by omega)
  replace GW := GW.mod m10 (by omega)
  replace Y0 := Y0.mod m10 (by omega)
  replace Y1 := Y1.mod m10 (by omega)
  replace G0 := G0.mod m10 (by omega)
  have s10 := m10.size
  replace bt := m10.below0 bt bt.size
  clear b0
  go_wp2_with fail
  refine (eqInt_m _ _ x1 x1 _ Y1.rl U1.rl).mono ?_
  rintro e w111 ⟨rfl, m11⟩
  replace A0 := A0.mod m11 (by omega)
  replace A1 := A1.mod m11 (by omega)
  replace GW := GW.mod m11 (by omega)
  replace Y0 := Y0.mod m11 (by omega)
  replace Y1 := Y1.mod m11 (by omega)
  replace G0 := G0.mod m11 (by omega)
  replace U1 := U1.mod m11 (by omega)
  have s11 := m11.size
  replace bt := m11.below0 bt bt.size
  rw [sameB_self]
  go_wp2_with fail
  refine (markInt_r _ x0 1 _ _ _ Y0 (by omega) (by omega) hl0').mono ?_
  rintro e w112 ⟨rfl, Y0, m12⟩
  replace A0 := A0.mod m12 (by omega)
  replace A1 := A1.mod m12 (by omega)
  replace GW := GW.mod m12 (by omega)
  replace Y1 := Y1.mod m12 (by omega)
  replace G0 := G0.mod m12 (by omega)
  have s12 := m12.size
  replace bt := m12.below bt (by omega) bt.size
  go_wp2_with fail
  refine (markInt_r _ x1 (1 + x0.length) _ _ _ Y1 (by omega) (by omega) hl1').mono ?_
  rintro e w113 ⟨rfl, Y1, m13⟩
  replace A0 := A0.mod m13 (by omega)
  replace A1 := A1.mod m13 (by omega)
  replace GW := GW.mod m13 (by omega)
  replace G0 := G0.mod m13 (by omega)
  have s13 := m13.size
  replace bt := m13.below bt (by omega) bt.size
  go_wp2_with fail
  refine (eqInt_m _ _ out out _ G0.rl GW.rl).mono ?_
  rintro e w114 ⟨rfl, m14⟩
  replace A0 := A0.mod m14 (by omega)
  replace A1 := A1.mod m14 (by omega)
  replace GW := GW.mod m14 (by omega)
  replace G0 := G0.mod m14 (by omega)
  have s14 := m14.size
  replace bt := m14.below0 bt bt.size
  rw [sameB_self]
  go_wp2_with fail
  refine (markInt_r _ out 1 _ _ _ G0 (by omega) (by omega) hol).mono ?_
  rintro e w115 ⟨rfl, G0, m15⟩
  replace A0 := A0.mod m15 (by omega)
  replace A1 := A1.mod m15 (by omega)
  replace GW := GW.mod m15 (by omega)
  have s15 := m15.size
  replace bt := m15.below bt (by omega) bt.size
  go_wp2_with fail
  refine (heldInt_any _ 1 out.length _ G0.rl (by omega) (by omega) hol).mono ?_
  rintro e _ ⟨rfl, rfl⟩
  go_wp2_with fail
  refine (toInt_any _ x0 _ A0.rl hl0').mono ?_
  rintro e w116 ⟨z0, rfl, Z0, b0⟩
  have m16 := Mod.of_below b0
  replace Z0 := Z0.r
  replace A0 := A0.mod m16 (by omega)
  replace A1 := A1.mod m16 (by omega)
  replace GW := GW.mod m16 (by omega)
  replace G0 := G0.mod m16 (by omega)
  have s16 := m16.size
  replace bt := m16.below0 bt bt.size
  clear b0
  go_wp2_with fail
  refine (toInt_any _ x1 _ A1.rl hl1').mono ?_
  rintro e w117 ⟨z1, rfl, Z1, b0⟩
  have m17 := Mod.of_below b0
  replace Z1 := Z1.r
  replace A0 := A0.mod m17 (by omega)
  replace A1 := A1.mod m17 (by omega)
  replace GW := GW.mod m17 (by omega)
  replace G0 := G0.mod m17 (by omega)
  replace Z0 := Z0.mod m17 (by omega)
  have s17 := m17.size
  replace bt := m17.below0 bt bt.size
  clear b0
  go_wp2_with fail
  refine (HI.out _ _ _ Z0.rl Z1.rl).mono ?_
  rintro e w118 ⟨h0, rfl, H0, b0⟩
  have m18 := Mod.of_below b0
  replace H0 := H0.r
  replace A0 := A0.mod m18 (by omega)
  replace A1 := A1.mod m18 (by omega)
  replace GW := GW.mod m18 (by omega)
  replace G0 := G0.mod m18 (by omega)
  replace Z0 := Z0.mod m18 (by omega)
  replace Z1 := Z1.mod m18 (by omega)
  have s18 := m18.size
  replace bt := m18.below0 bt bt.size
  clear b0
  go_wp2_with fail
  refine (eqInt_m _ _ out out _ H0.rl GW.rl).mono ?_
  rintro e w119 ⟨rfl, m19⟩
  replace A0 := A0.mod m19 (by omega)
  replace A1 := A1.mod m19 (by omega)
  replace GW := GW.mod m19 (by omega)
  replace G0 := G0.mod m19 (by omega)
  replace Z0 := Z0.mod m19 (by omega)
  replace Z1 := Z1.mod m19 (by omega)
  replace H0 := H0.mod m19 (by omega)
  have s19 := m19.size
  replace bt := m19.below0 bt bt.size
  rw [sameB_self]
  go_wp2_with fail
  refine (heldInt_any _ 1 out.length _ G0.rl (by omega) (by omega) hol).mono ?_
  rintro e _ ⟨rfl, rfl⟩
  go_wp2_with fail
  go_ret
  exact ⟨rfl, bt⟩

theorem own : ownKnob Try.prog.godebug = none := by kernel_rfl
theorem laidOut : laidOutB Try.prog = true := by kernel_rfl
set_option maxRecDepth 100000 in
theorem lifted (os : Os) (started : os.Started) (H : Type) (enc : TypeId × Value → H) :
    ReturnsInHanded {} Try.checked os 7 .any (Rows.fnExactRowTimesSpec.pre6 enc Try.prog Try.f7 Rows.fnExactRowTimesRow.domain false) (Rows.fnExactRowTimesSpec.post enc Try.prog Try.f7 false true false false) := by
  refine returnsInHanded_of_change (C := Try.checked) own started (by kernel_rfl) Try.func7
    (ChangeSpec.witness6 (enc := enc) (C := Try.checked) false ⟨#[], #[.slice none 0 0, .slice none 0 0], []⟩ 8 (by kernel_rfl) (by kernel_rfl) (by kernel_rfl) (by kernel_rfl)) ?_
  intro W base args ds gs before hval0 hW _ _
  have hval : ∀ (j : Nat) t v, Try.f7.params[j]? = some t → args[j]? = some v → Value.okWide Try.prog W .any base t v := hval0
  have hW' := hW
  obtain ⟨p, q, hA0, hV, rfl, _, _⟩ := hW
  have hA : DataW.TrodAll enc Try.prog W 0 (fun _ => true) true Try.f7.params.toList args.toList ds p := hA0
  rw [Try.params7] at hA hval
  obtain ⟨v0, vs0, d0, ds0, p0, q0, hargs, rfl, rfl, h0, r0⟩ := trodAll_cons hA
  obtain ⟨v1, vs1, d1, ds1, p1, q1, rfl, rfl, rfl, h1, r1⟩ := trodAll_cons r0
  obtain ⟨rfl, rfl, rfl⟩ := trodAll_nil r1
  obtain rfl : args = #[v0, v1] := by cases args; simp_all
  obtain ⟨rfl, rfl⟩ := trodVars_none hV
  have k0 := h0
  have lt0 : ∀ x ∈ p0, x.block < W.heap.size := by obtain ⟨m, hm⟩ := k0; exact DataW.trod_lt m _ _ _ hm
  obtain ⟨x0, w0⟩ := open_rl (hval 0 23 v0 rfl rfl) h0
  have k1 := h1
  have lt1 : ∀ x ∈ p1, x.block < W.heap.size := by obtain ⟨m, hm⟩ := k1; exact DataW.trod_lt m _ _ _ hm
  obtain ⟨x1, w1⟩ := open_rl (hval 1 23 v1 rfl rfl) h1
  clear hA0 hval0
  refine (walk v0 x0 v1 x1 W w0 w1).mono fun e W' ⟨he, bel⟩ => ?_
  subst he
  exact ⟨_, rfl, _, _, _, [], _, [], hW', trodAll_mk1 (shut_bool Try.underlying4 _), (trodAll_cons_mk (Below.trod laidOut (by kernel_rfl) (of_decide_eq_true (by kernel_rfl)) k0 bel lt0) (trodAll_cons_mk (Below.trod laidOut (by kernel_rfl) (of_decide_eq_true (by kernel_rfl)) k1 bel lt1) trodAll_mk0)), rfl, bel.frame _, fun h => by cases h⟩

theorem over : Rows.fnExactRowTimesRow.holds Try.pinned (OpenSpec.ofChange Rows.fnExactRowTimesSpec) :=
  OpenClaim.holds_of_wide 7 Try.f7 rfl rfl rfl rfl rfl rfl rfl ⟨rfl, rfl, rfl, rfl, rfl⟩ rfl rfl rfl rfl rfl (by kernel_rfl) Try.func7 (by kernel_rfl)
    (of_decide_eq_true (by kernel_rfl)) (by unfold Func.isWrapper; first | (rw [if_pos (by decide +kernel)]; kernel_rfl) | (rw [if_neg (by decide +kernel)]; exact ⟨rfl, rfl⟩))
    (fun os started H enc _ => lifted os started H enc)

theorem proved : Rows.FnExactRowTimesSaid := over
end Go.Proofs.Ytapkkmflldoihaa.fnExactRowTimes
