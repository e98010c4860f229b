/- The program's ValueStep returns what the reference's returns, for all arguments. No condition. -/
import Derived.Test.YteelobokjidphaaRows
import Derived.Test.YteelobokjidphaaArgs
import Derived.Test.YteelobokjidphaaArgsPlan
import Derived.Test.YteelobokjidphaaLawPlan
import Derived.Test.YteelobokjidphaaMarkPlan
import Derived.Test.YteelobokjidphaaLawCopy
import Derived.Test.YteelobokjidphaaLawNode
import Derived.Test.YteelobokjidphaaMarkRows
import Derived.Test.YteelobokjidphaaValueStep
import Derived.Test.YteelobokjidphaaArgsRows
namespace Go.Proofs.Yteelobokjidphaa.fnExactValueStep
open Go.ChangeShapes Go.WideShapes Go.ChangeAt Go.RowKit

set_option maxRecDepth 50000 in
set_option maxHeartbeats 4000000 in
theorem walk (v0 : Value) (x0 : List Nd) (x1 : Int) (v2 : Value) (x2 : List (List Int)) (w : World) (w0 : PLA w v0 x0) (_w1 : (Lit.int .i64 x1).wf = true) (w2 : RSL w v2 x2) :
    Calls Try.prog 5 #[v0, .int .i64 x1, v2] w fun e w' => e = .returned (.bool true) ∧ Below w.heap.size w w' := by
  obtain ⟨a0, c0, rfl, -⟩ := id w0
  have bt := Below.refl w.heap.size w
  have A0 : PL w w.heap.size _ x0 := w0
  obtain ⟨a2, c2, rfl, -⟩ := id w2
  have A2 : RS w w.heap.size _ x2 := w2
  obtain ⟨out, hout⟩ : ∃ out, out = stpR x0 x1 x2 := ⟨_, rfl⟩
  obtain ⟨ok, hok⟩ : ∃ ok, ok = stpB x0 x1 x2 := ⟨_, rfl⟩
  have hol : out.length ≤ 1048576 := by rw [hout]; exact stpR_len _ _ _
  have hs : ∀ v v2 hi hi2 w, PL w hi v x0 → RS w hi2 v2 x2 → x0.length ≤ 1048576 → Calls Try.prog 32 #[v, .int .i64 x1, v2] w (PostIB w out ok) := fun v v2 hi hi2 w h h2 hn => by rw [hout, hok]; exact sstp_any v v2 x0 hi hi2 x1 x2 w h h2 (by omega)
  have hi : ∀ v v2 hi hi2 w, PL w hi v x0 → RS w hi2 v2 x2 → Calls Try.prog 34 #[v, .int .i64 x1, v2] w (PostIB w out ok) := fun v v2 hi hi2 w h h2 => by rw [hout, hok]; exact istp_any v v2 x0 hi hi2 x1 x2 w h h2
  have HS := hid hs
  have HI := hid hi
  clear hs hi hout hok w0 w2 _w1
  go_enter Try.func5, Try.ntmps5
  go_wp2_with fail
  refine (szNodes_any _ x0 _ 1048576 _ A0 (by omega) (by omega)).mono ?_
  rintro e w101 ⟨⟨n1, rfl, hn1, hf1⟩, m1⟩
  replace A0 := A0.mod m1 (by omega)
  replace A2 := A2.mod m1 (by omega)
  have s1 := m1.size
  replace bt := m1.below0 bt bt.size
  by_cases hneg1 : n1 < 0
  · clear hf1
    go_wp2_with fail
    go_ret
    exact ⟨rfl, bt⟩
  obtain ⟨hl1, hl2⟩ := hf1 (by omega)
  have hl1' : x0.length ≤ 1048576 := by omega
  have HL2 := hid hl2
  clear hf1 hl1 hl2
  go_wp2_with fail
  refine (szRows_any _ x2 _ _ _ A2 (by omega) (by omega)).mono ?_
  rintro e _ ⟨nr, rfl, hfr, rfl⟩
  by_cases hnr : nr < 0
  · clear hfr
    go_wp2_with fail
    go_ret
    exact ⟨rfl, bt⟩
  obtain ⟨hr1, hr2⟩ := hfr (by omega)
  have hr1' : x2.length ≤ 1048576 := by omega
  have hr2' : ∀ i, (x2.getD i []).length ≤ 1048576 := fun i => by
    by_cases hi : i < x2.length
    · have := hr2 i hi; omega
    · simp [List.getD, List.getElem?_eq_none (by omega : x2.length ≤ i)]
  clear hfr hr1 hr2
  go_wp2_with fail
  refine (toNodes_any _ x0 _ _ A0 hl1' HL2.out).mono ?_
  rintro e w102 ⟨t0, rfl, T0, b0⟩
  have m2 := Mod.of_below b0
  obtain ⟨aT0, cT0, rfl, -⟩ := T0.shape
  replace A0 := A0.mod m2 (by omega)
  replace A2 := A2.mod m2 (by omega)
  have s2 := m2.size
  replace bt := m2.below0 bt bt.size
  clear b0
  go_wp2_with fail
  refine (toRows_any _ _ _ _ A2 hr1' hr2').mono ?_
  rintro e w103 ⟨t2, rfl, T2, b0⟩
  have m3 := Mod.of_below b0
  replace T2 := T2.r
  replace A0 := A0.mod m3 (by omega)
  replace A2 := A2.mod m3 (by omega)
  replace T0 := T0.mod m3 (by omega)
  have s3 := m3.size
  replace bt := m3.below0 bt bt.size
  clear b0
  go_wp2_with fail
  refine (HS.out _ _ _ _ _ T0.pl T2.rs hl1').mono ?_
  rintro e w104 ⟨gw, rfl, GW, b0⟩
  have m4 := Mod.of_below b0
  replace GW := GW.r
  replace A0 := A0.mod m4 (by omega)
  replace A2 := A2.mod m4 (by omega)
  replace T0 := T0.mod m4 (by omega)
  replace T2 := T2.mod m4 (by omega)
  have s4 := m4.size
  replace bt := m4.below0 bt bt.size
  clear b0
  go_wp2_with fail
  refine (toNodes_any _ x0 _ _ A0 hl1' HL2.out).mono ?_
  rintro e w105 ⟨y0, rfl, Y0, b0⟩
  have m5 := Mod.of_below b0
  obtain ⟨aY0, cY0, rfl, -⟩ := Y0.shape
  replace A0 := A0.mod m5 (by omega)
  replace A2 := A2.mod m5 (by omega)
  replace GW := GW.mod m5 (by omega)
  have s5 := m5.size
  replace bt := m5.below0 bt bt.size
  clear b0
  go_wp2_with fail
  refine (toRows_any _ _ _ _ A2 hr1' hr2').mono ?_
  rintro e w106 ⟨y2, rfl, Y2, b0⟩
  have m6 := Mod.of_below b0
  replace Y2 := Y2.r
  replace A0 := A0.mod m6 (by omega)
  replace A2 := A2.mod m6 (by omega)
  replace GW := GW.mod m6 (by omega)
  replace Y0 := Y0.mod m6 (by omega)
  have s6 := m6.size
  replace bt := m6.below0 bt bt.size
  clear b0
  go_wp2_with fail
  refine (HI.out _ _ _ _ _ Y0.pl Y2.rs).mono ?_
  rintro e w107 ⟨g0, rfl, G0, b0⟩
  have m7 := Mod.of_below b0
  replace G0 := G0.r
  replace A0 := A0.mod m7 (by omega)
  replace A2 := A2.mod m7 (by omega)
  replace GW := GW.mod m7 (by omega)
  replace Y0 := Y0.mod m7 (by omega)
  replace Y2 := Y2.mod m7 (by omega)
  have s7 := m7.size
  replace bt := m7.below0 bt bt.size
  clear b0
  go_wp2_with fail
  refine (eqInt_m _ _ out out _ G0.rl GW.rl).mono ?_
  rintro e w108 ⟨rfl, m8⟩
  replace A0 := A0.mod m8 (by omega)
  replace A2 := A2.mod m8 (by omega)
  replace GW := GW.mod m8 (by omega)
  replace Y0 := Y0.mod m8 (by omega)
  replace Y2 := Y2.mod m8 (by omega)
  replace G0 := G0.mod m8 (by omega)
  have s8 := m8.size
  replace bt := m8.below0 bt bt.size
  rw [sameB_self]
  go_wp2_with fail
  refine (toNodes_any _ x0 _ _ A0 hl1' HL2.out).mono ?_
  rintro e w109 ⟨u0, rfl, U0, b0⟩
  have m9 := Mod.of_below b0
  obtain ⟨aU0, cU0, rfl, -⟩ := U0.shape
  replace A0 := A0.mod m9 (by omega)
  replace A2 := A2.mod m9 (by omega)
  replace GW := GW.mod m9 (by omega)
  replace Y0 := Y0.mod m9 (by omega)
  replace Y2 := Y2.mod m9 (by omega)
  replace G0 := G0.mod m9 (by omega)
  have s9 := m9.size
  replace bt := m9.below0 bt bt.size
  clear b0
  go_wp2_with fail
  refine (eqNodes_any _ _ x0 _ _ _ Y0.pl U0.pl).mono ?_
  rintro e w110 ⟨rfl, m10⟩
  replace A0 := A0.mod m10 (by omega)
  replace A2 := A2.mod m10 (by omega)
  replace GW := GW.mod m10 (by omega)
  replace Y0 := Y0.mod m10 (by omega)
  replace Y2 := Y2.mod m10 (by omega)
  replace G0 := G0.mod m10 (by omega)
  replace U0 := U0.mod m10 (by omega)
  have s10 := m10.size
  replace bt := m10.below0 bt bt.size
  go_wp2_with fail
  refine (toRows_any _ _ _ _ A2 hr1' hr2').mono ?_
  rintro e w111 ⟨u2, rfl, U2, b0⟩
  have m11 := Mod.of_below b0
  replace U2 := U2.r
  replace A0 := A0.mod m11 (by omega)
  replace A2 := A2.mod m11 (by omega)
  replace GW := GW.mod m11 (by omega)
  replace Y0 := Y0.mod m11 (by omega)
  replace Y2 := Y2.mod m11 (by omega)
  replace G0 := G0.mod m11 (by omega)
  have s11 := m11.size
  replace bt := m11.below0 bt bt.size
  clear b0
  go_wp2_with fail
  refine (eqRows_any _ _ x2 _ _ _ Y2.rs U2.rs).mono ?_
  rintro e w112 ⟨rfl, m12⟩
  replace A0 := A0.mod m12 (by omega)
  replace A2 := A2.mod m12 (by omega)
  replace GW := GW.mod m12 (by omega)
  replace Y0 := Y0.mod m12 (by omega)
  replace Y2 := Y2.mod m12 (by omega)
  replace G0 := G0.mod m12 (by omega)
  replace U2 := U2.mod m12 (by omega)
  have s12 := m12.size
  replace bt := m12.below0 bt bt.size
  go_wp2_with fail
  refine (markNodes_r _ x0 1 _ _ _ Y0 (by omega) (by omega) (by omega) HL2.out).mono ?_
  rintro e w113 ⟨rfl, -, m13⟩
  replace A0 := A0.mod m13 (by omega)
  replace A2 := A2.mod m13 (by omega)
  replace GW := GW.mod m13 (by omega)
  replace Y2 := Y2.mod m13 (by omega)
  replace G0 := G0.mod m13 (by omega)
  have s13 := m13.size
  replace bt := m13.below bt (by omega) bt.size
  have hsn := sumN_nonneg x0
  have hr2 : ¬ 1 + sumN x0 < 0 := by omega
  have hsn2 := sumN_le 1048576 HL2.out x0.length (Nat.le_refl _)
  rw [List.take_length] at hsn2
  have hss := sumS_nonneg x2
  have hr3 : ¬ 1 + sumN x0 + sumS x2 < 0 := by omega
  go_wp2_with fail
  refine (markRows_r _ x2 _ _ _ _ Y2 (by omega) (by omega) (by omega) (fun i _ => by have := hr2' i; omega)).mono ?_
  rintro e w114 ⟨rfl, -, m14⟩
  replace A0 := A0.mod m14 (by omega)
  replace A2 := A2.mod m14 (by omega)
  replace GW := GW.mod m14 (by omega)
  replace G0 := G0.mod m14 (by omega)
  have s14 := m14.size
  replace bt := m14.below bt (by omega) bt.size
  go_wp2_with fail
  refine (eqInt_m _ _ out out _ G0.rl GW.rl).mono ?_
  rintro e w115 ⟨rfl, m15⟩
  replace A0 := A0.mod m15 (by omega)
  replace A2 := A2.mod m15 (by omega)
  replace GW := GW.mod m15 (by omega)
  replace G0 := G0.mod m15 (by omega)
  have s15 := m15.size
  replace bt := m15.below0 bt bt.size
  rw [sameB_self]
  go_wp2_with fail
  refine (markInt_r _ out 1 _ _ _ G0 (by omega) (by omega) hol).mono ?_
  rintro e w116 ⟨rfl, G0, m16⟩
  replace A0 := A0.mod m16 (by omega)
  replace A2 := A2.mod m16 (by omega)
  replace GW := GW.mod m16 (by omega)
  have s16 := m16.size
  replace bt := m16.below bt (by omega) bt.size
  go_wp2_with fail
  refine (heldInt_any _ 1 out.length _ G0.rl (by omega) (by omega) hol).mono ?_
  rintro e _ ⟨rfl, rfl⟩
  go_wp2_with fail
  refine (toNodes_any _ x0 _ _ A0 hl1' HL2.out).mono ?_
  rintro e w117 ⟨z0, rfl, Z0, b0⟩
  have m17 := Mod.of_below b0
  obtain ⟨aZ0, cZ0, rfl, -⟩ := Z0.shape
  replace A0 := A0.mod m17 (by omega)
  replace A2 := A2.mod m17 (by omega)
  replace GW := GW.mod m17 (by omega)
  replace G0 := G0.mod m17 (by omega)
  have s17 := m17.size
  replace bt := m17.below0 bt bt.size
  clear b0
  go_wp2_with fail
  refine (toRows_any _ _ _ _ A2 hr1' hr2').mono ?_
  rintro e w118 ⟨z2, rfl, Z2, b0⟩
  have m18 := Mod.of_below b0
  replace Z2 := Z2.r
  replace A0 := A0.mod m18 (by omega)
  replace A2 := A2.mod m18 (by omega)
  replace GW := GW.mod m18 (by omega)
  replace G0 := G0.mod m18 (by omega)
  replace Z0 := Z0.mod m18 (by omega)
  have s18 := m18.size
  replace bt := m18.below0 bt bt.size
  clear b0
  go_wp2_with fail
  refine (HI.out _ _ _ _ _ Z0.pl Z2.rs).mono ?_
  rintro e w119 ⟨h0, rfl, H0, b0⟩
  have m19 := Mod.of_below b0
  replace H0 := H0.r
  replace A0 := A0.mod m19 (by omega)
  replace A2 := A2.mod m19 (by omega)
  replace GW := GW.mod m19 (by omega)
  replace G0 := G0.mod m19 (by omega)
  replace Z0 := Z0.mod m19 (by omega)
  replace Z2 := Z2.mod m19 (by omega)
  have s19 := m19.size
  replace bt := m19.below0 bt bt.size
  clear b0
  go_wp2_with fail
  refine (eqInt_m _ _ out out _ H0.rl GW.rl).mono ?_
  rintro e w120 ⟨rfl, m20⟩
  replace A0 := A0.mod m20 (by omega)
  replace A2 := A2.mod m20 (by omega)
  replace GW := GW.mod m20 (by omega)
  replace G0 := G0.mod m20 (by omega)
  replace Z0 := Z0.mod m20 (by omega)
  replace Z2 := Z2.mod m20 (by omega)
  replace H0 := H0.mod m20 (by omega)
  have s20 := m20.size
  replace bt := m20.below0 bt bt.size
  rw [sameB_self]
  go_wp2_with fail
  refine (heldInt_any _ 1 out.length _ G0.rl (by omega) (by omega) hol).mono ?_
  rintro e _ ⟨rfl, rfl⟩
  go_wp2_with fail
  go_ret
  exact ⟨rfl, bt⟩

theorem own : ownKnob Try.prog.godebug = none := by kernel_rfl
theorem laidOut : laidOutB Try.prog = true := by kernel_rfl
set_option maxRecDepth 100000 in
theorem lifted (os : Os) (started : os.Started) (H : Type) (enc : TypeId × Value → H) :
    ReturnsInHanded {} Try.checked os 5 .any (Rows.fnExactValueStepSpec.pre6 enc Try.prog Try.f5 Rows.fnExactValueStepRow.domain false) (Rows.fnExactValueStepSpec.post enc Try.prog Try.f5 false true false false) := by
  refine returnsInHanded_of_change (C := Try.checked) own started (by kernel_rfl) Try.func5
    (ChangeSpec.witness6 (enc := enc) (C := Try.checked) false ⟨#[], #[.slice none 0 0, .int .i64 0, .slice none 0 0], []⟩ 8 (by kernel_rfl) (by kernel_rfl) (by kernel_rfl) (by kernel_rfl)) ?_
  intro W base args ds gs before hval0 hW _ _
  have hval : ∀ (j : Nat) t v, Try.f5.params[j]? = some t → args[j]? = some v → Value.okWide Try.prog W .any base t v := hval0
  have hW' := hW
  obtain ⟨p, q, hA0, hV, rfl, _, _⟩ := hW
  have hA : DataW.TrodAll enc Try.prog W 0 (fun _ => true) true Try.f5.params.toList args.toList ds p := hA0
  rw [Try.params5] at hA hval
  obtain ⟨v0, vs0, d0, ds0, p0, q0, hargs, rfl, rfl, h0, r0⟩ := trodAll_cons hA
  obtain ⟨v1, vs1, d1, ds1, p1, q1, rfl, rfl, rfl, h1, r1⟩ := trodAll_cons r0
  obtain ⟨v2, vs2, d2, ds2, p2, q2, rfl, rfl, rfl, h2, r2⟩ := trodAll_cons r1
  obtain ⟨rfl, rfl, rfl⟩ := trodAll_nil r2
  obtain rfl : args = #[v0, v1, v2] := by cases args; simp_all
  obtain ⟨rfl, rfl⟩ := trodVars_none hV
  have k0 := h0
  have lt0 : ∀ x ∈ p0, x.block < W.heap.size := by obtain ⟨m, hm⟩ := k0; exact DataW.trod_lt m _ _ _ hm
  obtain ⟨x0, w0⟩ := open_pl (hval 0 22 v0 rfl rfl) h0
  obtain ⟨x1, rfl, rfl, rfl, w1⟩ := open_int Try.underlying3 (hval 1 3 v1 rfl rfl) h1
  have k2 := h2
  have lt2 : ∀ x ∈ p2, x.block < W.heap.size := by obtain ⟨m, hm⟩ := k2; exact DataW.trod_lt m _ _ _ hm
  obtain ⟨x2, w2⟩ := open_rsl (hval 2 34 v2 rfl rfl) h2
  clear hA0 hval0
  refine (walk v0 x0 x1 v2 x2 W w0 w1 w2).mono fun e W' ⟨he, bel⟩ => ?_
  subst he
  exact ⟨_, rfl, _, _, _, [], _, [], hW', trodAll_mk1 (shut_bool Try.underlying4 _), (trodAll_cons_mk (Below.trod laidOut (by kernel_rfl) (of_decide_eq_true (by kernel_rfl)) k0 bel lt0) (trodAll_cons_mk (shut_int Try.underlying3 w1) (trodAll_cons_mk (Below.trod laidOut (by kernel_rfl) (of_decide_eq_true (by kernel_rfl)) k2 bel lt2) trodAll_mk0))), rfl, bel.frame _, fun h => by cases h⟩

theorem over : Rows.fnExactValueStepRow.holds Try.pinned (OpenSpec.ofChange Rows.fnExactValueStepSpec) :=
  OpenClaim.holds_of_wide 5 Try.f5 rfl rfl rfl rfl rfl rfl rfl ⟨rfl, rfl, rfl, rfl, rfl⟩ rfl rfl rfl rfl rfl (by kernel_rfl) Try.func5 (by kernel_rfl)
    (of_decide_eq_true (by kernel_rfl)) (by unfold Func.isWrapper; first | (rw [if_pos (by decide +kernel)]; kernel_rfl) | (rw [if_neg (by decide +kernel)]; exact ⟨rfl, rfl⟩))
    (fun os started H enc _ => lifted os started H enc)

theorem proved : Rows.FnExactValueStepSaid := over
end Go.Proofs.Yteelobokjidphaa.fnExactValueStep
