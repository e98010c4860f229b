/- The program's KindRun returns what the reference's returns, for all arguments. No condition. -/
import Derived.Test.YtpcakoaepmeakaaRows
import Derived.Test.YtpcakoaepmeakaaArgs
import Derived.Test.YtpcakoaepmeakaaArgsRows
import Derived.Test.YtpcakoaepmeakaaLawRows
import Derived.Test.YtpcakoaepmeakaaKindRun
import Derived.Test.YtpcakoaepmeakaaRunHelp
namespace Go.Proofs.Ytpcakoaepmeakaa.fnExactKindRun
open Go.ChangeShapes Go.WideShapes Go.ChangeAt Go.RowKit

theorem krL_len (k : Int) (xss : List (List Int)) : (krL k xss).length ≤ 1048576 := by
  unfold krL
  (repeat' split)
  · exact joinR_len _ _ _
  · exact joinR_len _ _ _
  · exact sumsR_len _
  · exact sortR_len _
  · exact turnR_len _
  · simp
set_option maxRecDepth 50000 in
set_option maxHeartbeats 4000000 in
theorem walk (x0 : Int) (v1 : Value) (x1 : List (List Int)) (w : World) (_w0 : (Lit.int .i64 x0).wf = true) (w1 : RSL w v1 x1) :
    Calls Try.prog 5 #[.int .i64 x0, v1] w fun e w' => e = .returned (.bool true) ∧ Below w.heap.size w w' := by
  obtain ⟨a1, c1, rfl, -⟩ := id w1
  have bt := Below.refl w.heap.size w
  have A1 : RS w w.heap.size _ x1 := w1
  obtain ⟨out, hout⟩ : ∃ out, out = krL x0 x1 := ⟨_, rfl⟩
  obtain ⟨ok, hok⟩ : ∃ ok, ok = krB x0 x1 := ⟨_, rfl⟩
  have hol : out.length ≤ 1048576 := by rw [hout]; exact krL_len _ _
  have hs : ∀ v hi w, RS w hi v x1 → Calls Try.prog 17 #[.int .i64 x0, v] w (PostIB w out ok) := fun v hi w h => by rw [hout, hok]; exact skr_any x0 v hi x1 w h
  have hi : ∀ v hi w, RS w hi v x1 → Calls Try.prog 16 #[.int .i64 x0, v] w (PostIB w out ok) := fun v hi w h => by rw [hout, hok]; exact ikr_any x0 v hi x1 w h
  have HS := hid hs
  have HI := hid hi
  clear hs hi hout hok w1 _w0
  go_enter Try.func5, Try.ntmps5
  go_wp2_with fail
  refine (szRows_any _ x1 _ 1048576 w A1 (by omega) (by omega)).mono ?_
  rintro e _ ⟨n, rfl, hf, rfl⟩
  by_cases hn : n < 0
  · go_wp2_with fail
    go_ret
    exact ⟨rfl, bt⟩
  obtain ⟨hl1, hl2⟩ := hf (by omega)
  have hl1' : x1.length ≤ 1048576 := by omega
  have hl2' : ∀ i, (x1.getD i []).length ≤ 1048576 := fun i => by
    by_cases hi : i < x1.length
    · have := hl2 i hi; omega
    · simp [List.getD, List.getElem?_eq_none (by omega : x1.length ≤ i)]
  clear hf hl1 hl2
  go_wp2_with fail
  refine (toRows_any _ _ _ _ A1 hl1' hl2').mono ?_
  rintro e w101 ⟨t0, rfl, T0, b0⟩
  have m1 := Mod.of_below b0
  replace T0 := T0.r
  replace A1 := A1.mod m1 (by omega)
  have s1 := m1.size
  replace bt := m1.below0 bt bt.size
  clear b0
  go_wp2_with fail
  refine (HS.out _ _ _ T0.rs).mono ?_
  rintro e w102 ⟨gw, rfl, GW, b0⟩
  have m2 := Mod.of_below b0
  replace GW := GW.r
  replace A1 := A1.mod m2 (by omega)
  replace T0 := T0.mod m2 (by omega)
  have s2 := m2.size
  replace bt := m2.below0 bt bt.size
  clear b0
  go_wp2_with fail
  refine (toRows_any _ _ _ _ A1 hl1' hl2').mono ?_
  rintro e w103 ⟨y0, rfl, Y0, b0⟩
  have m3 := Mod.of_below b0
  replace Y0 := Y0.r
  replace A1 := A1.mod m3 (by omega)
  replace GW := GW.mod m3 (by omega)
  have s3 := m3.size
  replace bt := m3.below0 bt bt.size
  clear b0
  go_wp2_with fail
  refine (HI.out _ _ _ Y0.rs).mono ?_
  rintro e w104 ⟨g0, rfl, G0, b0⟩
  have m4 := Mod.of_below b0
  replace G0 := G0.r
  replace A1 := A1.mod m4 (by omega)
  replace GW := GW.mod m4 (by omega)
  replace Y0 := Y0.mod m4 (by omega)
  have s4 := m4.size
  replace bt := m4.below0 bt bt.size
  clear b0
  go_wp2_with fail
  refine (eqInt_m _ _ out out _ G0.rl GW.rl).mono ?_
  rintro e w105 ⟨rfl, m5⟩
  replace A1 := A1.mod m5 (by omega)
  replace GW := GW.mod m5 (by omega)
  replace Y0 := Y0.mod m5 (by omega)
  replace G0 := G0.mod m5 (by omega)
  have s5 := m5.size
  replace bt := m5.below0 bt bt.size
  rw [sameB_self]
  go_wp2_with fail
  refine (toRows_any _ _ _ _ A1 hl1' hl2').mono ?_
  rintro e w106 ⟨u0, rfl, U0, b0⟩
  have m6 := Mod.of_below b0
  replace U0 := U0.r
  replace A1 := A1.mod m6 (by omega)
  replace GW := GW.mod m6 (by omega)
  replace Y0 := Y0.mod m6 (by omega)
  replace G0 := G0.mod m6 (by omega)
  have s6 := m6.size
  replace bt := m6.below0 bt bt.size
  clear b0
  go_wp2_with fail
  refine (eqRows_any _ _ x1 _ _ _ Y0.rs U0.rs).mono ?_
  rintro e w107 ⟨rfl, m7⟩
  replace A1 := A1.mod m7 (by omega)
  replace GW := GW.mod m7 (by omega)
  replace Y0 := Y0.mod m7 (by omega)
  replace G0 := G0.mod m7 (by omega)
  replace U0 := U0.mod m7 (by omega)
  have s7 := m7.size
  replace bt := m7.below0 bt bt.size
  go_wp2_with fail
  refine (markRows_any _ x1 1 _ _ _ Y0 (by omega) (by omega) hl1' hl2').mono ?_
  rintro e w108 ⟨r, rfl, hr0, hr1, m8⟩
  replace A1 := A1.mod m8 (by omega)
  replace GW := GW.mod m8 (by omega)
  replace G0 := G0.mod m8 (by omega)
  have s8 := m8.size
  replace bt := m8.below bt (by omega) bt.size
  have hr2 : ¬ r < 0 := by omega
  go_wp2_with fail
  refine (eqInt_m _ _ out out _ G0.rl GW.rl).mono ?_
  rintro e w109 ⟨rfl, m9⟩
  replace A1 := A1.mod m9 (by omega)
  replace GW := GW.mod m9 (by omega)
  replace G0 := G0.mod m9 (by omega)
  have s9 := m9.size
  replace bt := m9.below0 bt bt.size
  rw [sameB_self]
  go_wp2_with fail
  refine (markInt_r _ out 1 _ _ _ G0 (by omega) (by omega) hol).mono ?_
  rintro e w110 ⟨rfl, G0, m10⟩
  replace A1 := A1.mod m10 (by omega)
  replace GW := GW.mod m10 (by omega)
  have s10 := m10.size
  replace bt := m10.below bt (by omega) bt.size
  go_wp2_with fail
  refine (heldInt_any _ 1 out.length _ G0.rl (by omega) (by omega) hol).mono ?_
  rintro e _ ⟨rfl, rfl⟩
  go_wp2_with fail
  refine (toRows_any _ _ _ _ A1 hl1' hl2').mono ?_
  rintro e w111 ⟨z0, rfl, Z0, b0⟩
  have m11 := Mod.of_below b0
  replace Z0 := Z0.r
  replace A1 := A1.mod m11 (by omega)
  replace GW := GW.mod m11 (by omega)
  replace G0 := G0.mod m11 (by omega)
  have s11 := m11.size
  replace bt := m11.below0 bt bt.size
  clear b0
  go_wp2_with fail
  refine (HI.out _ _ _ Z0.rs).mono ?_
  rintro e w112 ⟨h0, rfl, H0, b0⟩
  have m12 := Mod.of_below b0
  replace H0 := H0.r
  replace A1 := A1.mod m12 (by omega)
  replace GW := GW.mod m12 (by omega)
  replace G0 := G0.mod m12 (by omega)
  replace Z0 := Z0.mod m12 (by omega)
  have s12 := m12.size
  replace bt := m12.below0 bt bt.size
  clear b0
  go_wp2_with fail
  refine (eqInt_m _ _ out out _ H0.rl GW.rl).mono ?_
  rintro e w113 ⟨rfl, m13⟩
  replace A1 := A1.mod m13 (by omega)
  replace GW := GW.mod m13 (by omega)
  replace G0 := G0.mod m13 (by omega)
  replace Z0 := Z0.mod m13 (by omega)
  replace H0 := H0.mod m13 (by omega)
  have s13 := m13.size
  replace bt := m13.below0 bt bt.size
  rw [sameB_self]
  go_wp2_with fail
  refine (heldInt_any _ 1 out.length _ G0.rl (by omega) (by omega) hol).mono ?_
  rintro e _ ⟨rfl, rfl⟩
  go_wp2_with fail
  go_ret
  exact ⟨rfl, bt⟩

theorem own : ownKnob Try.prog.godebug = none := by kernel_rfl
theorem laidOut : laidOutB Try.prog = true := by kernel_rfl
set_option maxRecDepth 100000 in
theorem lifted (os : Os) (started : os.Started) (H : Type) (enc : TypeId × Value → H) :
    ReturnsInHanded {} Try.checked os 5 .any (Rows.fnExactKindRunSpec.pre6 enc Try.prog Try.f5 Rows.fnExactKindRunRow.domain false) (Rows.fnExactKindRunSpec.post enc Try.prog Try.f5 false true false false) := by
  refine returnsInHanded_of_change (C := Try.checked) own started (by kernel_rfl) Try.func5
    (ChangeSpec.witness6 (enc := enc) (C := Try.checked) false ⟨#[], #[.int .i64 0, .slice none 0 0], []⟩ 8 (by kernel_rfl) (by kernel_rfl) (by kernel_rfl) (by kernel_rfl)) ?_
  intro W base args ds gs before hval0 hW _ _
  have hval : ∀ (j : Nat) t v, Try.f5.params[j]? = some t → args[j]? = some v → Value.okWide Try.prog W .any base t v := hval0
  have hW' := hW
  obtain ⟨p, q, hA0, hV, rfl, _, _⟩ := hW
  have hA : DataW.TrodAll enc Try.prog W 0 (fun _ => true) true Try.f5.params.toList args.toList ds p := hA0
  rw [Try.params5] at hA hval
  obtain ⟨v0, vs0, d0, ds0, p0, q0, hargs, rfl, rfl, h0, r0⟩ := trodAll_cons hA
  obtain ⟨v1, vs1, d1, ds1, p1, q1, rfl, rfl, rfl, h1, r1⟩ := trodAll_cons r0
  obtain ⟨rfl, rfl, rfl⟩ := trodAll_nil r1
  obtain rfl : args = #[v0, v1] := by cases args; simp_all
  obtain ⟨rfl, rfl⟩ := trodVars_none hV
  obtain ⟨x0, rfl, rfl, rfl, w0⟩ := open_int Try.underlying3 (hval 0 3 v0 rfl rfl) h0
  have k1 := h1
  have lt1 : ∀ x ∈ p1, x.block < W.heap.size := by obtain ⟨m, hm⟩ := k1; exact DataW.trod_lt m _ _ _ hm
  obtain ⟨x1, w1⟩ := open_rsl (hval 1 23 v1 rfl rfl) h1
  clear hA0 hval0
  refine (walk x0 v1 x1 W w0 w1).mono fun e W' ⟨he, bel⟩ => ?_
  subst he
  exact ⟨_, rfl, _, _, _, [], _, [], hW', trodAll_mk1 (shut_bool Try.underlying4 _), (trodAll_cons_mk (shut_int Try.underlying3 w0) (trodAll_cons_mk (Below.trod laidOut (by kernel_rfl) (of_decide_eq_true (by kernel_rfl)) k1 bel lt1) trodAll_mk0)), rfl, bel.frame _, fun h => by cases h⟩

theorem over : Rows.fnExactKindRunRow.holds Try.pinned (OpenSpec.ofChange Rows.fnExactKindRunSpec) :=
  OpenClaim.holds_of_wide 5 Try.f5 rfl rfl rfl rfl rfl rfl rfl ⟨rfl, rfl, rfl, rfl, rfl⟩ rfl rfl rfl rfl rfl (by kernel_rfl) Try.func5 (by kernel_rfl)
    (of_decide_eq_true (by kernel_rfl)) (by unfold Func.isWrapper; first | (rw [if_pos (by decide +kernel)]; kernel_rfl) | (rw [if_neg (by decide +kernel)]; exact ⟨rfl, rfl⟩))
    (fun os started H enc _ => lifted os started H enc)

theorem proved : Rows.FnExactKindRunSaid := over
end Go.Proofs.Ytpcakoaepmeakaa.fnExactKindRun
