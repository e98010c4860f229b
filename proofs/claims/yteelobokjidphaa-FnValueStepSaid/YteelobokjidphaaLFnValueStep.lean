/- A step leads to the next row. No condition. -/
import Derived.Test.YteelobokjidphaaRows
import Derived.Test.YteelobokjidphaaArgs
import Derived.Test.YteelobokjidphaaDrawPlans
import Derived.Test.YteelobokjidphaaSameRow
import Derived.Test.YteelobokjidphaaValueStep
import Derived.Test.YteelobokjidphaaValuesLaw
import Derived.Test.YteelobokjidphaaMarkRows
namespace Go.Proofs.Yteelobokjidphaa.fnValueStep
open Go.ChangeShapes Go.WideShapes Go.ChangeAt Go.RowKit

set_option maxRecDepth 50000 in
set_option maxHeartbeats 4000000 in
theorem walk (v0 : Value) (x0 : List Int) (w : World) (w0 : BL w v0 x0) :
    Calls Try.prog 13 #[v0] w fun e w' => e = .returned (.bool true) ∧ Below w.heap.size w w' := by
  obtain ⟨a0, c0, rfl, -⟩ := id w0
  by_cases hl0 : 1048576 < x0.length
  · go_enter Try.func13, Try.ntmps13
    go_wp2_with fail
    go_ret
    exact ⟨rfl, Below.refl _ _⟩
  have hl0' : x0.length ≤ 1048576 := by omega
  clear hl0
  go_enter Try.func13, Try.ntmps13
  go_wp2_with fail
  refine (drawValueOf_any _ x0 w w0).mono ?_
  rintro e w1 ⟨vp, ns, a, rfl, hp, hsh, bt⟩
  obtain ⟨ap, cp, rfl, hpl1, hpl2⟩ := hp.shape
  unfold maxLen at hpl2
  have A := hp.pl
  have hl11 := hsh.1
  have s1 := bt.size
  clear hp w0
  go_wp2_with fail
  refine (ivalue_any _ ns _ a _ A).mono ?_
  rintro e w2 ⟨vo, rfl, O, b0⟩
  have m2 := Mod.of_below b0
  replace O := O.r
  replace A := A.mod m2 (by omega)
  have s2 := m2.size
  replace bt := m2.below0 bt bt.size
  clear b0
  go_wp2_with fail
  refine (svalue_any _ ns _ a _ A (by omega)).mono ?_
  rintro e w3 ⟨vw, rfl, W, b0⟩
  have m3 := Mod.of_below b0
  replace W := W.r
  replace A := A.mod m3 (by omega)
  replace O := O.mod m3 (by omega)
  have s3 := m3.size
  replace bt := m3.below0 bt bt.size
  clear b0
  go_wp2_with fail
  refine (sameRow_m _ _ _ _ _ O.rl W.rl).mono ?_
  rintro e w4 ⟨rfl, m4⟩
  replace A := A.mod m4 (by omega)
  replace O := O.mod m4 (by omega)
  replace W := W.mod m4 (by omega)
  have s4 := m4.size
  replace bt := m4.below0 bt bt.size
  rw [sameB_self]
  cases hvb : valB ns a
  · have HVB := hid hvb
    clear hvb
    go_wp2_with fail
    refine (sameRow_m _ _ _ _ _ O.rl W.rl).mono ?_
    rintro e w5 ⟨rfl, m5⟩
    replace A := A.mod m5 (by omega)
    replace O := O.mod m5 (by omega)
    replace W := W.mod m5 (by omega)
    have s5 := m5.size
    replace bt := m5.below0 bt bt.size
    rw [sameB_self]
    go_wp2_with fail
    go_ret
    exact ⟨rfl, bt⟩
  · obtain ⟨hpb, k, rfl, hk⟩ := valB_of hvb
    rw [valR_at hpb hk] at O
    obtain ⟨V, hV⟩ : ∃ V, V = valsN ns ns.length := ⟨_, rfl⟩
    rw [← hV] at O
    have hVl : V.length = ns.length := by rw [hV, valsN_length]
    have hVR : valsR ns = V := by rw [hV, valsR_of hpb]
    have k0 : (0 : Int) ≤ (k : Int) := by omega
    have k1 : (k : Int) < (ns.length : Int) := by omega
    obtain ⟨xs, hxs⟩ : ∃ xs, xs = V.getD k [] := ⟨_, rfl⟩
    rw [← hxs] at O
    have HXS := hid hxs
    have HPB := hid hpb
    have HVR := hid hVR
    have HVL := hid hVl
    have HV := hid hV
    obtain ⟨hs1, hs2⟩ := stp_vals hpb hk
    rw [← hV, ← hxs] at hs2
    have hk2 : V.take k = valsN ns k := by rw [hV, valsN_take ns (by omega)]
    have HK2 := hid hk2
    have HS1 := hid hs1
    have HS2 := hid hs2
    clear hvb hpb hVR hVl hV hxs W hs1 hs2 hk2
    go_wp2_with fail
    refine (ivalues_any _ ns _ _ A).mono ?_
    rintro e w5 ⟨vx, rfl, X, b0⟩
    have m5 := Mod.of_below b0
    replace X := X.grid.rs
    rw [HVR.out] at X
    rw [HPB.out]
    replace A := A.mod m5 (by omega)
    replace O := O.mod m5 (by omega)
    have s5 := m5.size
    replace bt := m5.below0 bt bt.size
    clear b0
    obtain ⟨ax, cx, rfl, hx1, hx2⟩ := X.shape
    rw [HVL.out] at X hx1 ⊢
    have X2 := X.take (k := k) (by omega)
    rw [HK2.out] at X2
    have kc : (k : Int) ≤ (cx : Int) := by omega
    have hz0 : ax ≠ none := by
      obtain ⟨ay, cy, e9, -, -, -, hxr⟩ := id X
      simp only [Value.slice.injEq] at e9
      obtain ⟨rfl, -, rfl⟩ := e9
      obtain ⟨b9, o9, u9, e9, -⟩ := hxr k (by rw [HVL.out]; exact hk)
      rw [e9]; simp
    obtain ⟨aa, rfl⟩ := Option.ne_none_iff_exists'.1 hz0
    clear hz0
    go_wp2_with fail
    refine (istp_any _ _ ns _ _ (k : Int) _ _ A X2).mono ?_
    rintro e w6 ⟨vy, rfl, Y, b0⟩
    have m6 := Mod.of_below b0
    replace Y := Y.r
    replace A := A.mod m6 (by omega)
    replace O := O.mod m6 (by omega)
    replace X := X.mod m6 (by omega)
    replace X2 := X2.mod m6 (by omega)
    have s6 := m6.size
    replace bt := m6.below0 bt bt.size
    clear b0
    rw [HS1.out]
    rw [HS2.out] at Y
    go_wp2_with fail
    refine (sameRow_m _ _ xs xs _ Y.rl O.rl).mono ?_
    rintro e w7 ⟨rfl, m7⟩
    replace A := A.mod m7 (by omega)
    replace O := O.mod m7 (by omega)
    replace X := X.mod m7 (by omega)
    replace X2 := X2.mod m7 (by omega)
    replace Y := Y.mod m7 (by omega)
    have s7 := m7.size
    replace bt := m7.below0 bt bt.size
    rw [sameB_self]
    go_wp2_with fail
    go_ret
    exact ⟨rfl, bt⟩

theorem own : ownKnob Try.prog.godebug = none := by kernel_rfl
theorem laidOut : laidOutB Try.prog = true := by kernel_rfl
set_option maxRecDepth 100000 in
theorem lifted (os : Os) (started : os.Started) (H : Type) (enc : TypeId × Value → H) :
    ReturnsInHanded {} Try.checked os 13 .any (Rows.fnValueStepSpec.pre6 enc Try.prog Try.f13 Rows.fnValueStepRow.domain false) (Rows.fnValueStepSpec.post enc Try.prog Try.f13 false true false false) := by
  refine returnsInHanded_of_change (C := Try.checked) own started (by kernel_rfl) Try.func13
    (ChangeSpec.witness6 (enc := enc) (C := Try.checked) false ⟨#[], #[.slice none 0 0], []⟩ 8 (by kernel_rfl) (by kernel_rfl) (by kernel_rfl) (by kernel_rfl)) ?_
  intro W base args ds gs before hval0 hW _ _
  have hval : ∀ (j : Nat) t v, Try.f13.params[j]? = some t → args[j]? = some v → Value.okWide Try.prog W .any base t v := hval0
  have hW' := hW
  obtain ⟨p, q, hA0, hV, rfl, _, _⟩ := hW
  have hA : DataW.TrodAll enc Try.prog W 0 (fun _ => true) true Try.f13.params.toList args.toList ds p := hA0
  rw [Try.params13] at hA hval
  obtain ⟨v0, vs0, d0, ds0, p0, q0, hargs, rfl, rfl, h0, r0⟩ := trodAll_cons hA
  obtain ⟨rfl, rfl, rfl⟩ := trodAll_nil r0
  obtain rfl : args = #[v0] := by cases args; simp_all
  obtain ⟨rfl, rfl⟩ := trodVars_none hV
  have k0 := h0
  have lt0 : ∀ x ∈ p0, x.block < W.heap.size := by obtain ⟨m, hm⟩ := k0; exact DataW.trod_lt m _ _ _ hm
  obtain ⟨x0, w0⟩ := open_bl (hval 0 53 v0 rfl rfl) h0
  clear hA0 hval0
  refine (walk v0 x0 W w0).mono fun e W' ⟨he, bel⟩ => ?_
  subst he
  exact ⟨_, rfl, _, _, _, [], _, [], hW', trodAll_mk1 (shut_bool Try.underlying4 _), (trodAll_cons_mk (Below.trod laidOut (by kernel_rfl) (of_decide_eq_true (by kernel_rfl)) k0 bel lt0) trodAll_mk0), rfl, bel.frame _, fun h => by cases h⟩

theorem over : Rows.fnValueStepRow.holds Try.pinned (OpenSpec.ofChange Rows.fnValueStepSpec) :=
  OpenClaim.holds_of_wide 13 Try.f13 rfl rfl rfl rfl rfl rfl rfl ⟨rfl, rfl, rfl, rfl, rfl⟩ rfl rfl rfl rfl rfl (by kernel_rfl) Try.func13 (by kernel_rfl)
    (of_decide_eq_true (by kernel_rfl)) (by unfold Func.isWrapper; first | (rw [if_pos (by decide +kernel)]; kernel_rfl) | (rw [if_neg (by decide +kernel)]; exact ⟨rfl, rfl⟩))
    (fun os started H enc _ => lifted os started H enc)

theorem proved : Rows.FnValueStepSaid := over
end Go.Proofs.Yteelobokjidphaa.fnValueStep
