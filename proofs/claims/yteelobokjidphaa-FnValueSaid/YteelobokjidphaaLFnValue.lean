/- A row is one of all. No condition. -/
import Derived.Test.YteelobokjidphaaRows
import Derived.Test.YteelobokjidphaaArgs
import Derived.Test.YteelobokjidphaaDrawPlans
import Derived.Test.YteelobokjidphaaSameRow
import Derived.Test.YteelobokjidphaaValueStep
import Derived.Test.YteelobokjidphaaValuesLaw
import Derived.Test.YteelobokjidphaaMarkRows
namespace Go.Proofs.Yteelobokjidphaa.fnValue
open Go.ChangeShapes Go.WideShapes Go.ChangeAt Go.RowKit

set_option maxRecDepth 50000 in
set_option maxHeartbeats 4000000 in
theorem walk (v0 : Value) (x0 : List Int) (w : World) (w0 : BL w v0 x0) :
    Calls Try.prog 12 #[v0] w fun e w' => e = .returned (.bool true) ∧ Below w.heap.size w w' := by
  obtain ⟨a0, c0, rfl, -⟩ := id w0
  by_cases hl0 : 1048576 < x0.length
  · go_enter Try.func12, Try.ntmps12
    go_wp2_with fail
    go_ret
    exact ⟨rfl, Below.refl _ _⟩
  have hl0' : x0.length ≤ 1048576 := by omega
  clear hl0
  go_enter Try.func12, Try.ntmps12
  go_wp2_with fail
  refine (drawValueOf_any _ x0 w w0).mono ?_
  rintro e w1 ⟨vp, ns, a, rfl, hp, hsh, bt⟩
  obtain ⟨ap, cp, rfl, hpl1, hpl2⟩ := hp.shape
  unfold maxLen at hpl2
  have A := hp.pl
  have hl11 := hsh.1
  have s1 := bt.size
  clear hp w0
  go_wp2_with fail
  refine (ivalue_any _ ns _ a _ A).mono ?_
  rintro e w2 ⟨vo, rfl, O, b0⟩
  have m2 := Mod.of_below b0
  replace O := O.r
  replace A := A.mod m2 (by omega)
  have s2 := m2.size
  replace bt := m2.below0 bt bt.size
  clear b0
  go_wp2_with fail
  refine (svalue_any _ ns _ a _ A (by omega)).mono ?_
  rintro e w3 ⟨vw, rfl, W, b0⟩
  have m3 := Mod.of_below b0
  replace W := W.r
  replace A := A.mod m3 (by omega)
  replace O := O.mod m3 (by omega)
  have s3 := m3.size
  replace bt := m3.below0 bt bt.size
  clear b0
  go_wp2_with fail
  refine (sameRow_m _ _ _ _ _ O.rl W.rl).mono ?_
  rintro e w4 ⟨rfl, m4⟩
  replace A := A.mod m4 (by omega)
  replace O := O.mod m4 (by omega)
  replace W := W.mod m4 (by omega)
  have s4 := m4.size
  replace bt := m4.below0 bt bt.size
  rw [sameB_self]
  cases hvb : valB ns a
  · have HVB := hid hvb
    clear hvb
    go_wp2_with fail
    refine (sameRow_m _ _ _ _ _ O.rl W.rl).mono ?_
    rintro e w5 ⟨rfl, m5⟩
    replace A := A.mod m5 (by omega)
    replace O := O.mod m5 (by omega)
    replace W := W.mod m5 (by omega)
    have s5 := m5.size
    replace bt := m5.below0 bt bt.size
    rw [sameB_self]
    go_wp2_with fail
    go_ret
    exact ⟨rfl, bt⟩
  · obtain ⟨hpb, k, rfl, hk⟩ := valB_of hvb
    rw [valR_at hpb hk] at O
    obtain ⟨V, hV⟩ : ∃ V, V = valsN ns ns.length := ⟨_, rfl⟩
    rw [← hV] at O
    have hVl : V.length = ns.length := by rw [hV, valsN_length]
    have hVR : valsR ns = V := by rw [hV, valsR_of hpb]
    have k0 : (0 : Int) ≤ (k : Int) := by omega
    have k1 : (k : Int) < (ns.length : Int) := by omega
    obtain ⟨xs, hxs⟩ : ∃ xs, xs = V.getD k [] := ⟨_, rfl⟩
    rw [← hxs] at O
    have HXS := hid hxs
    have HPB := hid hpb
    have HVR := hid hVR
    have HVL := hid hVl
    have HV := hid hV
    clear hvb hpb hVR hVl hV hxs W
    go_wp2_with fail
    refine (ivalues_any _ ns _ _ A).mono ?_
    rintro e w5 ⟨vx, rfl, X, b0⟩
    have m5 := Mod.of_below b0
    replace X := X.grid.rs
    rw [HVR.out] at X
    rw [HPB.out]
    replace A := A.mod m5 (by omega)
    replace O := O.mod m5 (by omega)
    have s5 := m5.size
    replace bt := m5.below0 bt bt.size
    clear b0
    obtain ⟨ax, cx, rfl, hx1, hx2⟩ := X.shape
    rw [HVL.out] at X hx1 ⊢
    obtain ⟨ay, cy, e9, -, -, hxs9, hxr⟩ := id X
    simp only [Value.slice.injEq] at e9
    obtain ⟨rfl, -, rfl⟩ := e9
    obtain ⟨b9, o9, u9, rfl, hb9, hc9, hu9⟩ := hxr k (by rw [HVL.out]; exact hk)
    rw [← HXS.out] at hu9
    obtain ⟨au, cu, rfl, -⟩ := id hu9
    clear hxr
    go_wp2_with fail
    refine (sameRow_m _ _ xs xs _ hu9.rl O.rl).mono ?_
    rintro e w6 ⟨rfl, m6⟩
    replace A := A.mod m6 (by omega)
    replace O := O.mod m6 (by omega)
    replace X := X.mod m6 (by omega)
    have s6 := m6.size
    replace bt := m6.below0 bt bt.size
    rw [sameB_self]
    go_wp2_with fail
    go_ret
    exact ⟨rfl, bt⟩

theorem own : ownKnob Try.prog.godebug = none := by kernel_rfl
theorem laidOut : laidOutB Try.prog = true := by kernel_rfl
set_option maxRecDepth 100000 in
theorem lifted (os : Os) (started : os.Started) (H : Type) (enc : TypeId × Value → H) :
    ReturnsInHanded {} Try.checked os 12 .any (Rows.fnValueSpec.pre6 enc Try.prog Try.f12 Rows.fnValueRow.domain false) (Rows.fnValueSpec.post enc Try.prog Try.f12 false true false false) := by
  refine returnsInHanded_of_change (C := Try.checked) own started (by kernel_rfl) Try.func12
    (ChangeSpec.witness6 (enc := enc) (C := Try.checked) false ⟨#[], #[.slice none 0 0], []⟩ 8 (by kernel_rfl) (by kernel_rfl) (by kernel_rfl) (by kernel_rfl)) ?_
  intro W base args ds gs before hval0 hW _ _
  have hval : ∀ (j : Nat) t v, Try.f12.params[j]? = some t → args[j]? = some v → Value.okWide Try.prog W .any base t v := hval0
  have hW' := hW
  obtain ⟨p, q, hA0, hV, rfl, _, _⟩ := hW
  have hA : DataW.TrodAll enc Try.prog W 0 (fun _ => true) true Try.f12.params.toList args.toList ds p := hA0
  rw [Try.params12] at hA hval
  obtain ⟨v0, vs0, d0, ds0, p0, q0, hargs, rfl, rfl, h0, r0⟩ := trodAll_cons hA
  obtain ⟨rfl, rfl, rfl⟩ := trodAll_nil r0
  obtain rfl : args = #[v0] := by cases args; simp_all
  obtain ⟨rfl, rfl⟩ := trodVars_none hV
  have k0 := h0
  have lt0 : ∀ x ∈ p0, x.block < W.heap.size := by obtain ⟨m, hm⟩ := k0; exact DataW.trod_lt m _ _ _ hm
  obtain ⟨x0, w0⟩ := open_bl (hval 0 53 v0 rfl rfl) h0
  clear hA0 hval0
  refine (walk v0 x0 W w0).mono fun e W' ⟨he, bel⟩ => ?_
  subst he
  exact ⟨_, rfl, _, _, _, [], _, [], hW', trodAll_mk1 (shut_bool Try.underlying4 _), (trodAll_cons_mk (Below.trod laidOut (by kernel_rfl) (of_decide_eq_true (by kernel_rfl)) k0 bel lt0) trodAll_mk0), rfl, bel.frame _, fun h => by cases h⟩

theorem over : Rows.fnValueRow.holds Try.pinned (OpenSpec.ofChange Rows.fnValueSpec) :=
  OpenClaim.holds_of_wide 12 Try.f12 rfl rfl rfl rfl rfl rfl rfl ⟨rfl, rfl, rfl, rfl, rfl⟩ rfl rfl rfl rfl rfl (by kernel_rfl) Try.func12 (by kernel_rfl)
    (of_decide_eq_true (by kernel_rfl)) (by unfold Func.isWrapper; first | (rw [if_pos (by decide +kernel)]; kernel_rfl) | (rw [if_neg (by decide +kernel)]; exact ⟨rfl, rfl⟩))
    (fun os started H enc _ => lifted os started H enc)

theorem proved : Rows.FnValueSaid := over
end Go.Proofs.Yteelobokjidphaa.fnValue
