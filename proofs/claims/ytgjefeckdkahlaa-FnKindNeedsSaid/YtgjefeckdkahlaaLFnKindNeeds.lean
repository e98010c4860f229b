/- Each kind needs at most two rows. No condition. -/
import Derived.Test.YtgjefeckdkahlaaRows
import Derived.Test.YtgjefeckdkahlaaArgs
import Derived.Test.YtgjefeckdkahlaaKind
import Derived.Test.YtgjefeckdkahlaaDrawKind
namespace Go.Proofs.Ytgjefeckdkahlaa.fnKindNeeds
open Go.ChangeShapes Go.WideShapes Go.ChangeAt Go.RowKit

set_option maxHeartbeats 4000000 in
theorem walk (v0 : Value) (x0 : List Int) (w : World) (w0 : BL w v0 x0) :
    Calls Try.prog 10 #[v0] w fun e w' => e = .returned (.bool true) ∧ Below w.heap.size w w' := by
  obtain ⟨a0, c0, rfl, -⟩ := id w0
  by_cases hl0 : 1048576 < x0.length
  · go_enter Try.func10, Try.ntmps10
    go_wp2_with fail
    go_ret
    exact ⟨rfl, Below.refl _ _⟩
  have hl0' : x0.length ≤ 1048576 := by omega
  clear hl0
  go_enter Try.func10, Try.ntmps10
  go_wp2_with fail
  refine (drawKindNeeds_any _ x0 w w0).mono ?_
  rintro e w1 ⟨k, rfl, hk1, hk2, bt⟩
  have s1 := bt.size
  go_wp2_with fail
  refine (ikn_any _ _).mono ?_
  rintro e w2 ⟨rfl, m2⟩
  have s2 := m2.size
  replace bt := m2.below0 bt bt.size
  go_wp2_with fail
  refine (skn_any _ _).mono ?_
  rintro e _ ⟨rfl, rfl⟩
  have hn1 : kvB k = true → 0 ≤ knI k ∧ knI k ≤ 2 := fun h => by unfold knI; rw [if_pos h]; (repeat' split) <;> omega
  have hn2 : kvB k = false → knI k = -1 := fun h => by unfold knI; rw [if_neg (by simp [h])]
  cases hv : kvB k
  · rw [hn2 hv]
    have HV := hid hv
    clear hn1 hn2 hv
    go_wp2_with fail
    refine (ikv_any _ _).mono ?_
    rintro e _ ⟨rfl, rfl⟩
    rw [HV.out]
    go_wp2_with fail
    go_ret
    exact ⟨rfl, bt⟩
  · obtain ⟨n1, n2⟩ := hn1 hv
    have hne : (knI k == -1) = false := by simp; omega
    have HV := hid hv
    clear hn1 hn2 hv
    go_wp2_with fail
    refine (ikv_any _ _).mono ?_
    rintro e _ ⟨rfl, rfl⟩
    rw [HV.out]
    go_wp2_with fail
    go_ret
    exact ⟨rfl, bt⟩

theorem own : ownKnob Try.prog.godebug = none := by kernel_rfl
theorem laidOut : laidOutB Try.prog = true := by kernel_rfl
set_option maxRecDepth 100000 in
theorem lifted (os : Os) (started : os.Started) (H : Type) (enc : TypeId × Value → H) :
    ReturnsInHanded {} Try.checked os 10 .any (Rows.fnKindNeedsSpec.pre6 enc Try.prog Try.f10 Rows.fnKindNeedsRow.domain false) (Rows.fnKindNeedsSpec.post enc Try.prog Try.f10 false true false false) := by
  refine returnsInHanded_of_change (C := Try.checked) own started (by kernel_rfl) Try.func10
    (ChangeSpec.witness6 (enc := enc) (C := Try.checked) false ⟨#[], #[.slice none 0 0], []⟩ 8 (by kernel_rfl) (by kernel_rfl) (by kernel_rfl) (by kernel_rfl)) ?_
  intro W base args ds gs before hval0 hW _ _
  have hval : ∀ (j : Nat) t v, Try.f10.params[j]? = some t → args[j]? = some v → Value.okWide Try.prog W .any base t v := hval0
  have hW' := hW
  obtain ⟨p, q, hA0, hV, rfl, _, _⟩ := hW
  have hA : DataW.TrodAll enc Try.prog W 0 (fun _ => true) true Try.f10.params.toList args.toList ds p := hA0
  rw [Try.params10] at hA hval
  obtain ⟨v0, vs0, d0, ds0, p0, q0, hargs, rfl, rfl, h0, r0⟩ := trodAll_cons hA
  obtain ⟨rfl, rfl, rfl⟩ := trodAll_nil r0
  obtain rfl : args = #[v0] := by cases args; simp_all
  obtain ⟨rfl, rfl⟩ := trodVars_none hV
  have k0 := h0
  have lt0 : ∀ x ∈ p0, x.block < W.heap.size := by obtain ⟨m, hm⟩ := k0; exact DataW.trod_lt m _ _ _ hm
  obtain ⟨x0, w0⟩ := open_bl (hval 0 29 v0 rfl rfl) h0
  clear hA0 hval0
  refine (walk v0 x0 W w0).mono fun e W' ⟨he, bel⟩ => ?_
  subst he
  exact ⟨_, rfl, _, _, _, [], _, [], hW', trodAll_mk1 (shut_bool Try.underlying4 _), (trodAll_cons_mk (Below.trod laidOut (by kernel_rfl) (of_decide_eq_true (by kernel_rfl)) k0 bel lt0) trodAll_mk0), rfl, bel.frame _, fun h => by cases h⟩

theorem over : Rows.fnKindNeedsRow.holds Try.pinned (OpenSpec.ofChange Rows.fnKindNeedsSpec) :=
  OpenClaim.holds_of_wide 10 Try.f10 rfl rfl rfl rfl rfl rfl rfl ⟨rfl, rfl, rfl, rfl, rfl⟩ rfl rfl rfl rfl rfl (by kernel_rfl) Try.func10 (by kernel_rfl)
    (of_decide_eq_true (by kernel_rfl)) (by unfold Func.isWrapper; first | (rw [if_pos (by decide +kernel)]; kernel_rfl) | (rw [if_neg (by decide +kernel)]; exact ⟨rfl, rfl⟩))
    (fun os started H enc _ => lifted os started H enc)

theorem proved : Rows.FnKindNeedsSaid := over
end Go.Proofs.Ytgjefeckdkahlaa.fnKindNeeds
