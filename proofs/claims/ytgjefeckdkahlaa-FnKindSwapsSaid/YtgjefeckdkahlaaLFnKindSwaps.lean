/- Who needs two rows may exchange them. No condition. -/
import Derived.Test.YtgjefeckdkahlaaRows
import Derived.Test.YtgjefeckdkahlaaArgs
import Derived.Test.YtgjefeckdkahlaaKind
import Derived.Test.YtgjefeckdkahlaaDrawKind
namespace Go.Proofs.Ytgjefeckdkahlaa.fnKindSwaps
open Go.ChangeShapes Go.WideShapes Go.ChangeAt Go.RowKit

set_option maxHeartbeats 4000000 in
theorem walk (v0 : Value) (x0 : List Int) (w : World) (w0 : BL w v0 x0) :
    Calls Try.prog 11 #[v0] w fun e w' => e = .returned (.bool true) ∧ Below w.heap.size w w' := by
  obtain ⟨a0, c0, rfl, -⟩ := id w0
  by_cases hl0 : 1048576 < x0.length
  · go_enter Try.func11, Try.ntmps11
    go_wp2_with fail
    go_ret
    exact ⟨rfl, Below.refl _ _⟩
  have hl0' : x0.length ≤ 1048576 := by omega
  clear hl0
  go_enter Try.func11, Try.ntmps11
  go_wp2_with fail
  refine (drawKindSwaps_any _ x0 w w0).mono ?_
  rintro e w1 ⟨k, rfl, hk1, hk2, bt⟩
  have s1 := bt.size
  go_wp2_with fail
  refine (iks_any _ _).mono ?_
  rintro e w2 ⟨rfl, m2⟩
  have s2 := m2.size
  replace bt := m2.below0 bt bt.size
  go_wp2_with fail
  refine (sks_any _ _).mono ?_
  rintro e _ ⟨rfl, rfl⟩
  go_wp2_with fail
  refine (ikn_any _ _).mono ?_
  rintro e w3 ⟨rfl, m3⟩
  have s3 := m3.size
  replace bt := m3.below0 bt bt.size
  go_wp2_with fail
  go_ret
  exact ⟨by show Ending.returned (.bool (ksB k == (knI k == 2))) = _; unfold ksB; simp, bt⟩

theorem own : ownKnob Try.prog.godebug = none := by kernel_rfl
theorem laidOut : laidOutB Try.prog = true := by kernel_rfl
set_option maxRecDepth 100000 in
theorem lifted (os : Os) (started : os.Started) (H : Type) (enc : TypeId × Value → H) :
    ReturnsInHanded {} Try.checked os 11 .any (Rows.fnKindSwapsSpec.pre6 enc Try.prog Try.f11 Rows.fnKindSwapsRow.domain false) (Rows.fnKindSwapsSpec.post enc Try.prog Try.f11 false true false false) := by
  refine returnsInHanded_of_change (C := Try.checked) own started (by kernel_rfl) Try.func11
    (ChangeSpec.witness6 (enc := enc) (C := Try.checked) false ⟨#[], #[.slice none 0 0], []⟩ 8 (by kernel_rfl) (by kernel_rfl) (by kernel_rfl) (by kernel_rfl)) ?_
  intro W base args ds gs before hval0 hW _ _
  have hval : ∀ (j : Nat) t v, Try.f11.params[j]? = some t → args[j]? = some v → Value.okWide Try.prog W .any base t v := hval0
  have hW' := hW
  obtain ⟨p, q, hA0, hV, rfl, _, _⟩ := hW
  have hA : DataW.TrodAll enc Try.prog W 0 (fun _ => true) true Try.f11.params.toList args.toList ds p := hA0
  rw [Try.params11] at hA hval
  obtain ⟨v0, vs0, d0, ds0, p0, q0, hargs, rfl, rfl, h0, r0⟩ := trodAll_cons hA
  obtain ⟨rfl, rfl, rfl⟩ := trodAll_nil r0
  obtain rfl : args = #[v0] := by cases args; simp_all
  obtain ⟨rfl, rfl⟩ := trodVars_none hV
  have k0 := h0
  have lt0 : ∀ x ∈ p0, x.block < W.heap.size := by obtain ⟨m, hm⟩ := k0; exact DataW.trod_lt m _ _ _ hm
  obtain ⟨x0, w0⟩ := open_bl (hval 0 29 v0 rfl rfl) h0
  clear hA0 hval0
  refine (walk v0 x0 W w0).mono fun e W' ⟨he, bel⟩ => ?_
  subst he
  exact ⟨_, rfl, _, _, _, [], _, [], hW', trodAll_mk1 (shut_bool Try.underlying4 _), (trodAll_cons_mk (Below.trod laidOut (by kernel_rfl) (of_decide_eq_true (by kernel_rfl)) k0 bel lt0) trodAll_mk0), rfl, bel.frame _, fun h => by cases h⟩

theorem over : Rows.fnKindSwapsRow.holds Try.pinned (OpenSpec.ofChange Rows.fnKindSwapsSpec) :=
  OpenClaim.holds_of_wide 11 Try.f11 rfl rfl rfl rfl rfl rfl rfl ⟨rfl, rfl, rfl, rfl, rfl⟩ rfl rfl rfl rfl rfl (by kernel_rfl) Try.func11 (by kernel_rfl)
    (of_decide_eq_true (by kernel_rfl)) (by unfold Func.isWrapper; first | (rw [if_pos (by decide +kernel)]; kernel_rfl) | (rw [if_neg (by decide +kernel)]; exact ⟨rfl, rfl⟩))
    (fun os started H enc _ => lifted os started H enc)

theorem proved : Rows.FnKindSwapsSaid := over
end Go.Proofs.Ytgjefeckdkahlaa.fnKindSwaps
