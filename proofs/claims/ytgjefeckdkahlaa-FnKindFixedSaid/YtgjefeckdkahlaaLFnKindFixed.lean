/- A given row is not made of others. No condition. -/
import Derived.Test.YtgjefeckdkahlaaRows
import Derived.Test.YtgjefeckdkahlaaArgs
import Derived.Test.YtgjefeckdkahlaaRunHelp
namespace Go.Proofs.Ytgjefeckdkahlaa.fnKindFixed
open Go.ChangeShapes Go.WideShapes Go.ChangeAt Go.RowKit

set_option maxHeartbeats 4000000 in
theorem walk (v0 : Value) (x0 : List Int) (w : World) (w0 : BL w v0 x0) :
    Calls Try.prog 12 #[v0] w fun e w' => e = .returned (.bool true) ∧ Below w.heap.size w w' := by
  obtain ⟨a0, c0, rfl, -⟩ := id w0
  by_cases hl0 : 1048576 < x0.length
  · go_enter Try.func12, Try.ntmps12
    go_wp2_with fail
    go_ret
    exact ⟨rfl, Below.refl _ _⟩
  have hl0' : x0.length ≤ 1048576 := by omega
  clear hl0
  go_enter Try.func12, Try.ntmps12
  go_wp2_with fail
  refine (drawRun_any _ x0 w w0).mono ?_
  rintro e w1 ⟨k, va, xss, rfl, A, hxl, hk0, hk5, bt⟩
  obtain ⟨aa, ca, rfl, hca, -⟩ := id A
  have s1 := bt.size
  cases hok : krB k xss
  · have OK := hid hok
    clear hok
    go_wp2_with fail
    refine (ikr_any k _ _ xss _ A).mono ?_
    rintro e w2 ⟨vo, rfl, O, b0⟩
    have m2 := Mod.of_below b0
    replace O := O.r
    replace A := A.mod m2 (by omega)
    have s2 := m2.size
    replace bt := m2.below0 bt bt.size
    clear b0
    rw [OK.out]
    go_wp2_with fail
    refine (skr_any k _ _ xss _ A).mono ?_
    rintro e w3 ⟨vw, rfl, W, b0⟩
    have m3 := Mod.of_below b0
    replace W := W.r
    replace A := A.mod m3 (by omega)
    replace O := O.mod m3 (by omega)
    have s3 := m3.size
    replace bt := m3.below0 bt bt.size
    clear b0
    rw [OK.out]
    go_wp2_with fail
    refine (sameRow_m _ _ _ _ _ O.rl W.rl).mono ?_
    rintro e w4 ⟨rfl, m4⟩
    replace A := A.mod m4 (by omega)
    replace O := O.mod m4 (by omega)
    replace W := W.mod m4 (by omega)
    have s4 := m4.size
    replace bt := m4.below0 bt bt.size
    rw [sameB_self]
    go_wp2_with fail
    refine (sameRow_m _ _ _ _ _ O.rl W.rl).mono ?_
    rintro e w5 ⟨rfl, m5⟩
    replace A := A.mod m5 (by omega)
    replace O := O.mod m5 (by omega)
    replace W := W.mod m5 (by omega)
    have s5 := m5.size
    replace bt := m5.below0 bt bt.size
    rw [sameB_self]
    go_wp2_with fail
    go_ret
    exact ⟨rfl, bt⟩
  rcases krB_true hok with ⟨xa, xb, rfl, hb, hk⟩ | ⟨xa, rfl, hb, hk⟩
  · have OK := hid hok
    have HB := hid hb
    clear hok hb
    go_wp2_with fail
    refine (ikr_any k _ _ _ _ A).mono ?_
    rintro e w2 ⟨vo, rfl, O, b0⟩
    have m2 := Mod.of_below b0
    replace O := O.r
    replace A := A.mod m2 (by omega)
    have s2 := m2.size
    replace bt := m2.below0 bt bt.size
    clear b0
    rw [OK.out]
    go_wp2_with fail
    refine (skr_any k _ _ _ _ A).mono ?_
    rintro e w3 ⟨vw, rfl, W, b0⟩
    have m3 := Mod.of_below b0
    replace W := W.r
    replace A := A.mod m3 (by omega)
    replace O := O.mod m3 (by omega)
    have s3 := m3.size
    replace bt := m3.below0 bt bt.size
    clear b0
    rw [OK.out]
    go_wp2_with fail
    refine (sameRow_m _ _ _ _ _ O.rl W.rl).mono ?_
    rintro e w4 ⟨rfl, m4⟩
    replace A := A.mod m4 (by omega)
    replace O := O.mod m4 (by omega)
    replace W := W.mod m4 (by omega)
    have s4 := m4.size
    replace bt := m4.below0 bt bt.size
    rw [sameB_self]
    go_wp2_with fail
    refine (ikr_any 0 _ w4.heap.size [] (w4.alloc (.cells #[] 22)) (RS.nil _ _ (by rw [World.size_alloc]; omega) _ _ (by unfold maxLen; omega))).mono ?_
    rintro e wx ⟨vx, rfl, X, b0⟩
    have mx : Mod 0 0 w4 wx := (Mod.alloc _ _).trans (Mod.of_below b0)
    replace A := A.mod mx (by omega)
    replace O := O.mod mx (by omega)
    have sx := mx.size
    replace bt := mx.below0 bt bt.size
    rw [krB_nil]
    clear b0 X
    have e1 : IntKind.i64.wrap (2 - 1) = 1 := IntWalk.i64_in _ (by omega)
    obtain ⟨_, _, e', h1, h2, h3, h4⟩ := id A
    cases e'
    obtain ⟨b, o, u, rfl, hb, hc, hr⟩ := h4 0 (by simp)
    have hc1 : 1 ≤ ca := by simp at h1; omega
    clear hca
    have A1 : RS wx w1.heap.size (.slice (some ⟨b, o, none⟩) 1 ca) [xa] := by
      refine ⟨_, _, rfl, hc1, h2, h3, fun i hi => ?_⟩
      obtain rfl : i = 0 := by simp at hi; omega
      exact ⟨b, o, u, rfl, hb, hc, hr⟩
    clear h4 h1
    go_wp2_with fail
    refine (ikr_any k _ _ [xa] _ A1).mono ?_
    rintro e wy ⟨vy, rfl, Y, b0⟩
    rw [krB_two_one hk]
    replace bt := (Mod.of_below b0).below0 bt bt.size
    go_wp2_with fail
    go_ret
    exact ⟨rfl, bt⟩
  · have OK := hid hok
    have HB := hid hb
    clear hok hb
    go_wp2_with fail
    refine (ikr_any k _ _ _ _ A).mono ?_
    rintro e w2 ⟨vo, rfl, O, b0⟩
    have m2 := Mod.of_below b0
    replace O := O.r
    replace A := A.mod m2 (by omega)
    have s2 := m2.size
    replace bt := m2.below0 bt bt.size
    clear b0
    rw [OK.out]
    go_wp2_with fail
    refine (skr_any k _ _ _ _ A).mono ?_
    rintro e w3 ⟨vw, rfl, W, b0⟩
    have m3 := Mod.of_below b0
    replace W := W.r
    replace A := A.mod m3 (by omega)
    replace O := O.mod m3 (by omega)
    have s3 := m3.size
    replace bt := m3.below0 bt bt.size
    clear b0
    rw [OK.out]
    go_wp2_with fail
    refine (sameRow_m _ _ _ _ _ O.rl W.rl).mono ?_
    rintro e w4 ⟨rfl, m4⟩
    replace A := A.mod m4 (by omega)
    replace O := O.mod m4 (by omega)
    replace W := W.mod m4 (by omega)
    have s4 := m4.size
    replace bt := m4.below0 bt bt.size
    rw [sameB_self]
    go_wp2_with fail
    refine (ikr_any 0 _ w4.heap.size [] (w4.alloc (.cells #[] 22)) (RS.nil _ _ (by rw [World.size_alloc]; omega) _ _ (by unfold maxLen; omega))).mono ?_
    rintro e wx ⟨vx, rfl, X, b0⟩
    have mx : Mod 0 0 w4 wx := (Mod.alloc _ _).trans (Mod.of_below b0)
    replace A := A.mod mx (by omega)
    replace O := O.mod mx (by omega)
    have sx := mx.size
    replace bt := mx.below0 bt bt.size
    rw [krB_nil]
    clear b0 X
    have e1 : IntKind.i64.wrap (1 - 1) = 0 := IntWalk.i64_in _ (by omega)
    obtain ⟨_, _, e', h1, h2, h3, h4⟩ := id A
    cases e'
    obtain ⟨b, o, u, rfl, hb, hc, hr⟩ := h4 0 (by simp)
    have hc1 : 0 ≤ ca := Nat.zero_le _
    clear hca
    have A1 : RS wx w1.heap.size (.slice (some ⟨b, o, none⟩) 0 ca) [] := RS.nil _ _ h3 _ _ h2
    clear h4 h1
    go_wp2_with fail
    refine (ikr_any k _ _ [] _ A1).mono ?_
    rintro e wy ⟨vy, rfl, Y, b0⟩
    rw [krB_nil]
    replace bt := (Mod.of_below b0).below0 bt bt.size
    go_wp2_with fail
    go_ret
    exact ⟨rfl, bt⟩

theorem own : ownKnob Try.prog.godebug = none := by kernel_rfl
theorem laidOut : laidOutB Try.prog = true := by kernel_rfl
set_option maxRecDepth 100000 in
theorem lifted (os : Os) (started : os.Started) (H : Type) (enc : TypeId × Value → H) :
    ReturnsInHanded {} Try.checked os 12 .any (Rows.fnKindFixedSpec.pre6 enc Try.prog Try.f12 Rows.fnKindFixedRow.domain false) (Rows.fnKindFixedSpec.post enc Try.prog Try.f12 false true false false) := by
  refine returnsInHanded_of_change (C := Try.checked) own started (by kernel_rfl) Try.func12
    (ChangeSpec.witness6 (enc := enc) (C := Try.checked) false ⟨#[], #[.slice none 0 0], []⟩ 8 (by kernel_rfl) (by kernel_rfl) (by kernel_rfl) (by kernel_rfl)) ?_
  intro W base args ds gs before hval0 hW _ _
  have hval : ∀ (j : Nat) t v, Try.f12.params[j]? = some t → args[j]? = some v → Value.okWide Try.prog W .any base t v := hval0
  have hW' := hW
  obtain ⟨p, q, hA0, hV, rfl, _, _⟩ := hW
  have hA : DataW.TrodAll enc Try.prog W 0 (fun _ => true) true Try.f12.params.toList args.toList ds p := hA0
  rw [Try.params12] at hA hval
  obtain ⟨v0, vs0, d0, ds0, p0, q0, hargs, rfl, rfl, h0, r0⟩ := trodAll_cons hA
  obtain ⟨rfl, rfl, rfl⟩ := trodAll_nil r0
  obtain rfl : args = #[v0] := by cases args; simp_all
  obtain ⟨rfl, rfl⟩ := trodVars_none hV
  have k0 := h0
  have lt0 : ∀ x ∈ p0, x.block < W.heap.size := by obtain ⟨m, hm⟩ := k0; exact DataW.trod_lt m _ _ _ hm
  obtain ⟨x0, w0⟩ := open_bl (hval 0 29 v0 rfl rfl) h0
  clear hA0 hval0
  refine (walk v0 x0 W w0).mono fun e W' ⟨he, bel⟩ => ?_
  subst he
  exact ⟨_, rfl, _, _, _, [], _, [], hW', trodAll_mk1 (shut_bool Try.underlying4 _), (trodAll_cons_mk (Below.trod laidOut (by kernel_rfl) (of_decide_eq_true (by kernel_rfl)) k0 bel lt0) trodAll_mk0), rfl, bel.frame _, fun h => by cases h⟩

theorem over : Rows.fnKindFixedRow.holds Try.pinned (OpenSpec.ofChange Rows.fnKindFixedSpec) :=
  OpenClaim.holds_of_wide 12 Try.f12 rfl rfl rfl rfl rfl rfl rfl ⟨rfl, rfl, rfl, rfl, rfl⟩ rfl rfl rfl rfl rfl (by kernel_rfl) Try.func12 (by kernel_rfl)
    (of_decide_eq_true (by kernel_rfl)) (by unfold Func.isWrapper; first | (rw [if_pos (by decide +kernel)]; kernel_rfl) | (rw [if_neg (by decide +kernel)]; exact ⟨rfl, rfl⟩))
    (fun os started H enc _ => lifted os started H enc)

theorem proved : Rows.FnKindFixedSaid := over
end Go.Proofs.Ytgjefeckdkahlaa.fnKindFixed
