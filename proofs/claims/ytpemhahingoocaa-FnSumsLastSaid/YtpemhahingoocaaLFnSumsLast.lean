/- The last sum does not depend on the order. No condition. -/
import Derived.Test.YtpemhahingoocaaRows
import Derived.Test.YtpemhahingoocaaArgs
import Derived.Test.YtpemhahingoocaaDrawSums
import Derived.Test.YtpemhahingoocaaPureSums
import Derived.Test.YtpemhahingoocaaTurn
import Derived.Test.YtpemhahingoocaaSameRow
namespace Go.Proofs.Ytpemhahingoocaa.fnSumsLast
open Go.ChangeShapes Go.WideShapes Go.ChangeAt Go.RowKit

set_option maxHeartbeats 4000000 in
theorem walk (v0 : Value) (x0 : List Int) (w : World) (w0 : BL w v0 x0) :
    Calls Try.prog 14 #[v0] w fun e w' => e = .returned (.bool true) ∧ Below w.heap.size w w' := by
  obtain ⟨a0, c0, rfl, -⟩ := id w0
  by_cases hl0 : 1048576 < x0.length
  · go_enter Try.func14, Try.ntmps14
    go_wp2_with fail
    go_ret
    exact ⟨rfl, Below.refl _ _⟩
  have hl0' : x0.length ≤ 1048576 := by omega
  clear hl0
  go_enter Try.func14, Try.ntmps14
  go_wp2_with fail
  refine (drawSums_any _ x0 w w0).mono ?_
  rintro e w1 ⟨va, xs, rfl, A, hxl, bt⟩
  replace A := A.r
  have s1 := bt.size
  obtain ⟨aa, ca, hva, hca, -, -⟩ := id A.rl
  subst hva
  cases hok : rvB xs
  · have OK := hid hok
    clear hok
    go_wp2_with fail
    refine (isums_any _ xs _ A.rl).mono ?_
    rintro e w2 ⟨vo, rfl, O, b0⟩
    have m2 := Mod.of_below b0
    replace O := O.r
    replace A := A.mod m2 (by omega)
    have s2 := m2.size
    replace bt := m2.below0 bt bt.size
    clear b0
    rw [OK.out]
    go_wp2_with fail
    refine (ssums_any _ xs _ A.rl).mono ?_
    rintro e w3 ⟨vw, rfl, W, b0⟩
    have m3 := Mod.of_below b0
    replace W := W.r
    replace A := A.mod m3 (by omega)
    replace O := O.mod m3 (by omega)
    have s3 := m3.size
    replace bt := m3.below0 bt bt.size
    clear b0
    rw [OK.out]
    go_wp2_with fail
    refine (sameRow_m _ _ _ _ _ O.rl W.rl).mono ?_
    rintro e w4 ⟨rfl, m4⟩
    replace A := A.mod m4 (by omega)
    replace O := O.mod m4 (by omega)
    replace W := W.mod m4 (by omega)
    have s4 := m4.size
    replace bt := m4.below0 bt bt.size
    rw [sameB_self]
    go_wp2_with fail
    refine (sameRow_m _ _ _ _ _ O.rl W.rl).mono ?_
    rintro e w5 ⟨rfl, m5⟩
    replace A := A.mod m5 (by omega)
    replace O := O.mod m5 (by omega)
    replace W := W.mod m5 (by omega)
    have s5 := m5.size
    replace bt := m5.below0 bt bt.size
    rw [sameB_self]
    go_wp2_with fail
    go_ret
    exact ⟨rfl, bt⟩
  by_cases hx : xs = []
  · subst hx
    have OK := hid hok
    clear hok
    go_wp2_with fail
    refine (isums_any _ [] _ A.rl).mono ?_
    rintro e w2 ⟨vo, rfl, O, b0⟩
    have m2 := Mod.of_below b0
    replace O := O.r
    replace A := A.mod m2 (by omega)
    have s2 := m2.size
    replace bt := m2.below0 bt bt.size
    clear b0
    rw [OK.out]
    go_wp2_with fail
    refine (ssums_any _ [] _ A.rl).mono ?_
    rintro e w3 ⟨vw, rfl, W, b0⟩
    have m3 := Mod.of_below b0
    replace W := W.r
    replace A := A.mod m3 (by omega)
    replace O := O.mod m3 (by omega)
    have s3 := m3.size
    replace bt := m3.below0 bt bt.size
    clear b0
    rw [OK.out]
    go_wp2_with fail
    refine (sameRow_m _ _ _ _ _ O.rl W.rl).mono ?_
    rintro e w4 ⟨rfl, m4⟩
    replace A := A.mod m4 (by omega)
    replace O := O.mod m4 (by omega)
    replace W := W.mod m4 (by omega)
    have s4 := m4.size
    replace bt := m4.below0 bt bt.size
    rw [sameB_self]
    go_wp2_with fail
    refine (sameRow_m _ _ _ _ _ O.rl W.rl).mono ?_
    rintro e w5 ⟨rfl, m5⟩
    replace A := A.mod m5 (by omega)
    replace O := O.mod m5 (by omega)
    replace W := W.mod m5 (by omega)
    have s5 := m5.size
    replace bt := m5.below0 bt bt.size
    rw [sameB_self]
    go_wp2_with fail
    go_ret
    exact ⟨rfl, bt⟩
  · have hne : ((xs.length : Int) == 0) = false := by simpa using hx
    obtain ⟨n, hn⟩ : ∃ n : Nat, n + 1 = xs.length := ⟨xs.length - 1, by have := List.length_pos_iff.2 hx; omega⟩
    have hx6 := rvB_len hok
    have OK := hid hok
    have HN := hid hn
    clear hok hx hn
    go_wp2_with fail
    refine (isums_any _ xs _ A.rl).mono ?_
    rintro e w2 ⟨vo, rfl, O, b0⟩
    have m2 := Mod.of_below b0
    replace O := O.r
    replace A := A.mod m2 (by omega)
    have s2 := m2.size
    replace bt := m2.below0 bt bt.size
    clear b0
    rw [OK.out]
    go_wp2_with fail
    refine (ssums_any _ xs _ A.rl).mono ?_
    rintro e w3 ⟨vw, rfl, W, b0⟩
    have m3 := Mod.of_below b0
    replace W := W.r
    replace A := A.mod m3 (by omega)
    replace O := O.mod m3 (by omega)
    have s3 := m3.size
    replace bt := m3.below0 bt bt.size
    clear b0
    rw [OK.out]
    go_wp2_with fail
    refine (sameRow_m _ _ _ _ _ O.rl W.rl).mono ?_
    rintro e w4 ⟨rfl, m4⟩
    replace A := A.mod m4 (by omega)
    replace O := O.mod m4 (by omega)
    replace W := W.mod m4 (by omega)
    have s4 := m4.size
    replace bt := m4.below0 bt bt.size
    rw [sameB_self]
    have VR := hid (rvB_rev OK.out)
    have TR := hid (turnR_of OK.out)
    go_wp2_with fail
    refine (iturn_any _ xs _ A.rl).mono ?_
    rintro e w5 ⟨vx, rfl, X, b0⟩
    have m5 := Mod.of_below b0
    replace X := X.r
    replace A := A.mod m5 (by omega)
    replace O := O.mod m5 (by omega)
    have s5 := m5.size
    replace bt := m5.below0 bt bt.size
    clear b0
    rw [OK.out]
    rw [TR.out] at X
    go_wp2_with fail
    refine (isums_any _ xs.reverse _ X.rl).mono ?_
    rintro e w6 ⟨vy, rfl, Y, b0⟩
    have m6 := Mod.of_below b0
    replace Y := Y.r
    replace A := A.mod m6 (by omega)
    replace O := O.mod m6 (by omega)
    replace X := X.mod m6 (by omega)
    have s6 := m6.size
    replace bt := m6.below0 bt bt.size
    clear b0
    rw [VR.out]
    have ly : (sumsR xs.reverse).length = xs.length := by rw [sumsR_length VR.out]; simp
    have lo : (sumsR xs).length = xs.length := sumsR_length OK.out
    have gy : (sumsR xs.reverse).getD n 0 = psum xs xs.length := by rw [sumsR_get VR.out (by simp; have := HN.out; omega), HN.out, psum_rev]
    have go : (sumsR xs).getD n 0 = psum xs xs.length := by rw [sumsR_get OK.out (by have := HN.out; omega), HN.out]
    obtain ⟨ay, cy, hvy, hcy, -, hc⟩ := id Y.rl
    obtain ⟨ao, co, hvo, hco, -, hc'⟩ := id O.rl
    subst hvy
    subst hvo
    obtain ⟨b, of, rfl, -, hc⟩ := hc n (by have := HN.out; omega)
    obtain ⟨b', of', rfl, -, hc'⟩ := hc' n (by have := HN.out; omega)
    rw [gy] at hc
    rw [go] at hc'
    obtain ⟨q, hq⟩ : ∃ q, q = psum xs xs.length := ⟨_, rfl⟩
    rw [← hq] at hc hc'
    obtain ⟨m, hm⟩ : ∃ m, m = xs.length := ⟨_, rfl⟩
    obtain ⟨sy, hsy⟩ : ∃ s, s = (sumsR xs.reverse).length := ⟨_, rfl⟩
    obtain ⟨so, hso⟩ : ∃ s, s = (sumsR xs).length := ⟨_, rfl⟩
    rw [← hsy] at ly hcy ⊢
    rw [← hso] at lo hco ⊢
    have e1 : IntKind.i64.wrap ((sy : Int) - 1) = (n : Int) := by have := HN.out; rw [IntWalk.i64_in _ (by omega)]; omega
    have e2 : IntKind.i64.wrap ((so : Int) - 1) = (n : Int) := by have := HN.out; rw [IntWalk.i64_in _ (by omega)]; omega
    have b1 : (0 : Int) ≤ (n : Int) := by omega
    have b2 : (n : Int) < (sy : Int) := by have := HN.out; omega
    have b3 : (n : Int) < (so : Int) := by have := HN.out; omega
    clear hq gy go hsy hso ly lo hm
    go_wp2_with fail
    go_quiet (fail)
    go_wp2_with fail
    go_ret
    exact ⟨rfl, bdrewN bt _⟩

theorem own : ownKnob Try.prog.godebug = none := by kernel_rfl
theorem laidOut : laidOutB Try.prog = true := by kernel_rfl
set_option maxRecDepth 100000 in
theorem lifted (os : Os) (started : os.Started) (H : Type) (enc : TypeId × Value → H) :
    ReturnsInHanded {} Try.checked os 14 .any (Rows.fnSumsLastSpec.pre6 enc Try.prog Try.f14 Rows.fnSumsLastRow.domain false) (Rows.fnSumsLastSpec.post enc Try.prog Try.f14 false true false false) := by
  refine returnsInHanded_of_change (C := Try.checked) own started (by kernel_rfl) Try.func14
    (ChangeSpec.witness6 (enc := enc) (C := Try.checked) false ⟨#[], #[.slice none 0 0], []⟩ 8 (by kernel_rfl) (by kernel_rfl) (by kernel_rfl) (by kernel_rfl)) ?_
  intro W base args ds gs before hval0 hW _ _
  have hval : ∀ (j : Nat) t v, Try.f14.params[j]? = some t → args[j]? = some v → Value.okWide Try.prog W .any base t v := hval0
  have hW' := hW
  obtain ⟨p, q, hA0, hV, rfl, _, _⟩ := hW
  have hA : DataW.TrodAll enc Try.prog W 0 (fun _ => true) true Try.f14.params.toList args.toList ds p := hA0
  rw [Try.params14] at hA hval
  obtain ⟨v0, vs0, d0, ds0, p0, q0, hargs, rfl, rfl, h0, r0⟩ := trodAll_cons hA
  obtain ⟨rfl, rfl, rfl⟩ := trodAll_nil r0
  obtain rfl : args = #[v0] := by cases args; simp_all
  obtain ⟨rfl, rfl⟩ := trodVars_none hV
  have k0 := h0
  have lt0 : ∀ x ∈ p0, x.block < W.heap.size := by obtain ⟨m, hm⟩ := k0; exact DataW.trod_lt m _ _ _ hm
  obtain ⟨x0, w0⟩ := open_bl (hval 0 29 v0 rfl rfl) h0
  clear hA0 hval0
  refine (walk v0 x0 W w0).mono fun e W' ⟨he, bel⟩ => ?_
  subst he
  exact ⟨_, rfl, _, _, _, [], _, [], hW', trodAll_mk1 (shut_bool Try.underlying4 _), (trodAll_cons_mk (Below.trod laidOut (by kernel_rfl) (of_decide_eq_true (by kernel_rfl)) k0 bel lt0) trodAll_mk0), rfl, bel.frame _, fun h => by cases h⟩

theorem over : Rows.fnSumsLastRow.holds Try.pinned (OpenSpec.ofChange Rows.fnSumsLastSpec) :=
  OpenClaim.holds_of_wide 14 Try.f14 rfl rfl rfl rfl rfl rfl rfl ⟨rfl, rfl, rfl, rfl, rfl⟩ rfl rfl rfl rfl rfl (by kernel_rfl) Try.func14 (by kernel_rfl)
    (of_decide_eq_true (by kernel_rfl)) (by unfold Func.isWrapper; first | (rw [if_pos (by decide +kernel)]; kernel_rfl) | (rw [if_neg (by decide +kernel)]; exact ⟨rfl, rfl⟩))
    (fun os started H enc _ => lifted os started H enc)

theorem proved : Rows.FnSumsLastSaid := over
end Go.Proofs.Ytpemhahingoocaa.fnSumsLast
