/- Turning twice changes nothing. No condition. -/
import Derived.Test.YtpemhahingoocaaRows
import Derived.Test.YtpemhahingoocaaArgs
import Derived.Test.YtpemhahingoocaaDrawTurn
import Derived.Test.YtpemhahingoocaaTurn
import Derived.Test.YtpemhahingoocaaSameRow
namespace Go.Proofs.Ytpemhahingoocaa.fnTurn
open Go.ChangeShapes Go.WideShapes Go.ChangeAt Go.RowKit

set_option maxHeartbeats 4000000 in
theorem walk (v0 : Value) (x0 : List Int) (w : World) (w0 : BL w v0 x0) :
    Calls Try.prog 4 #[v0] w fun e w' => e = .returned (.bool true) ∧ Below w.heap.size w w' := by
  obtain ⟨a0, c0, rfl, -⟩ := id w0
  by_cases hl0 : 1048576 < x0.length
  · go_enter Try.func4, Try.ntmps4
    go_wp2_with fail
    go_ret
    exact ⟨rfl, Below.refl _ _⟩
  have hl0' : x0.length ≤ 1048576 := by omega
  clear hl0
  go_enter Try.func4, Try.ntmps4
  go_wp2_with fail
  refine (drawTurn_any _ x0 w w0).mono ?_
  rintro e w1 ⟨va, xs, rfl, A, hxl, bt⟩
  replace A := A.r
  have s1 := bt.size
  cases hok : rvB xs
  · have OK := hid hok
    clear hok
    go_wp2_with fail
    refine (iturn_any _ xs _ A.rl).mono ?_
    rintro e w2 ⟨vo, rfl, O, b0⟩
    have m2 := Mod.of_below b0
    replace O := O.r
    replace A := A.mod m2 (by omega)
    have s2 := m2.size
    replace bt := m2.below0 bt bt.size
    clear b0
    rw [OK.out]
    go_wp2_with fail
    refine (sturn_any _ xs _ A.rl).mono ?_
    rintro e w3 ⟨vw, rfl, W, b0⟩
    have m3 := Mod.of_below b0
    replace W := W.r
    replace A := A.mod m3 (by omega)
    replace O := O.mod m3 (by omega)
    have s3 := m3.size
    replace bt := m3.below0 bt bt.size
    clear b0
    rw [OK.out]
    go_wp2_with fail
    refine (sameRow_m _ _ _ _ _ O.rl W.rl).mono ?_
    rintro e w4 ⟨rfl, m4⟩
    replace A := A.mod m4 (by omega)
    replace O := O.mod m4 (by omega)
    replace W := W.mod m4 (by omega)
    have s4 := m4.size
    replace bt := m4.below0 bt bt.size
    rw [sameB_self]
    go_wp2_with fail
    refine (sameRow_m _ _ _ _ _ O.rl W.rl).mono ?_
    rintro e w5 ⟨rfl, m5⟩
    replace A := A.mod m5 (by omega)
    replace O := O.mod m5 (by omega)
    replace W := W.mod m5 (by omega)
    have s5 := m5.size
    replace bt := m5.below0 bt bt.size
    rw [sameB_self]
    go_wp2_with fail
    go_ret
    exact ⟨rfl, bt⟩
  · have OK := hid hok
    have hx6 := rvB_len hok
    clear hok
    go_wp2_with fail
    refine (iturn_any _ xs _ A.rl).mono ?_
    rintro e w2 ⟨vo, rfl, O, b0⟩
    have m2 := Mod.of_below b0
    replace O := O.r
    replace A := A.mod m2 (by omega)
    have s2 := m2.size
    replace bt := m2.below0 bt bt.size
    clear b0
    rw [OK.out]
    go_wp2_with fail
    refine (sturn_any _ xs _ A.rl).mono ?_
    rintro e w3 ⟨vw, rfl, W, b0⟩
    have m3 := Mod.of_below b0
    replace W := W.r
    replace A := A.mod m3 (by omega)
    replace O := O.mod m3 (by omega)
    have s3 := m3.size
    replace bt := m3.below0 bt bt.size
    clear b0
    rw [OK.out]
    go_wp2_with fail
    refine (sameRow_m _ _ _ _ _ O.rl W.rl).mono ?_
    rintro e w4 ⟨rfl, m4⟩
    replace A := A.mod m4 (by omega)
    replace O := O.mod m4 (by omega)
    replace W := W.mod m4 (by omega)
    have s4 := m4.size
    replace bt := m4.below0 bt bt.size
    rw [sameB_self]
    have VR := hid (rvB_rev OK.out)
    rw [turnR_of OK.out] at O
    go_wp2_with fail
    refine (iturn_any _ xs.reverse _ O.rl).mono ?_
    rintro e w5 ⟨vx, rfl, X, b0⟩
    have m5 := Mod.of_below b0
    replace X := X.r
    replace A := A.mod m5 (by omega)
    replace O := O.mod m5 (by omega)
    have s5 := m5.size
    replace bt := m5.below0 bt bt.size
    clear b0
    rw [VR.out]
    rw [turnR_twice OK.out] at X
    by_cases hx : xs = []
    · subst hx
      obtain ⟨aa, ca, rfl, -⟩ := id A.rl
      obtain ⟨ao, co, rfl, -⟩ := id O.rl
      go_wp2_with fail
      go_quiet ((go_at_call 24; exact Calls.quiet_of (sameRow_self _ _ [] _ X.rl A.rl)))
      go_wp2_with fail
      go_ret
      exact ⟨rfl, bdrewN bt _⟩
    · obtain ⟨n, hn⟩ : ∃ n : Nat, n + 1 = xs.length := ⟨xs.length - 1, by have := List.length_pos_iff.2 hx; omega⟩
      have hrl : xs.reverse.getD 0 0 = xs.getD n 0 := by rw [← rev_eq]; simp [show 0 < xs.length by omega]; congr 2; omega
      have hlr : xs.reverse.length = xs.length := by simp
      obtain ⟨aa, ca, hva, hca, -, hc⟩ := id A.rl
      obtain ⟨ao, co, hvo, hco, -, hc'⟩ := id O.rl
      subst hva
      subst hvo
      obtain ⟨b, of, rfl, -, hc⟩ := hc n (by omega)
      obtain ⟨b', of', rfl, -, hc'⟩ := hc' 0 (by omega)
      rw [hrl] at hc'
      rw [hlr] at hco O ⊢
      simp only [Nat.add_zero] at hc'
      have e1 : IntKind.i64.wrap ((xs.length : Int) - 1) = (n : Int) := by rw [IntWalk.i64_in _ (by omega)]; omega
      have hne : ((xs.length : Int) == 0) = false := by simpa using hx
      have b1 : (0 : Int) ≤ (n : Int) := by omega
      have b2 : (n : Int) < (xs.length : Int) := by omega
      have b3 : (0 : Int) < (xs.length : Int) := by omega
      have HN := hid hn
      clear hn hx hrl hlr
      obtain ⟨q, hq⟩ : ∃ q, q = xs.getD n 0 := ⟨_, rfl⟩
      rw [← hq] at hc hc'
      clear hq
      go_wp2_with fail
      go_quiet ((go_at_call 24; exact Calls.quiet_of (sameRow_self _ _ xs _ X.rl A.rl)))
      go_wp2_with fail
      go_ret
      exact ⟨rfl, bdrewN bt _⟩

theorem own : ownKnob Try.prog.godebug = none := by kernel_rfl
theorem laidOut : laidOutB Try.prog = true := by kernel_rfl
set_option maxRecDepth 100000 in
theorem lifted (os : Os) (started : os.Started) (H : Type) (enc : TypeId × Value → H) :
    ReturnsInHanded {} Try.checked os 4 .any (Rows.fnTurnSpec.pre6 enc Try.prog Try.f4 Rows.fnTurnRow.domain false) (Rows.fnTurnSpec.post enc Try.prog Try.f4 false true false false) := by
  refine returnsInHanded_of_change (C := Try.checked) own started (by kernel_rfl) Try.func4
    (ChangeSpec.witness6 (enc := enc) (C := Try.checked) false ⟨#[], #[.slice none 0 0], []⟩ 8 (by kernel_rfl) (by kernel_rfl) (by kernel_rfl) (by kernel_rfl)) ?_
  intro W base args ds gs before hval0 hW _ _
  have hval : ∀ (j : Nat) t v, Try.f4.params[j]? = some t → args[j]? = some v → Value.okWide Try.prog W .any base t v := hval0
  have hW' := hW
  obtain ⟨p, q, hA0, hV, rfl, _, _⟩ := hW
  have hA : DataW.TrodAll enc Try.prog W 0 (fun _ => true) true Try.f4.params.toList args.toList ds p := hA0
  rw [Try.params4] at hA hval
  obtain ⟨v0, vs0, d0, ds0, p0, q0, hargs, rfl, rfl, h0, r0⟩ := trodAll_cons hA
  obtain ⟨rfl, rfl, rfl⟩ := trodAll_nil r0
  obtain rfl : args = #[v0] := by cases args; simp_all
  obtain ⟨rfl, rfl⟩ := trodVars_none hV
  have k0 := h0
  have lt0 : ∀ x ∈ p0, x.block < W.heap.size := by obtain ⟨m, hm⟩ := k0; exact DataW.trod_lt m _ _ _ hm
  obtain ⟨x0, w0⟩ := open_bl (hval 0 29 v0 rfl rfl) h0
  clear hA0 hval0
  refine (walk v0 x0 W w0).mono fun e W' ⟨he, bel⟩ => ?_
  subst he
  exact ⟨_, rfl, _, _, _, [], _, [], hW', trodAll_mk1 (shut_bool Try.underlying4 _), (trodAll_cons_mk (Below.trod laidOut (by kernel_rfl) (of_decide_eq_true (by kernel_rfl)) k0 bel lt0) trodAll_mk0), rfl, bel.frame _, fun h => by cases h⟩

theorem over : Rows.fnTurnRow.holds Try.pinned (OpenSpec.ofChange Rows.fnTurnSpec) :=
  OpenClaim.holds_of_wide 4 Try.f4 rfl rfl rfl rfl rfl rfl rfl ⟨rfl, rfl, rfl, rfl, rfl⟩ rfl rfl rfl rfl rfl (by kernel_rfl) Try.func4 (by kernel_rfl)
    (of_decide_eq_true (by kernel_rfl)) (by unfold Func.isWrapper; first | (rw [if_pos (by decide +kernel)]; kernel_rfl) | (rw [if_neg (by decide +kernel)]; exact ⟨rfl, rfl⟩))
    (fun os started H enc _ => lifted os started H enc)

theorem proved : Rows.FnTurnSaid := over
end Go.Proofs.Ytpemhahingoocaa.fnTurn
