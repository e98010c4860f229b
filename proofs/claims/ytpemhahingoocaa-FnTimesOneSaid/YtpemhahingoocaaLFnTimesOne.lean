/- Ones change no product. No condition. -/
import Derived.Test.YtpemhahingoocaaRows
import Derived.Test.YtpemhahingoocaaArgs
import Derived.Test.YtpemhahingoocaaDrawTwo
import Derived.Test.YtpemhahingoocaaRowAdd
import Derived.Test.YtpemhahingoocaaJoin
import Derived.Test.YtpemhahingoocaaSameRow
import Derived.Test.YtpemhahingoocaaPureRow
namespace Go.Proofs.Ytpemhahingoocaa.fnTimesOne
open Go.ChangeShapes Go.WideShapes Go.ChangeAt Go.RowKit

set_option maxHeartbeats 4000000 in
theorem walk (v0 : Value) (x0 : List Int) (w : World) (w0 : BL w v0 x0) :
    Calls Try.prog 9 #[v0] w fun e w' => e = .returned (.bool true) ∧ Below w.heap.size w w' := by
  obtain ⟨a0, c0, rfl, -⟩ := id w0
  by_cases hl0 : 1048576 < x0.length
  · go_enter Try.func9, Try.ntmps9
    go_wp2_with fail
    go_ret
    exact ⟨rfl, Below.refl _ _⟩
  have hl0' : x0.length ≤ 1048576 := by omega
  clear hl0
  go_enter Try.func9, Try.ntmps9
  go_wp2_with fail
  refine (drawTimes_any _ x0 w w0).mono ?_
  rintro e w1 ⟨va, vb, xs, ys, rfl, A, B, hxl, hyl, bt⟩
  obtain ⟨aa, ca, rfl, -⟩ := id A
  obtain ⟨ab, cb, rfl, -⟩ := id B
  replace A := A.rr
  replace B := B.rr
  have s1 := bt.size
  cases hok : bothB xs ys
  · have OK := hid hok
    clear hok
    go_wp2_with fail
    refine (imul_any _ _ xs ys _ A.rl B.rl).mono ?_
    rintro e w2 ⟨vo, rfl, O, b0⟩
    have m2 := Mod.of_below b0
    replace O := O.r
    replace A := A.mod m2 (by omega)
    replace B := B.mod m2 (by omega)
    have s2 := m2.size
    replace bt := m2.below0 bt bt.size
    clear b0
    rw [OK.out]
    go_wp2_with fail
    refine (smul_any _ _ xs ys _ A.rl B.rl).mono ?_
    rintro e w3 ⟨vw, rfl, W, b0⟩
    have m3 := Mod.of_below b0
    replace W := W.r
    replace A := A.mod m3 (by omega)
    replace B := B.mod m3 (by omega)
    replace O := O.mod m3 (by omega)
    have s3 := m3.size
    replace bt := m3.below0 bt bt.size
    clear b0
    rw [OK.out]
    go_wp2_with fail
    refine (sameRow_m _ _ _ _ _ O.rl W.rl).mono ?_
    rintro e w4 ⟨rfl, m4⟩
    replace A := A.mod m4 (by omega)
    replace B := B.mod m4 (by omega)
    replace O := O.mod m4 (by omega)
    replace W := W.mod m4 (by omega)
    have s4 := m4.size
    replace bt := m4.below0 bt bt.size
    rw [sameB_self]
    go_wp2_with fail
    refine (sameRow_m _ _ _ _ _ O.rl W.rl).mono ?_
    rintro e w5 ⟨rfl, m5⟩
    replace A := A.mod m5 (by omega)
    replace B := B.mod m5 (by omega)
    replace O := O.mod m5 (by omega)
    replace W := W.mod m5 (by omega)
    have s5 := m5.size
    replace bt := m5.below0 bt bt.size
    rw [sameB_self]
    go_wp2_with fail
    go_ret
    exact ⟨rfl, bt⟩
  · obtain ⟨hvx, hvy, hxy⟩ := bothB_parts hok
    have OK := hid hok
    have VX := hid hvx
    have VY := hid hvy
    have XY := hid hxy
    have hx6 := rvB_len hvx
    clear hok hvx hvy hxy
    go_wp2_with fail
    refine (imul_any _ _ xs ys _ A.rl B.rl).mono ?_
    rintro e w2 ⟨vo, rfl, O, b0⟩
    have m2 := Mod.of_below b0
    replace O := O.r
    replace A := A.mod m2 (by omega)
    replace B := B.mod m2 (by omega)
    have s2 := m2.size
    replace bt := m2.below0 bt bt.size
    clear b0
    rw [OK.out]
    go_wp2_with fail
    refine (smul_any _ _ xs ys _ A.rl B.rl).mono ?_
    rintro e w3 ⟨vw, rfl, W, b0⟩
    have m3 := Mod.of_below b0
    replace W := W.r
    replace A := A.mod m3 (by omega)
    replace B := B.mod m3 (by omega)
    replace O := O.mod m3 (by omega)
    have s3 := m3.size
    replace bt := m3.below0 bt bt.size
    clear b0
    rw [OK.out]
    go_wp2_with fail
    refine (sameRow_m _ _ _ _ _ O.rl W.rl).mono ?_
    rintro e w4 ⟨rfl, m4⟩
    replace A := A.mod m4 (by omega)
    replace B := B.mod m4 (by omega)
    replace O := O.mod m4 (by omega)
    replace W := W.mod m4 (by omega)
    have s4 := m4.size
    replace bt := m4.below0 bt bt.size
    rw [sameB_self]
    have H1 := hid (ones_valid VX.out)
    have H2 := hid (mul_one VX.out)
    have H3 := hid (zeros_valid VX.out)
    have H4 := hid (mul_zero VX.out)
    go_wp2_with fail
    go_loopw [9, 10] (fun o i wr => ∃ k : Nat, k ≤ xs.length ∧ i = .int .i64 (k : Int) ∧ OI wr w4.heap.size o (List.replicate k 1) ∧ Below w4.heap.size w4 wr) (fun _ i _ => xs.length - (intOf i).toNat)
    case atStart => exact ⟨0, Nat.zero_le _, rfl, OI.fresh0 w4 (Nat.le_refl _), (Below.refl _ _).alloc (Nat.le_refl _) _⟩
    case round =>
      obtain ⟨k, hk, rfl, o1, b1⟩ := hrel
      by_cases hlt : k < xs.length
      · go_wp2_with (at_builtin; refine app1 rfl _ _ 22 rfl Try.underlying22 w4.heap.size _ _ _ o1 rfl rfl (by simp; omega) b1 b1.size ?_; intro v' w' ho' hbel' _)
        go_roundw
        case rel => exact ⟨k + 1, by omega, by go_num, by rw [List.replicate_succ']; exact ho', hbel'⟩
        case measure => simp [intOf]; omega
      · obtain rfl : k = xs.length := by omega
        have m5 := Mod.of_below b1
        replace A := A.mod m5 (by omega)
        replace bt := m5.below0 bt bt.size
        have E := o1.r
        clear o1 b1
        go_wp2_with fail
        refine (imul_any _ _ xs _ _ A.rl E.rl).mono ?_
        rintro e w6 ⟨vx, rfl, X, b6⟩
        have m6 := Mod.of_below b6
        replace X := X.r
        replace A := A.mod m6 (by omega)
        replace bt := m6.below0 bt bt.size
        rw [H1.out]
        rw [H2.out] at X
        go_wp2_with (at_make; refine mk1 rfl _ _ 22 rfl Try.underlying22 w.heap.size xs.length _ _ rfl rfl rfl rfl (by omega) bt bt.size ?_; intro vq w7 q rfl bq gq)
        have m7 := Mod.of_grown (A := 0) (B := 0) gq (by simp)
        replace A := A.mod m7 (by omega)
        replace X := X.mod m7 (by omega)
        replace bt := bq
        have Z := q.r
        refine (imul_any _ _ xs _ _ A.rl Z.rl).mono ?_
        rintro e w8 ⟨vy, rfl, Y, b8⟩
        have m8 := Mod.of_below b8
        replace Y := Y.r
        replace A := A.mod m8 (by omega)
        replace X := X.mod m8 (by omega)
        replace bt := m8.below0 bt bt.size
        rw [H3.out]
        rw [H4.out] at Y
        go_wp2_with fail
        refine (sameRow_m _ _ _ _ _ X.rl A.rl).mono ?_
        rintro e w9 ⟨rfl, m9⟩
        rw [sameB_self]
        replace Y := Y.mod m9 (by omega)
        replace bt := m9.below0 bt bt.size
        go_wp2_with (at_make; refine wpList_guard (by rfl) fun _ hK' => ?_; refine wp_mk1 _ _ 22 rfl Try.underlying22 w.heap.size xs.length _ _ rfl rfl rfl rfl (by omega) bt bt.size ?_; intro vq w10 q rfl bq gq; refine hK' _ _ ?_)
        have m10 := Mod.of_grown (A := 0) (B := 0) gq (by simp)
        replace Y := Y.mod m10 (by omega)
        replace bt := bq
        refine (sameRow_m _ _ _ _ _ Y.rl q.rl).mono ?_
        rintro e w11 ⟨rfl, m11⟩
        rw [sameB_self]
        replace bt := m11.below0 bt bt.size
        go_wp2_with fail
        go_ret
        exact ⟨rfl, bt⟩

theorem own : ownKnob Try.prog.godebug = none := by kernel_rfl
theorem laidOut : laidOutB Try.prog = true := by kernel_rfl
set_option maxRecDepth 100000 in
theorem lifted (os : Os) (started : os.Started) (H : Type) (enc : TypeId × Value → H) :
    ReturnsInHanded {} Try.checked os 9 .any (Rows.fnTimesOneSpec.pre6 enc Try.prog Try.f9 Rows.fnTimesOneRow.domain false) (Rows.fnTimesOneSpec.post enc Try.prog Try.f9 false true false false) := by
  refine returnsInHanded_of_change (C := Try.checked) own started (by kernel_rfl) Try.func9
    (ChangeSpec.witness6 (enc := enc) (C := Try.checked) false ⟨#[], #[.slice none 0 0], []⟩ 8 (by kernel_rfl) (by kernel_rfl) (by kernel_rfl) (by kernel_rfl)) ?_
  intro W base args ds gs before hval0 hW _ _
  have hval : ∀ (j : Nat) t v, Try.f9.params[j]? = some t → args[j]? = some v → Value.okWide Try.prog W .any base t v := hval0
  have hW' := hW
  obtain ⟨p, q, hA0, hV, rfl, _, _⟩ := hW
  have hA : DataW.TrodAll enc Try.prog W 0 (fun _ => true) true Try.f9.params.toList args.toList ds p := hA0
  rw [Try.params9] at hA hval
  obtain ⟨v0, vs0, d0, ds0, p0, q0, hargs, rfl, rfl, h0, r0⟩ := trodAll_cons hA
  obtain ⟨rfl, rfl, rfl⟩ := trodAll_nil r0
  obtain rfl : args = #[v0] := by cases args; simp_all
  obtain ⟨rfl, rfl⟩ := trodVars_none hV
  have k0 := h0
  have lt0 : ∀ x ∈ p0, x.block < W.heap.size := by obtain ⟨m, hm⟩ := k0; exact DataW.trod_lt m _ _ _ hm
  obtain ⟨x0, w0⟩ := open_bl (hval 0 29 v0 rfl rfl) h0
  clear hA0 hval0
  refine (walk v0 x0 W w0).mono fun e W' ⟨he, bel⟩ => ?_
  subst he
  exact ⟨_, rfl, _, _, _, [], _, [], hW', trodAll_mk1 (shut_bool Try.underlying4 _), (trodAll_cons_mk (Below.trod laidOut (by kernel_rfl) (of_decide_eq_true (by kernel_rfl)) k0 bel lt0) trodAll_mk0), rfl, bel.frame _, fun h => by cases h⟩

theorem over : Rows.fnTimesOneRow.holds Try.pinned (OpenSpec.ofChange Rows.fnTimesOneSpec) :=
  OpenClaim.holds_of_wide 9 Try.f9 rfl rfl rfl rfl rfl rfl rfl ⟨rfl, rfl, rfl, rfl, rfl⟩ rfl rfl rfl rfl rfl (by kernel_rfl) Try.func9 (by kernel_rfl)
    (of_decide_eq_true (by kernel_rfl)) (by unfold Func.isWrapper; first | (rw [if_pos (by decide +kernel)]; kernel_rfl) | (rw [if_neg (by decide +kernel)]; exact ⟨rfl, rfl⟩))
    (fun os started H enc _ => lifted os started H enc)

theorem proved : Rows.FnTimesOneSaid := over
end Go.Proofs.Ytpemhahingoocaa.fnTimesOne
