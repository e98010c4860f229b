/- Who needs a node is told. No condition. -/
import Derived.Test.YtpcakoaepmeakaaRows
import Derived.Test.YtpcakoaepmeakaaArgs
import Derived.Test.YtpcakoaepmeakaaDrawPlans
import Derived.Test.YtpcakoaepmeakaaSameRow
import Derived.Test.YtpcakoaepmeakaaPlanLaw
import Derived.Test.YtpcakoaepmeakaaUse
namespace Go.Proofs.Ytpcakoaepmeakaa.fnUses
open Go.ChangeShapes Go.WideShapes Go.ChangeAt Go.RowKit

set_option maxRecDepth 50000 in
set_option maxHeartbeats 4000000 in
theorem walk (v0 : Value) (x0 : List Int) (w : World) (w0 : BL w v0 x0) :
    Calls Try.prog 10 #[v0] w fun e w' => e = .returned (.bool true) ∧ Below w.heap.size w w' := by
  obtain ⟨a0, c0, rfl, -⟩ := id w0
  by_cases hl0 : 1048576 < x0.length
  · go_enter Try.func10, Try.ntmps10
    go_wp2_with fail
    go_ret
    exact ⟨rfl, Below.refl _ _⟩
  have hl0' : x0.length ≤ 1048576 := by omega
  clear hl0
  go_enter Try.func10, Try.ntmps10
  go_wp2_with fail
  refine (drawUses_any _ x0 w w0).mono ?_
  rintro e w1 ⟨vp, ns, a, rfl, hp, hsh, bt⟩
  obtain ⟨ap, cp, rfl, hpl1, hpl2⟩ := hp.shape
  unfold maxLen at hpl2
  have A := hp.pl
  have hl11 := hsh.1
  have s1 := bt.size
  clear hp w0
  go_wp2_with fail
  refine (iuses_any _ ns _ a _ A).mono ?_
  rintro e w2 ⟨vo, rfl, O, b0⟩
  have m2 := Mod.of_below b0
  replace O := O.r
  replace A := A.mod m2 (by omega)
  have s2 := m2.size
  replace bt := m2.below0 bt bt.size
  clear b0
  go_wp2_with fail
  refine (suses_any _ ns _ a _ A (by omega)).mono ?_
  rintro e w3 ⟨vw, rfl, W, b0⟩
  have m3 := Mod.of_below b0
  replace W := W.r
  replace A := A.mod m3 (by omega)
  replace O := O.mod m3 (by omega)
  have s3 := m3.size
  replace bt := m3.below0 bt bt.size
  clear b0
  go_wp2_with fail
  refine (sameRow_m _ _ _ _ _ O.rl W.rl).mono ?_
  rintro e w4 ⟨rfl, m4⟩
  replace A := A.mod m4 (by omega)
  replace O := O.mod m4 (by omega)
  replace W := W.mod m4 (by omega)
  have s4 := m4.size
  replace bt := m4.below0 bt bt.size
  rw [sameB_self]
  go_wp2_with fail
  refine (splan_any _ ns _ _ A (by omega)).mono ?_
  rintro e w5 ⟨rfl, m5⟩
  replace A := A.mod m5 (by omega)
  replace O := O.mod m5 (by omega)
  replace W := W.mod m5 (by omega)
  have s5 := m5.size
  replace bt := m5.below0 bt bt.size
  cases hpb : planB ns
  · have HPB := hid hpb
    clear hpb
    go_wp2_with fail
    refine (sameRow_m _ _ _ _ _ O.rl W.rl).mono ?_
    rintro e w6 ⟨rfl, m6⟩
    replace A := A.mod m6 (by omega)
    replace O := O.mod m6 (by omega)
    replace W := W.mod m6 (by omega)
    have s6 := m6.size
    replace bt := m6.below0 bt bt.size
    rw [sameB_self]
    go_wp2_with fail
    go_ret
    exact ⟨rfl, bt⟩
  · have hur : usesR ns a = numL (usesN ns a ns.length) := by unfold usesR; rw [if_pos hpb]
    rw [hur] at O
    obtain ⟨ao, co, e', ho1, ho2, ho3⟩ := O.rl
    rw [numL_length] at e' ho1 ho3
    subst e'
    unfold maxLen at ho2
    obtain ⟨X, hX⟩ : ∃ X : World, X = w5 := ⟨_, rfl⟩
    rw [← hX] at A bt ho3 ⊢
    have HA := hid A
    have HO3 := hid ho3
    have HBT := hid bt
    clear hpb hur O W A ho3 bt hX hsh
    go_wp2_with fail
    go_loopw [7, 8] (fun q i wr => ∃ k : Nat, k ≤ ns.length ∧ i = .int .i64 k ∧ q = .int .i64 ((usesN ns a k).length : Nat) ∧ wr = X) (fun _ i _ => ns.length - (intOf i).toNat)
    case atStart => exact ⟨0, Nat.zero_le _, rfl, rfl, rfl⟩
    case round =>
      obtain ⟨k, hk, rfl, rfl, rfl⟩ := hrel
      by_cases hlt : k < ns.length
      · obtain ⟨ap', cp', e1, -, -, -, hnd⟩ := id HA.out
        simp only [Value.slice.injEq] at e1
        obtain ⟨rfl, -, rfl⟩ := e1
        obtain ⟨b, o, f, r, rfl, hb, c0, c1, c2, hf, hr⟩ := hnd k hlt
        obtain ⟨fs, hfs⟩ : ∃ fs, fs = fsN ns k := ⟨_, rfl⟩
        have hfs' : fs = (ns.getD k nd0).fs := hfs
        rw [← hfs'] at hf
        obtain ⟨af, cf, rfl, -⟩ := id hf
        have hsu := usesN_succ ns a k
        have hul := usesN_length ns a k
        rw [← hfs] at hsu
        clear hnd c0 c2 hr hfs'
        cases hh : hasB fs a
        · rw [hh, if_neg (by simp), List.append_nil] at hsu
          have HH := hid hh
          have HSU := hid hsu
          clear hsu hh hfs
          go_wp2_with fail
          refine (hasInt_any _ fs a wr hf.rl).mono ?_
          rintro e _ ⟨rfl, rfl⟩
          rw [HH.out]
          go_wp2_with fail
          go_roundw
          case rel => exact ⟨k + 1, by omega, by go_num, by rw [HSU.out], by trivial⟩
          case measure => simp [intOf]; omega
        · obtain ⟨hq1, hq2⟩ := filter_at (p := fun i => hasB (fsN ns i) a) (by rw [← hfs]; exact hh) hlt
          change (usesN ns a k).length < (usesN ns a ns.length).length at hq1
          change (usesN ns a ns.length).getD (usesN ns a k).length 0 = k at hq2
          obtain ⟨bo, oo, rfl, hbo, hco⟩ := HO3.out _ hq1
          rw [numL_getD hq1, hq2] at hco
          rw [hh, if_pos rfl] at hsu
          have hsl : (usesN ns a (k + 1)).length = (usesN ns a k).length + 1 := by rw [hsu]; simp
          have HH := hid hh
          have HSL := hid hsl
          have q0 : ¬ ((usesN ns a ns.length).length : Int) ≤ ((usesN ns a k).length : Int) := by omega
          have q1 : decide ((usesN ns a ns.length).length ≤ (usesN ns a k).length) = false := decide_eq_false (by omega)
          clear hsu hh hfs hq2 hsl
          go_wp2_with fail
          refine (hasInt_any _ fs a wr hf.rl).mono ?_
          rintro e _ ⟨rfl, rfl⟩
          rw [HH.out]
          go_wp2_with fail
          go_roundw
          case rel => exact ⟨k + 1, by omega, by go_num, by rw [HSL.out]; go_num, by trivial⟩
          case measure => simp [intOf]; omega
      · obtain rfl : k = ns.length := by omega
        go_wp2_with fail
        go_ret
        exact ⟨by simp, HBT.out⟩

theorem own : ownKnob Try.prog.godebug = none := by kernel_rfl
theorem laidOut : laidOutB Try.prog = true := by kernel_rfl
set_option maxRecDepth 100000 in
theorem lifted (os : Os) (started : os.Started) (H : Type) (enc : TypeId × Value → H) :
    ReturnsInHanded {} Try.checked os 10 .any (Rows.fnUsesSpec.pre6 enc Try.prog Try.f10 Rows.fnUsesRow.domain false) (Rows.fnUsesSpec.post enc Try.prog Try.f10 false true false false) := by
  refine returnsInHanded_of_change (C := Try.checked) own started (by kernel_rfl) Try.func10
    (ChangeSpec.witness6 (enc := enc) (C := Try.checked) false ⟨#[], #[.slice none 0 0], []⟩ 8 (by kernel_rfl) (by kernel_rfl) (by kernel_rfl) (by kernel_rfl)) ?_
  intro W base args ds gs before hval0 hW _ _
  have hval : ∀ (j : Nat) t v, Try.f10.params[j]? = some t → args[j]? = some v → Value.okWide Try.prog W .any base t v := hval0
  have hW' := hW
  obtain ⟨p, q, hA0, hV, rfl, _, _⟩ := hW
  have hA : DataW.TrodAll enc Try.prog W 0 (fun _ => true) true Try.f10.params.toList args.toList ds p := hA0
  rw [Try.params10] at hA hval
  obtain ⟨v0, vs0, d0, ds0, p0, q0, hargs, rfl, rfl, h0, r0⟩ := trodAll_cons hA
  obtain ⟨rfl, rfl, rfl⟩ := trodAll_nil r0
  obtain rfl : args = #[v0] := by cases args; simp_all
  obtain ⟨rfl, rfl⟩ := trodVars_none hV
  have k0 := h0
  have lt0 : ∀ x ∈ p0, x.block < W.heap.size := by obtain ⟨m, hm⟩ := k0; exact DataW.trod_lt m _ _ _ hm
  obtain ⟨x0, w0⟩ := open_bl (hval 0 22 v0 rfl rfl) h0
  clear hA0 hval0
  refine (walk v0 x0 W w0).mono fun e W' ⟨he, bel⟩ => ?_
  subst he
  exact ⟨_, rfl, _, _, _, [], _, [], hW', trodAll_mk1 (shut_bool Try.underlying4 _), (trodAll_cons_mk (Below.trod laidOut (by kernel_rfl) (of_decide_eq_true (by kernel_rfl)) k0 bel lt0) trodAll_mk0), rfl, bel.frame _, fun h => by cases h⟩

theorem over : Rows.fnUsesRow.holds Try.pinned (OpenSpec.ofChange Rows.fnUsesSpec) :=
  OpenClaim.holds_of_wide 10 Try.f10 rfl rfl rfl rfl rfl rfl rfl ⟨rfl, rfl, rfl, rfl, rfl⟩ rfl rfl rfl rfl rfl (by kernel_rfl) Try.func10 (by kernel_rfl)
    (of_decide_eq_true (by kernel_rfl)) (by unfold Func.isWrapper; first | (rw [if_pos (by decide +kernel)]; kernel_rfl) | (rw [if_neg (by decide +kernel)]; exact ⟨rfl, rfl⟩))
    (fun os started H enc _ => lifted os started H enc)

theorem proved : Rows.FnUsesSaid := over
end Go.Proofs.Ytpcakoaepmeakaa.fnUses
