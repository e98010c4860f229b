/- What a node needs is needed. No condition. -/
import Derived.Test.YthdhjlefkdfkkaaRows
import Derived.Test.YthdhjlefkdfkkaaArgs
import Derived.Test.YthdhjlefkdfkkaaDrawPlans
import Derived.Test.YthdhjlefkdfkkaaSameRow
import Derived.Test.YthdhjlefkdfkkaaPlanLaw
import Derived.Test.YthdhjlefkdfkkaaSpecNeeds
namespace Go.Proofs.Ythdhjlefkdfkkaa.fnNeeds
open Go.ChangeShapes Go.WideShapes Go.ChangeAt Go.RowKit

set_option maxRecDepth 50000 in
set_option maxHeartbeats 4000000 in
theorem walk (v0 : Value) (x0 : List Int) (w : World) (w0 : BL w v0 x0) :
    Calls Try.prog 4 #[v0] w fun e w' => e = .returned (.bool true) ∧ Below w.heap.size w w' := by
  obtain ⟨a0, c0, rfl, -⟩ := id w0
  by_cases hl0 : 1048576 < x0.length
  · go_enter Try.func4, Try.ntmps4
    go_wp2_with fail
    go_ret
    exact ⟨rfl, Below.refl _ _⟩
  have hl0' : x0.length ≤ 1048576 := by omega
  clear hl0
  go_enter Try.func4, Try.ntmps4
  go_wp2_with fail
  refine (drawNeeds_any _ x0 w w0).mono ?_
  rintro e w1 ⟨vp, ns, a, rfl, hp, hsh, bt⟩
  obtain ⟨ap, cp, rfl, hpl1, hpl2⟩ := hp.shape
  unfold maxLen at hpl2
  have A := hp.pl
  have hl11 := hsh.1
  have s1 := bt.size
  clear hp w0
  go_wp2_with fail
  refine (ineeds_any _ ns _ a _ A).mono ?_
  rintro e w2 ⟨vo, rfl, O, b0⟩
  have m2 := Mod.of_below b0
  replace O := O.r
  replace A := A.mod m2 (by omega)
  have s2 := m2.size
  replace bt := m2.below0 bt bt.size
  clear b0
  go_wp2_with fail
  refine (sneeds_any _ ns _ a _ A (by omega)).mono ?_
  rintro e w3 ⟨vw, rfl, W, b0⟩
  have m3 := Mod.of_below b0
  replace W := W.r
  replace A := A.mod m3 (by omega)
  replace O := O.mod m3 (by omega)
  have s3 := m3.size
  replace bt := m3.below0 bt bt.size
  clear b0
  go_wp2_with fail
  refine (sameRow_m _ _ _ _ _ O.rl W.rl).mono ?_
  rintro e w4 ⟨rfl, m4⟩
  replace A := A.mod m4 (by omega)
  replace O := O.mod m4 (by omega)
  replace W := W.mod m4 (by omega)
  have s4 := m4.size
  replace bt := m4.below0 bt bt.size
  rw [sameB_self]
  go_wp2_with fail
  refine (splan_any _ ns _ _ A (by omega)).mono ?_
  rintro e w5 ⟨rfl, m5⟩
  replace A := A.mod m5 (by omega)
  replace O := O.mod m5 (by omega)
  replace W := W.mod m5 (by omega)
  have s5 := m5.size
  replace bt := m5.below0 bt bt.size
  cases hpb : planB ns
  · have HPB := hid hpb
    clear hpb
    go_wp2_with fail
    refine (sameRow_m _ _ _ _ _ O.rl W.rl).mono ?_
    rintro e w6 ⟨rfl, m6⟩
    replace A := A.mod m6 (by omega)
    replace O := O.mod m6 (by omega)
    replace W := W.mod m6 (by omega)
    have s6 := m6.size
    replace bt := m6.below0 bt bt.size
    rw [sameB_self]
    go_wp2_with fail
    go_ret
    exact ⟨rfl, bt⟩
  by_cases hin : 0 ≤ a ∧ a < (ns.length : Int)
  · obtain ⟨j, rfl⟩ := Int.eq_ofNat_of_zero_le hin.1
    have hj : j < ns.length := by omega
    have hnl := needsN_length ns j
    rw [needs_plan hpb hj] at O
    have HST := hid (fun (i : Nat) (hi : i < j) => needs_step hpb hj hi)
    have HLT := hid (fun (k : Nat) (hk : k < (needsN ns j).length) => needs_lt hk)
    have hor := O.rl
    obtain ⟨ao, co, rfl, ho1, ho2, ho3⟩ := O.rl.num
    obtain ⟨l, hln⟩ : ∃ l, l = needsN ns j := ⟨_, rfl⟩
    rw [← hln] at ho1 ho3 hor hnl HST HLT ⊢
    obtain ⟨X, hX⟩ : ∃ X : World, X = w5 := ⟨_, rfl⟩
    rw [← hX] at A bt ho3 hor ⊢
    have HA := hid A
    have HO := hid ho3
    have HBT := hid bt
    have j0 : ¬ ((j : Int) < 0) := by omega
    have j1 : decide (ns.length ≤ j) = false := decide_eq_false (by omega)
    clear hpb hln W hsh O A bt hX ho3 hin
    go_wp2_with fail
    go_loopw [7] (fun i wr => ∃ k : Nat, k ≤ j ∧ i = .int .i64 k ∧ wr = X) (fun i _ => j - (intOf i).toNat)
    case atStart => exact ⟨0, Nat.zero_le _, rfl, rfl⟩
    case round =>
      obtain ⟨i, hk, rfl, rfl⟩ := hrel
      by_cases hlt : i < j
      · obtain ⟨ap', cp', e1, -, -, -, hnd⟩ := id HA.out
        simp only [Value.slice.injEq] at e1
        obtain ⟨rfl, -, rfl⟩ := e1
        obtain ⟨b, o, f, r, rfl, hb, c0, c1, c2, hf, hr⟩ := hnd j hj
        obtain ⟨fs, hfs⟩ : ∃ fs, fs = fsN ns j := ⟨_, rfl⟩
        have hfs' : fs = (ns.getD j nd0).fs := hfs
        rw [← hfs'] at hf
        obtain ⟨af, cf, rfl, -⟩ := id hf
        have hstp := HST.out i hlt
        rw [← hfs] at hstp
        obtain ⟨s0, hs0⟩ : ∃ s0, s0 = hasB fs (i : Int) := ⟨_, rfl⟩
        rw [← hs0] at hstp
        have HSTP := hid hstp
        have HS0 := hid hs0
        have HND := hid hnd
        clear hnd c0 c2 hr hfs' hfs hstp hs0
        go_wp2_with fail
        refine (hasInt_any _ fs i wr hf.rl).mono ?_
        rintro e _ ⟨rfl, rfl⟩
        rw [← HS0.out]
        clear c1
        go_wp2_with fail
        obtain ⟨wo, hwo⟩ : ∃ wo : World, wo = wr := ⟨_, rfl⟩
        go_loopw [8, 9] (fun s q wr' => ∃ k : Nat, k ≤ l.length ∧ q = .int .i64 k ∧ s = .bool (s0 || (l.take k).any fun k => hasB (fsN ns k) i) ∧ wr' = wr) (fun _ q _ => l.length - (intOf q).toNat)
        case atStart => exact ⟨0, Nat.zero_le _, rfl, by simp, rfl⟩
        case round =>
          obtain ⟨k, hk, rfl, rfl, rfl⟩ := hrel
          by_cases hqt : k < l.length
          · obtain ⟨bo, oo, rfl, hbo, hco⟩ := HO.out k hqt
            have HAT := hid (any_take (f := fun k => hasB (fsN ns k) i) hqt)
            have hxj := HLT.out k hqt
            generalize l.getD k 0 = x at hco HAT hxj
            obtain ⟨b', o', f', r', e5, hb', d0, d1, d2, hf', hr'⟩ := HND.out x (by omega)
            simp only [Option.some.injEq, Addr.mk.injEq, and_true] at e5
            obtain ⟨rfl, rfl⟩ := e5
            obtain ⟨fx, hfx⟩ : ∃ fx, fx = fsN ns x := ⟨_, rfl⟩
            have hfx' : fx = (ns.getD x nd0).fs := hfx
            rw [← hfx'] at hf'
            obtain ⟨af', cf', rfl, -⟩ := id hf'
            obtain ⟨s, hs⟩ : ∃ s, s = (s0 || (l.take k).any fun k => hasB (fsN ns k) i) := ⟨_, rfl⟩
            rw [← hs]
            have HS := hid hs
            obtain ⟨bb, hbb⟩ : ∃ b, b = hasB fx (i : Int) := ⟨_, rfl⟩
            have HB : Hid (bb = hasB (fsN ns x) (i : Int)) := by rw [hbb, hfx]; exact rfl
            have HB2 := hid hbb
            have x0 : (0 : Int) ≤ (x : Int) := by omega
            have x1 : (x : Int) < (ns.length : Int) := by omega
            clear hs hbb hfx hfx' d0 d2 hr'
            cases s
            · go_wp2_with fail
              refine (hasInt_any _ fx i _ hf'.rl).mono ?_
              rintro e _ ⟨rfl, rfl⟩
              rw [← HB2.out]
              cases bb
              all_goals
                go_wp2_with fail
                go_roundw
                case rel => exact ⟨k + 1, by omega, by go_num, by rw [HAT.out, ← Bool.or_assoc, ← HS.out, ← HB.out]; rfl, by trivial⟩
                case measure => simp [intOf]; omega
            · go_wp2_with fail
              go_roundw
              case rel => exact ⟨k + 1, by omega, by go_num, by rw [HAT.out, ← Bool.or_assoc, ← HS.out]; rfl, by trivial⟩
              case measure => simp [intOf]; omega
          · obtain rfl : k = l.length := by omega
            rw [List.take_length, HSTP.out]
            obtain ⟨bb, hbb⟩ : ∃ b, b = hasB (numL l) (i : Int) := ⟨_, rfl⟩
            rw [← hbb]
            have HB := hid hbb
            clear hbb
            go_wp2_with fail
            refine (hasInt_any _ _ i _ hor).mono ?_
            rintro e _ ⟨rfl, rfl⟩
            rw [← HB.out]
            cases bb
            all_goals
              go_wp2_with fail
              go_roundw
              case rel => exact ⟨i + 1, by omega, by go_num, by trivial⟩
              case measure => simp [intOf]; omega
      · obtain rfl : i = j := by omega
        have d1 : decide (l.length ≤ i) = true := decide_eq_true (by omega)
        go_wp2_with fail
        go_ret
        exact ⟨by simp; try omega, HBT.out⟩
  · by_cases hneg : a < 0
    · clear hin hpb
      go_wp2_with fail
      refine (sameRow_m _ _ _ _ _ O.rl W.rl).mono ?_
      rintro e w6 ⟨rfl, m6⟩
      replace A := A.mod m6 (by omega)
      replace O := O.mod m6 (by omega)
      replace W := W.mod m6 (by omega)
      have s6 := m6.size
      replace bt := m6.below0 bt bt.size
      rw [sameB_self]
      go_wp2_with fail
      go_ret
      exact ⟨rfl, bt⟩
    · have hge : (ns.length : Int) ≤ a := by omega
      clear hin hpb
      go_wp2_with fail
      refine (sameRow_m _ _ _ _ _ O.rl W.rl).mono ?_
      rintro e w6 ⟨rfl, m6⟩
      replace A := A.mod m6 (by omega)
      replace O := O.mod m6 (by omega)
      replace W := W.mod m6 (by omega)
      have s6 := m6.size
      replace bt := m6.below0 bt bt.size
      rw [sameB_self]
      go_wp2_with fail
      go_ret
      exact ⟨rfl, bt⟩

theorem own : ownKnob Try.prog.godebug = none := by kernel_rfl
theorem laidOut : laidOutB Try.prog = true := by kernel_rfl
set_option maxRecDepth 100000 in
theorem lifted (os : Os) (started : os.Started) (H : Type) (enc : TypeId × Value → H) :
    ReturnsInHanded {} Try.checked os 4 .any (Rows.fnNeedsSpec.pre6 enc Try.prog Try.f4 Rows.fnNeedsRow.domain false) (Rows.fnNeedsSpec.post enc Try.prog Try.f4 false true false false) := by
  refine returnsInHanded_of_change (C := Try.checked) own started (by kernel_rfl) Try.func4
    (ChangeSpec.witness6 (enc := enc) (C := Try.checked) false ⟨#[], #[.slice none 0 0], []⟩ 8 (by kernel_rfl) (by kernel_rfl) (by kernel_rfl) (by kernel_rfl)) ?_
  intro W base args ds gs before hval0 hW _ _
  have hval : ∀ (j : Nat) t v, Try.f4.params[j]? = some t → args[j]? = some v → Value.okWide Try.prog W .any base t v := hval0
  have hW' := hW
  obtain ⟨p, q, hA0, hV, rfl, _, _⟩ := hW
  have hA : DataW.TrodAll enc Try.prog W 0 (fun _ => true) true Try.f4.params.toList args.toList ds p := hA0
  rw [Try.params4] at hA hval
  obtain ⟨v0, vs0, d0, ds0, p0, q0, hargs, rfl, rfl, h0, r0⟩ := trodAll_cons hA
  obtain ⟨rfl, rfl, rfl⟩ := trodAll_nil r0
  obtain rfl : args = #[v0] := by cases args; simp_all
  obtain ⟨rfl, rfl⟩ := trodVars_none hV
  have k0 := h0
  have lt0 : ∀ x ∈ p0, x.block < W.heap.size := by obtain ⟨m, hm⟩ := k0; exact DataW.trod_lt m _ _ _ hm
  obtain ⟨x0, w0⟩ := open_bl (hval 0 22 v0 rfl rfl) h0
  clear hA0 hval0
  refine (walk v0 x0 W w0).mono fun e W' ⟨he, bel⟩ => ?_
  subst he
  exact ⟨_, rfl, _, _, _, [], _, [], hW', trodAll_mk1 (shut_bool Try.underlying4 _), (trodAll_cons_mk (Below.trod laidOut (by kernel_rfl) (of_decide_eq_true (by kernel_rfl)) k0 bel lt0) trodAll_mk0), rfl, bel.frame _, fun h => by cases h⟩

theorem over : Rows.fnNeedsRow.holds Try.pinned (OpenSpec.ofChange Rows.fnNeedsSpec) :=
  OpenClaim.holds_of_wide 4 Try.f4 rfl rfl rfl rfl rfl rfl rfl ⟨rfl, rfl, rfl, rfl, rfl⟩ rfl rfl rfl rfl rfl (by kernel_rfl) Try.func4 (by kernel_rfl)
    (of_decide_eq_true (by kernel_rfl)) (by unfold Func.isWrapper; first | (rw [if_pos (by decide +kernel)]; kernel_rfl) | (rw [if_neg (by decide +kernel)]; exact ⟨rfl, rfl⟩))
    (fun os started H enc _ => lifted os started H enc)

theorem proved : Rows.FnNeedsSaid := over
end Go.Proofs.Ythdhjlefkdfkkaa.fnNeeds
