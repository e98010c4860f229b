/- Who is needed is used. No condition. -/
import Derived.Test.YthdhjlefkdfkkaaRows
import Derived.Test.YthdhjlefkdfkkaaArgs
import Derived.Test.YthdhjlefkdfkkaaDrawPlans
import Derived.Test.YthdhjlefkdfkkaaSameRow
import Derived.Test.YthdhjlefkdfkkaaPlanLaw
import Derived.Test.YthdhjlefkdfkkaaSpecNeeds
namespace Go.Proofs.Ythdhjlefkdfkkaa.fnNeedsUses
open Go.ChangeShapes Go.WideShapes Go.ChangeAt Go.RowKit

set_option maxRecDepth 50000 in
set_option maxHeartbeats 4000000 in
theorem walk (v0 : Value) (x0 : List Int) (w : World) (w0 : BL w v0 x0) :
    Calls Try.prog 6 #[v0] w fun e w' => e = .returned (.bool true) ∧ Below w.heap.size w w' := by
  obtain ⟨a0, c0, rfl, -⟩ := id w0
  by_cases hl0 : 1048576 < x0.length
  · go_enter Try.func6, Try.ntmps6
    go_wp2_with fail
    go_ret
    exact ⟨rfl, Below.refl _ _⟩
  have hl0' : x0.length ≤ 1048576 := by omega
  clear hl0
  go_enter Try.func6, Try.ntmps6
  go_wp2_with fail
  refine (drawNeeds_any _ x0 w w0).mono ?_
  rintro e w1 ⟨vp, ns, a, rfl, hp, hsh, bt⟩
  obtain ⟨ap, cp, rfl, hpl1, hpl2⟩ := hp.shape
  unfold maxLen at hpl2
  have A := hp.pl
  have hl11 := hsh.1
  have s1 := bt.size
  clear hp w0
  go_wp2_with fail
  refine (ineeds_any _ ns _ a _ A).mono ?_
  rintro e w2 ⟨vo, rfl, O, b0⟩
  have m2 := Mod.of_below b0
  replace O := O.r
  replace A := A.mod m2 (by omega)
  have s2 := m2.size
  replace bt := m2.below0 bt bt.size
  clear b0
  go_wp2_with fail
  refine (sneeds_any _ ns _ a _ A (by omega)).mono ?_
  rintro e w3 ⟨vw, rfl, W, b0⟩
  have m3 := Mod.of_below b0
  replace W := W.r
  replace A := A.mod m3 (by omega)
  replace O := O.mod m3 (by omega)
  have s3 := m3.size
  replace bt := m3.below0 bt bt.size
  clear b0
  go_wp2_with fail
  refine (sameRow_m _ _ _ _ _ O.rl W.rl).mono ?_
  rintro e w4 ⟨rfl, m4⟩
  replace A := A.mod m4 (by omega)
  replace O := O.mod m4 (by omega)
  replace W := W.mod m4 (by omega)
  have s4 := m4.size
  replace bt := m4.below0 bt bt.size
  rw [sameB_self]
  obtain ⟨l, hl, hlv, -, -, hll⟩ := needs_told ns a
  rw [hl] at O W
  obtain ⟨aw, cw, rfl, hw1, hw2, -⟩ := W.rl.num
  by_cases hl0 : l = []
  · subst hl0
    rw [show ([] : List Nat).length = 0 from rfl]
    go_wp2_with fail
    refine (sameRow_m _ _ _ _ _ O.rl W.rl).mono ?_
    rintro e w5 ⟨rfl, m5⟩
    replace A := A.mod m5 (by omega)
    replace O := O.mod m5 (by omega)
    replace W := W.mod m5 (by omega)
    have s5 := m5.size
    replace bt := m5.below0 bt bt.size
    rw [sameB_self]
    go_wp2_with fail
    go_ret
    exact ⟨rfl, bt⟩
  · have hlz : ((l.length : Int) == 0) = false := by simpa using hl0
    obtain ⟨hpb, ha0, ha1, hln⟩ := hlv hl0
    obtain ⟨j, rfl⟩ := Int.eq_ofNat_of_zero_le ha0
    have hj : j < ns.length := by omega
    rw [Int.toNat_natCast] at hln
    have HUR := hid (fun x : Nat => uses_plan hpb (x : Int))
    have HSM := hid (fun (x : Nat) (hx : x ∈ l) => uses_some hpb hj (x := x) (by rw [← hln]; exact hx))
    have HLN := hid hln
    have hor := O.rl
    obtain ⟨ao, co, rfl, ho1, ho2, ho3⟩ := O.rl.num
    obtain ⟨X, hX⟩ : ∃ X : World, X = w4 := ⟨_, rfl⟩
    rw [← hX] at A bt ho3 hor ⊢
    have HA := hid A
    have HO := hid ho3
    have HOR := hid hor.rr
    have HBT := hid bt
    clear hlv hl0 hpb hln hl W hsh O A bt hX ho3 hor
    go_wp2_with fail
    go_loopw [7] (fun i wr => ∃ k : Nat, k ≤ l.length ∧ i = .int .i64 k ∧ Mod 0 0 X wr) (fun i _ => l.length - (intOf i).toNat)
    case atStart => exact ⟨0, Nat.zero_le _, rfl, Mod.refl _ _ _⟩
    case round =>
      obtain ⟨k, hk, rfl, mx⟩ := hrel
      by_cases hlt : k < l.length
      · obtain ⟨bo, oo, rfl, hbo, hco⟩ := HO.out k hlt
        have hco' := (World.cell?_of_block (a := ⟨bo, oo + k, none⟩) (mx.block bo hbo (.inr (Nat.zero_le _)))).trans hco
        have hxm : l.getD k 0 ∈ l := getD_mem hlt
        generalize l.getD k 0 = x at hco' hxm hco
        have HSX := hid (HSM.out x hxm)
        have HUX := hid (HUR.out x)
        have A' := HA.out.mod mx (.inr (Nat.zero_le _))
        clear hco hxm
        go_wp2_with fail
        refine (iuses_any _ ns _ x wr A').mono ?_
        rintro e w9 ⟨vu, rfl, hvu, hb9⟩
        rw [HUX.out] at hvu
        have hur := hvu.rl
        obtain ⟨au, cu, rfl, hu1, hu2, hu3⟩ := hvu.rl.num
        have mx9 := mx.trans (Mod.of_below hb9)
        have hor9 := (HOR.out.mod mx9 (.inr (Nat.zero_le _))).rl
        obtain ⟨U, hU⟩ : ∃ U, U = usesN ns x ns.length := ⟨_, rfl⟩
        rw [← hU] at hur hu1 hu3 ⊢
        obtain ⟨s0, hs0⟩ : ∃ s0, s0 = hasB (numL U) (j : Int) := ⟨_, rfl⟩
        have HSX2 : Hid ((s0 || U.any fun u => hasB (numL l) u) = true) := by
          have := HSX.out
          rw [← hU, ← HLN.out, ← hs0] at this
          exact this
        have HU3 := hid hu3
        have HS0 := hid hs0
        clear hvu A' hco' hb9 HSX hU hu3 hs0
        go_wp2_with fail
        refine (hasInt_any _ _ j w9 hur).mono ?_
        rintro e _ ⟨rfl, rfl⟩
        rw [← HS0.out]
        go_wp2_with fail
        go_loopw [9, 10] (fun s i wr => ∃ q : Nat, q ≤ U.length ∧ i = .int .i64 q ∧ s = .bool (s0 || (U.take q).any fun u => hasB (numL l) u) ∧ wr = w9) (fun _ i _ => U.length - (intOf i).toNat)
        case atStart => exact ⟨0, Nat.zero_le _, rfl, by simp, rfl⟩
        case round =>
          obtain ⟨q, hq, rfl, rfl, rfl⟩ := hrel
          by_cases hqt : q < U.length
          · obtain ⟨bu, ou, rfl, hbu, hcu⟩ := HU3.out q hqt
            have HAT := hid (any_take (f := fun u => hasB (numL l) u) hqt)
            generalize U.getD q 0 = u at hcu HAT
            obtain ⟨s, hs⟩ : ∃ s, s = (s0 || (U.take q).any fun u => hasB (numL l) u) := ⟨_, rfl⟩
            rw [← hs]
            have HS := hid hs
            obtain ⟨b, hb⟩ : ∃ b, b = hasB (numL l) (u : Int) := ⟨_, rfl⟩
            have HB := hid hb
            clear hs hb
            cases s
            · go_wp2_with fail
              refine (hasInt_any _ _ u wr hor9).mono ?_
              rintro e _ ⟨rfl, rfl⟩
              rw [← HB.out]
              cases b
              all_goals
                go_wp2_with fail
                go_roundw
                case rel => exact ⟨q + 1, by omega, by go_num, by rw [HAT.out, ← Bool.or_assoc, ← HS.out, ← HB.out]; rfl, by trivial⟩
                case measure => simp [intOf]; omega
            · go_wp2_with fail
              go_roundw
              case rel => exact ⟨q + 1, by omega, by go_num, by rw [HAT.out, ← Bool.or_assoc, ← HS.out]; rfl, by trivial⟩
              case measure => simp [intOf]; omega
          · obtain rfl : q = U.length := by omega
            rw [List.take_length, HSX2.out]
            go_wp2_with fail
            go_roundw
            case rel => exact ⟨k + 1, by omega, by go_num, mx9⟩
            case measure => simp [intOf]; omega
      · obtain rfl : k = l.length := by omega
        have HBX := hid (mx.below0 HBT.out HBT.out.size)
        go_wp2_with fail
        go_ret
        exact ⟨rfl, HBX.out⟩

theorem own : ownKnob Try.prog.godebug = none := by kernel_rfl
theorem laidOut : laidOutB Try.prog = true := by kernel_rfl
set_option maxRecDepth 100000 in
theorem lifted (os : Os) (started : os.Started) (H : Type) (enc : TypeId × Value → H) :
    ReturnsInHanded {} Try.checked os 6 .any (Rows.fnNeedsUsesSpec.pre6 enc Try.prog Try.f6 Rows.fnNeedsUsesRow.domain false) (Rows.fnNeedsUsesSpec.post enc Try.prog Try.f6 false true false false) := by
  refine returnsInHanded_of_change (C := Try.checked) own started (by kernel_rfl) Try.func6
    (ChangeSpec.witness6 (enc := enc) (C := Try.checked) false ⟨#[], #[.slice none 0 0], []⟩ 8 (by kernel_rfl) (by kernel_rfl) (by kernel_rfl) (by kernel_rfl)) ?_
  intro W base args ds gs before hval0 hW _ _
  have hval : ∀ (j : Nat) t v, Try.f6.params[j]? = some t → args[j]? = some v → Value.okWide Try.prog W .any base t v := hval0
  have hW' := hW
  obtain ⟨p, q, hA0, hV, rfl, _, _⟩ := hW
  have hA : DataW.TrodAll enc Try.prog W 0 (fun _ => true) true Try.f6.params.toList args.toList ds p := hA0
  rw [Try.params6] at hA hval
  obtain ⟨v0, vs0, d0, ds0, p0, q0, hargs, rfl, rfl, h0, r0⟩ := trodAll_cons hA
  obtain ⟨rfl, rfl, rfl⟩ := trodAll_nil r0
  obtain rfl : args = #[v0] := by cases args; simp_all
  obtain ⟨rfl, rfl⟩ := trodVars_none hV
  have k0 := h0
  have lt0 : ∀ x ∈ p0, x.block < W.heap.size := by obtain ⟨m, hm⟩ := k0; exact DataW.trod_lt m _ _ _ hm
  obtain ⟨x0, w0⟩ := open_bl (hval 0 22 v0 rfl rfl) h0
  clear hA0 hval0
  refine (walk v0 x0 W w0).mono fun e W' ⟨he, bel⟩ => ?_
  subst he
  exact ⟨_, rfl, _, _, _, [], _, [], hW', trodAll_mk1 (shut_bool Try.underlying4 _), (trodAll_cons_mk (Below.trod laidOut (by kernel_rfl) (of_decide_eq_true (by kernel_rfl)) k0 bel lt0) trodAll_mk0), rfl, bel.frame _, fun h => by cases h⟩

theorem over : Rows.fnNeedsUsesRow.holds Try.pinned (OpenSpec.ofChange Rows.fnNeedsUsesSpec) :=
  OpenClaim.holds_of_wide 6 Try.f6 rfl rfl rfl rfl rfl rfl rfl ⟨rfl, rfl, rfl, rfl, rfl⟩ rfl rfl rfl rfl rfl (by kernel_rfl) Try.func6 (by kernel_rfl)
    (of_decide_eq_true (by kernel_rfl)) (by unfold Func.isWrapper; first | (rw [if_pos (by decide +kernel)]; kernel_rfl) | (rw [if_neg (by decide +kernel)]; exact ⟨rfl, rfl⟩))
    (fun os started H enc _ => lifted os started H enc)

theorem proved : Rows.FnNeedsUsesSaid := over
end Go.Proofs.Ythdhjlefkdfkkaa.fnNeedsUses
