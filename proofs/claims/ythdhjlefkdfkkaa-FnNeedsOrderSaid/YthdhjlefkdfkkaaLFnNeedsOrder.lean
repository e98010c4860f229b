/- Needs are earlier nodes, in order. No condition. -/
import Derived.Test.YthdhjlefkdfkkaaRows
import Derived.Test.YthdhjlefkdfkkaaArgs
import Derived.Test.YthdhjlefkdfkkaaDrawPlans
import Derived.Test.YthdhjlefkdfkkaaSameRow
import Derived.Test.YthdhjlefkdfkkaaPlanLaw
import Derived.Test.YthdhjlefkdfkkaaSpecNeeds
namespace Go.Proofs.Ythdhjlefkdfkkaa.fnNeedsOrder
open Go.ChangeShapes Go.WideShapes Go.ChangeAt Go.RowKit

set_option maxRecDepth 50000 in
set_option maxHeartbeats 4000000 in
theorem walk (v0 : Value) (x0 : List Int) (w : World) (w0 : BL w v0 x0) :
    Calls Try.prog 3 #[v0] w fun e w' => e = .returned (.bool true) ∧ Below w.heap.size w w' := by
  obtain ⟨a0, c0, rfl, -⟩ := id w0
  by_cases hl0 : 1048576 < x0.length
  · go_enter Try.func3, Try.ntmps3
    go_wp2_with fail
    go_ret
    exact ⟨rfl, Below.refl _ _⟩
  have hl0' : x0.length ≤ 1048576 := by omega
  clear hl0
  go_enter Try.func3, Try.ntmps3
  go_wp2_with fail
  refine (drawNeeds_any _ x0 w w0).mono ?_
  rintro e w1 ⟨vp, ns, a, rfl, hp, hsh, bt⟩
  obtain ⟨ap, cp, rfl, hpl1, hpl2⟩ := hp.shape
  unfold maxLen at hpl2
  have A := hp.pl
  have hl11 := hsh.1
  have s1 := bt.size
  clear hp w0
  go_wp2_with fail
  refine (ineeds_any _ ns _ a _ A).mono ?_
  rintro e w2 ⟨vo, rfl, O, b0⟩
  have m2 := Mod.of_below b0
  replace O := O.r
  replace A := A.mod m2 (by omega)
  have s2 := m2.size
  replace bt := m2.below0 bt bt.size
  clear b0
  go_wp2_with fail
  refine (sneeds_any _ ns _ a _ A (by omega)).mono ?_
  rintro e w3 ⟨vw, rfl, W, b0⟩
  have m3 := Mod.of_below b0
  replace W := W.r
  replace A := A.mod m3 (by omega)
  replace O := O.mod m3 (by omega)
  have s3 := m3.size
  replace bt := m3.below0 bt bt.size
  clear b0
  go_wp2_with fail
  refine (sameRow_m _ _ _ _ _ O.rl W.rl).mono ?_
  rintro e w4 ⟨rfl, m4⟩
  replace A := A.mod m4 (by omega)
  replace O := O.mod m4 (by omega)
  replace W := W.mod m4 (by omega)
  have s4 := m4.size
  replace bt := m4.below0 bt bt.size
  rw [sameB_self]
  obtain ⟨l, hl, -, hlt, hasc, hll⟩ := needs_told ns a
  rw [hl] at O
  obtain ⟨ao, co, rfl, ho1, ho2, ho3⟩ := O.rl.num
  obtain ⟨X, hX⟩ : ∃ X : World, X = w4 := ⟨_, rfl⟩
  rw [← hX] at bt ho3 ⊢
  have HO := hid ho3
  have HBT := hid bt
  have HLT := hid hlt
  have HAS := hid hasc
  clear hl O W A bt hX hsh ho3 hlt hasc
  go_wp2_with fail
  go_loopw [7] (fun i wr => ∃ k : Nat, k ≤ l.length ∧ i = .int .i64 k ∧ Mod 0 0 X wr) (fun i _ => l.length - (intOf i).toNat)
  case atStart => exact ⟨0, Nat.zero_le _, rfl, Mod.refl _ _ _⟩
  case round =>
    obtain ⟨k, hk, rfl, mx⟩ := hrel
    by_cases hlt : k < l.length
    · obtain ⟨bo, oo, rfl, hbo, hco⟩ := HO.out k hlt
      have hco' := (World.cell?_of_block (a := ⟨bo, oo + k, none⟩) (mx.block bo hbo (.inr (Nat.zero_le _)))).trans hco
      have hxa := HLT.out k hlt
      have k0 : (0 : Int) ≤ (k : Int) := by omega
      have k1 : (k : Int) < (l.length : Int) := by omega
      clear hco
      cases k with
      | zero =>
        generalize l.getD 0 0 = x at hco' hxa
        simp only [Nat.add_zero] at hco'
        have l0 : (0 : Int) < (l.length : Int) := by omega
        rw [show ((0 : Nat) : Int) = 0 from rfl]
        have d1 : decide ((x : Int) < 0) = false := decide_eq_false (by omega)
        have d2 : decide (a ≤ (x : Int)) = false := decide_eq_false (by omega)
        go_wp2_with fail
        go_quiet (fail)
        go_wp2_with fail
        go_roundw
        case rel => exact ⟨1, by omega, rfl, mx.trans (Mod.drewN _ _)⟩
        case measure => simp [intOf]; omega
      | succ j =>
        have hyx := HAS.out j hlt
        obtain ⟨bo', oo', e3, -, hcj⟩ := HO.out j (by omega)
        simp only [Option.some.injEq, Addr.mk.injEq, and_true] at e3
        obtain ⟨rfl, rfl⟩ := e3
        have hcj' := (World.cell?_of_block (a := ⟨bo, oo + j, none⟩) (mx.block bo hbo (.inr (Nat.zero_le _)))).trans hcj
        generalize l.getD (j + 1) 0 = x at hco' hxa hyx
        generalize l.getD j 0 = y at hcj' hyx hcj
        have d1 : decide ((x : Int) < 0) = false := decide_eq_false (by omega)
        have d2 : decide (a ≤ (x : Int)) = false := decide_eq_false (by omega)
        have d3 : decide (x ≤ y) = false := decide_eq_false (by omega)
        have d4 : decide ((x : Int) ≤ (y : Int)) = false := decide_eq_false (by omega)
        have j0 : (0 : Int) ≤ (j : Int) := by omega
        have j1 : (j : Int) < (l.length : Int) := by omega
        have ej : ((j + 1 : Nat) : Int) - 1 = (j : Int) := by omega
        clear hcj
        go_wp2_with fail
        go_quiet (fail)
        go_wp2_with fail
        go_roundw
        case rel => exact ⟨j + 1 + 1, by omega, by go_num, mx.trans (Mod.drewN _ _)⟩
        case measure => simp [intOf]; omega
    · obtain rfl : k = l.length := by omega
      have HBX := hid (mx.below0 HBT.out HBT.out.size)
      go_wp2_with fail
      go_ret
      exact ⟨rfl, HBX.out⟩

theorem own : ownKnob Try.prog.godebug = none := by kernel_rfl
theorem laidOut : laidOutB Try.prog = true := by kernel_rfl
set_option maxRecDepth 100000 in
theorem lifted (os : Os) (started : os.Started) (H : Type) (enc : TypeId × Value → H) :
    ReturnsInHanded {} Try.checked os 3 .any (Rows.fnNeedsOrderSpec.pre6 enc Try.prog Try.f3 Rows.fnNeedsOrderRow.domain false) (Rows.fnNeedsOrderSpec.post enc Try.prog Try.f3 false true false false) := by
  refine returnsInHanded_of_change (C := Try.checked) own started (by kernel_rfl) Try.func3
    (ChangeSpec.witness6 (enc := enc) (C := Try.checked) false ⟨#[], #[.slice none 0 0], []⟩ 8 (by kernel_rfl) (by kernel_rfl) (by kernel_rfl) (by kernel_rfl)) ?_
  intro W base args ds gs before hval0 hW _ _
  have hval : ∀ (j : Nat) t v, Try.f3.params[j]? = some t → args[j]? = some v → Value.okWide Try.prog W .any base t v := hval0
  have hW' := hW
  obtain ⟨p, q, hA0, hV, rfl, _, _⟩ := hW
  have hA : DataW.TrodAll enc Try.prog W 0 (fun _ => true) true Try.f3.params.toList args.toList ds p := hA0
  rw [Try.params3] at hA hval
  obtain ⟨v0, vs0, d0, ds0, p0, q0, hargs, rfl, rfl, h0, r0⟩ := trodAll_cons hA
  obtain ⟨rfl, rfl, rfl⟩ := trodAll_nil r0
  obtain rfl : args = #[v0] := by cases args; simp_all
  obtain ⟨rfl, rfl⟩ := trodVars_none hV
  have k0 := h0
  have lt0 : ∀ x ∈ p0, x.block < W.heap.size := by obtain ⟨m, hm⟩ := k0; exact DataW.trod_lt m _ _ _ hm
  obtain ⟨x0, w0⟩ := open_bl (hval 0 22 v0 rfl rfl) h0
  clear hA0 hval0
  refine (walk v0 x0 W w0).mono fun e W' ⟨he, bel⟩ => ?_
  subst he
  exact ⟨_, rfl, _, _, _, [], _, [], hW', trodAll_mk1 (shut_bool Try.underlying4 _), (trodAll_cons_mk (Below.trod laidOut (by kernel_rfl) (of_decide_eq_true (by kernel_rfl)) k0 bel lt0) trodAll_mk0), rfl, bel.frame _, fun h => by cases h⟩

theorem over : Rows.fnNeedsOrderRow.holds Try.pinned (OpenSpec.ofChange Rows.fnNeedsOrderSpec) :=
  OpenClaim.holds_of_wide 3 Try.f3 rfl rfl rfl rfl rfl rfl rfl ⟨rfl, rfl, rfl, rfl, rfl⟩ rfl rfl rfl rfl rfl (by kernel_rfl) Try.func3 (by kernel_rfl)
    (of_decide_eq_true (by kernel_rfl)) (by unfold Func.isWrapper; first | (rw [if_pos (by decide +kernel)]; kernel_rfl) | (rw [if_neg (by decide +kernel)]; exact ⟨rfl, rfl⟩))
    (fun os started H enc _ => lifted os started H enc)

theorem proved : Rows.FnNeedsOrderSaid := over
end Go.Proofs.Ythdhjlefkdfkkaa.fnNeedsOrder
