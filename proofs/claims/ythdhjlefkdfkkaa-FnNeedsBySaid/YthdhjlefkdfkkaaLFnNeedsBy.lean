/- Who needs a node needs all that it needs. No condition. -/
import Derived.Test.YthdhjlefkdfkkaaRows
import Derived.Test.YthdhjlefkdfkkaaArgs
import Derived.Test.YthdhjlefkdfkkaaDrawPlans
import Derived.Test.YthdhjlefkdfkkaaSameRow
import Derived.Test.YthdhjlefkdfkkaaPlanLaw
import Derived.Test.YthdhjlefkdfkkaaSpecNeeds
namespace Go.Proofs.Ythdhjlefkdfkkaa.fnNeedsBy
open Go.ChangeShapes Go.WideShapes Go.ChangeAt Go.RowKit

set_option maxRecDepth 50000 in
set_option maxHeartbeats 4000000 in
theorem walk (v0 : Value) (x0 : List Int) (w : World) (w0 : BL w v0 x0) :
    Calls Try.prog 5 #[v0] w fun e w' => e = .returned (.bool true) ∧ Below w.heap.size w w' := by
  obtain ⟨a0, c0, rfl, -⟩ := id w0
  by_cases hl0 : 1048576 < x0.length
  · go_enter Try.func5, Try.ntmps5
    go_wp2_with fail
    go_ret
    exact ⟨rfl, Below.refl _ _⟩
  have hl0' : x0.length ≤ 1048576 := by omega
  clear hl0
  go_enter Try.func5, Try.ntmps5
  go_wp2_with fail
  refine (drawNeeds_any _ x0 w w0).mono ?_
  rintro e w1 ⟨vp, ns, a, rfl, hp, hsh, bt⟩
  obtain ⟨ap, cp, rfl, hpl1, hpl2⟩ := hp.shape
  unfold maxLen at hpl2
  have A := hp.pl
  have hl11 := hsh.1
  have s1 := bt.size
  clear hp w0
  go_wp2_with fail
  refine (ineeds_any _ ns _ a _ A).mono ?_
  rintro e w2 ⟨vo, rfl, O, b0⟩
  have m2 := Mod.of_below b0
  replace O := O.r
  replace A := A.mod m2 (by omega)
  have s2 := m2.size
  replace bt := m2.below0 bt bt.size
  clear b0
  go_wp2_with fail
  refine (sneeds_any _ ns _ a _ A (by omega)).mono ?_
  rintro e w3 ⟨vw, rfl, W, b0⟩
  have m3 := Mod.of_below b0
  replace W := W.r
  replace A := A.mod m3 (by omega)
  replace O := O.mod m3 (by omega)
  have s3 := m3.size
  replace bt := m3.below0 bt bt.size
  clear b0
  go_wp2_with fail
  refine (sameRow_m _ _ _ _ _ O.rl W.rl).mono ?_
  rintro e w4 ⟨rfl, m4⟩
  replace A := A.mod m4 (by omega)
  replace O := O.mod m4 (by omega)
  replace W := W.mod m4 (by omega)
  have s4 := m4.size
  replace bt := m4.below0 bt bt.size
  rw [sameB_self]
  obtain ⟨l, hl, hlv, -, -, hll⟩ := needs_told ns a
  rw [hl] at O W
  obtain ⟨aw, cw, rfl, hw1, hw2, -⟩ := W.rl.num
  by_cases hl0 : l = []
  · subst hl0
    rw [show ([] : List Nat).length = 0 from rfl]
    go_wp2_with fail
    refine (sameRow_m _ _ _ _ _ O.rl W.rl).mono ?_
    rintro e w5 ⟨rfl, m5⟩
    replace A := A.mod m5 (by omega)
    replace O := O.mod m5 (by omega)
    replace W := W.mod m5 (by omega)
    have s5 := m5.size
    replace bt := m5.below0 bt bt.size
    rw [sameB_self]
    go_wp2_with fail
    go_ret
    exact ⟨rfl, bt⟩
  · have hlz : ((l.length : Int) == 0) = false := by simpa using hl0
    obtain ⟨hpb, ha0, ha1, hln⟩ := hlv hl0
    obtain ⟨j, rfl⟩ := Int.eq_ofNat_of_zero_le ha0
    have hj : j < ns.length := by omega
    rw [Int.toNat_natCast] at hln
    have HUR := hid (uses_plan hpb j)
    have HNR := hid (fun (u : Nat) (hu : u < ns.length) => needs_plan hpb hu)
    have HBY := hid (fun (u : Nat) (hu : u ∈ usesN ns j ns.length) => needs_by hpb hj hu)
    have HLN := hid hln
    clear hlv hl0 hpb hln hl W hsh
    go_wp2_with fail
    refine (iuses_any _ ns _ j _ A).mono ?_
    rintro e w5 ⟨vu, rfl, U, b0⟩
    have m5 := Mod.of_below b0
    replace U := U.r
    replace A := A.mod m5 (by omega)
    replace O := O.mod m5 (by omega)
    have s5 := m5.size
    replace bt := m5.below0 bt bt.size
    clear b0
    rw [HUR.out] at U
    obtain ⟨au, cu, rfl, hu1, hu2, hu3⟩ := U.rl.num
    obtain ⟨ao, co, rfl, ho1, ho2, ho3⟩ := O.rl.num
    obtain ⟨X, hX⟩ : ∃ X : World, X = w5 := ⟨_, rfl⟩
    rw [← hX] at A bt ho3 hu3 ⊢
    have HA := hid A
    have HO := hid ho3
    have HU := hid hu3
    have HBT := hid bt
    clear O U A bt hX ho3 hu3
    go_wp2_with fail
    go_loopw [8] (fun i wr => ∃ k : Nat, k ≤ (usesN ns j ns.length).length ∧ i = .int .i64 k ∧ Mod 0 0 X wr) (fun i _ => (usesN ns j ns.length).length - (intOf i).toNat)
    case atStart => exact ⟨0, Nat.zero_le _, rfl, Mod.refl _ _ _⟩
    case round =>
      obtain ⟨k, hk, rfl, mx⟩ := hrel
      by_cases hlt : k < (usesN ns j ns.length).length
      · obtain ⟨bu, ou, rfl, hbu, hcu⟩ := HU.out k hlt
        replace hcu := (World.cell?_of_block (a := ⟨bu, ou + k, none⟩) (mx.block bu hbu (.inr (Nat.zero_le _)))).trans hcu
        have hum : (usesN ns j ns.length).getD k 0 ∈ usesN ns j ns.length := getD_mem hlt
        generalize (usesN ns j ns.length).getD k 0 = u at hcu hum
        have A' := HA.out.mod mx (.inr (Nat.zero_le _))
        have HNU := hid (HNR.out u (mem_usesN.1 hum).1)
        have HBU := hid (HBY.out u hum)
        clear hum
        go_wp2_with fail
        refine (ineeds_any _ ns _ u wr A').mono ?_
        rintro e w9 ⟨vx, rfl, hvx, hb9⟩
        rw [HNU.out] at hvx
        have hxr := hvx.rl
        obtain ⟨ax, cx, rfl, -, -, -⟩ := hvx.rl.num
        have mx9 := mx.trans (Mod.of_below hb9)
        clear hvx A' hcu hb9
        go_wp2_with fail
        go_loopw [10] (fun i wr => ∃ q : Nat, q ≤ l.length ∧ i = .int .i64 q ∧ wr = w9) (fun i _ => l.length - (intOf i).toNat)
        case atStart => exact ⟨0, Nat.zero_le _, rfl, rfl⟩
        case round =>
          obtain ⟨q, hq, rfl, rfl⟩ := hrel
          by_cases hqt : q < l.length
          · obtain ⟨bo, oo, rfl, hbo, hco⟩ := HO.out q hqt
            replace hco := (World.cell?_of_block (a := ⟨bo, oo + q, none⟩) (mx9.block bo hbo (.inr (Nat.zero_le _)))).trans hco
            have hxm : l.getD q 0 ∈ l := getD_mem hqt
            generalize l.getD q 0 = x at hco hxm
            have HH := hid (hasB_true.2 (mem_numL.2 ⟨x, HBU.out x (by rw [← HLN.out]; exact hxm), rfl⟩))
            clear hxm
            go_wp2_with fail
            refine (hasInt_any _ _ x wr hxr).mono ?_
            rintro e _ ⟨rfl, rfl⟩
            rw [HH.out]
            go_wp2_with fail
            go_roundw
            case rel => exact ⟨q + 1, by omega, by go_num, by trivial⟩
            case measure => simp [intOf]; omega
          · obtain rfl : q = l.length := by omega
            go_wp2_with fail
            go_roundw
            case rel => exact ⟨k + 1, by omega, by go_num, mx9⟩
            case measure => simp [intOf]; omega
      · obtain rfl : k = (usesN ns j ns.length).length := by omega
        have HBX := hid (mx.below0 HBT.out HBT.out.size)
        go_wp2_with fail
        go_ret
        exact ⟨rfl, HBX.out⟩

theorem own : ownKnob Try.prog.godebug = none := by kernel_rfl
theorem laidOut : laidOutB Try.prog = true := by kernel_rfl
set_option maxRecDepth 100000 in
theorem lifted (os : Os) (started : os.Started) (H : Type) (enc : TypeId × Value → H) :
    ReturnsInHanded {} Try.checked os 5 .any (Rows.fnNeedsBySpec.pre6 enc Try.prog Try.f5 Rows.fnNeedsByRow.domain false) (Rows.fnNeedsBySpec.post enc Try.prog Try.f5 false true false false) := by
  refine returnsInHanded_of_change (C := Try.checked) own started (by kernel_rfl) Try.func5
    (ChangeSpec.witness6 (enc := enc) (C := Try.checked) false ⟨#[], #[.slice none 0 0], []⟩ 8 (by kernel_rfl) (by kernel_rfl) (by kernel_rfl) (by kernel_rfl)) ?_
  intro W base args ds gs before hval0 hW _ _
  have hval : ∀ (j : Nat) t v, Try.f5.params[j]? = some t → args[j]? = some v → Value.okWide Try.prog W .any base t v := hval0
  have hW' := hW
  obtain ⟨p, q, hA0, hV, rfl, _, _⟩ := hW
  have hA : DataW.TrodAll enc Try.prog W 0 (fun _ => true) true Try.f5.params.toList args.toList ds p := hA0
  rw [Try.params5] at hA hval
  obtain ⟨v0, vs0, d0, ds0, p0, q0, hargs, rfl, rfl, h0, r0⟩ := trodAll_cons hA
  obtain ⟨rfl, rfl, rfl⟩ := trodAll_nil r0
  obtain rfl : args = #[v0] := by cases args; simp_all
  obtain ⟨rfl, rfl⟩ := trodVars_none hV
  have k0 := h0
  have lt0 : ∀ x ∈ p0, x.block < W.heap.size := by obtain ⟨m, hm⟩ := k0; exact DataW.trod_lt m _ _ _ hm
  obtain ⟨x0, w0⟩ := open_bl (hval 0 22 v0 rfl rfl) h0
  clear hA0 hval0
  refine (walk v0 x0 W w0).mono fun e W' ⟨he, bel⟩ => ?_
  subst he
  exact ⟨_, rfl, _, _, _, [], _, [], hW', trodAll_mk1 (shut_bool Try.underlying4 _), (trodAll_cons_mk (Below.trod laidOut (by kernel_rfl) (of_decide_eq_true (by kernel_rfl)) k0 bel lt0) trodAll_mk0), rfl, bel.frame _, fun h => by cases h⟩

theorem over : Rows.fnNeedsByRow.holds Try.pinned (OpenSpec.ofChange Rows.fnNeedsBySpec) :=
  OpenClaim.holds_of_wide 5 Try.f5 rfl rfl rfl rfl rfl rfl rfl ⟨rfl, rfl, rfl, rfl, rfl⟩ rfl rfl rfl rfl rfl (by kernel_rfl) Try.func5 (by kernel_rfl)
    (of_decide_eq_true (by kernel_rfl)) (by unfold Func.isWrapper; first | (rw [if_pos (by decide +kernel)]; kernel_rfl) | (rw [if_neg (by decide +kernel)]; exact ⟨rfl, rfl⟩))
    (fun os started H enc _ => lifted os started H enc)

theorem proved : Rows.FnNeedsBySaid := over
end Go.Proofs.Ythdhjlefkdfkkaa.fnNeedsBy
