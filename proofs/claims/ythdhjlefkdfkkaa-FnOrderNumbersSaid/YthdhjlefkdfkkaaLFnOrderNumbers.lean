/- The order of numbers always fits. No condition. -/
import Derived.Test.YthdhjlefkdfkkaaRows
import Derived.Test.YthdhjlefkdfkkaaArgs
import Derived.Test.YthdhjlefkdfkkaaDrawPlans
import Derived.Test.YthdhjlefkdfkkaaSameRow
import Derived.Test.YthdhjlefkdfkkaaPlanLaw
import Derived.Test.YthdhjlefkdfkkaaUse
import Derived.Test.YthdhjlefkdfkkaaOrder
import Derived.Test.YthdhjlefkdfkkaaOrderLaw
namespace Go.Proofs.Ythdhjlefkdfkkaa.fnOrderNumbers
open Go.ChangeShapes Go.WideShapes Go.ChangeAt Go.RowKit

set_option maxRecDepth 50000 in
set_option maxHeartbeats 4000000 in
theorem walk (v0 : Value) (x0 : List Int) (w : World) (w0 : BL w v0 x0) :
    Calls Try.prog 9 #[v0] w fun e w' => e = .returned (.bool true) ∧ Below w.heap.size w w' := by
  obtain ⟨a0, c0, rfl, -⟩ := id w0
  by_cases hl0 : 1048576 < x0.length
  · go_enter Try.func9, Try.ntmps9
    go_wp2_with fail
    go_ret
    exact ⟨rfl, Below.refl _ _⟩
  have hl0' : x0.length ≤ 1048576 := by omega
  clear hl0
  go_enter Try.func9, Try.ntmps9
  go_wp2_with fail
  refine (drawEnds_any _ x0 w w0).mono ?_
  rintro e w1 ⟨vp, ns, rfl, hp, hsh, bt⟩
  obtain ⟨ap, cp, rfl, hpl1, hpl2⟩ := hp.shape
  unfold maxLen at hpl2
  have A := hp.pl
  have hl11 := hsh.1
  have s1 := bt.size
  clear hp w0
  go_wp2_with fail
  refine (iends_any _ ns _ _ A).mono ?_
  rintro e w2 ⟨vo, rfl, O, b0⟩
  have m2 := Mod.of_below b0
  replace O := O.r
  replace A := A.mod m2 (by omega)
  have s2 := m2.size
  replace bt := m2.below0 bt bt.size
  clear b0
  go_wp2_with fail
  refine (sends_any _ ns _ _ A (by omega)).mono ?_
  rintro e w3 ⟨vw, rfl, W, b0⟩
  have m3 := Mod.of_below b0
  replace W := W.r
  replace A := A.mod m3 (by omega)
  replace O := O.mod m3 (by omega)
  have s3 := m3.size
  replace bt := m3.below0 bt bt.size
  clear b0
  go_wp2_with fail
  refine (sameRow_m _ _ _ _ _ O.rl W.rl).mono ?_
  rintro e w4 ⟨rfl, m4⟩
  replace A := A.mod m4 (by omega)
  replace O := O.mod m4 (by omega)
  replace W := W.mod m4 (by omega)
  have s4 := m4.size
  replace bt := m4.below0 bt bt.size
  rw [sameB_self]
  go_wp2_with fail
  refine (splan_any _ ns _ _ A (by omega)).mono ?_
  rintro e w5 ⟨rfl, m5⟩
  replace A := A.mod m5 (by omega)
  replace O := O.mod m5 (by omega)
  replace W := W.mod m5 (by omega)
  have s5 := m5.size
  replace bt := m5.below0 bt bt.size
  cases hpb : planB ns
  · have HPB := hid hpb
    clear hpb
    go_wp2_with fail
    refine (sameRow_m _ _ _ _ _ O.rl W.rl).mono ?_
    rintro e w6 ⟨rfl, m6⟩
    replace A := A.mod m6 (by omega)
    replace O := O.mod m6 (by omega)
    replace W := W.mod m6 (by omega)
    have s6 := m6.size
    replace bt := m6.below0 bt bt.size
    rw [sameB_self]
    go_wp2_with fail
    go_ret
    exact ⟨rfl, bt⟩
  · by_cases hn0 : ns.length = 0
    · have HPB := hid hpb
      have hz : ((ns.length : Int) == 0) = true := by simp [hn0]
      clear hpb hn0
      go_wp2_with fail
      refine (sameRow_m _ _ _ _ _ O.rl W.rl).mono ?_
      rintro e w6 ⟨rfl, m6⟩
      replace A := A.mod m6 (by omega)
      replace O := O.mod m6 (by omega)
      replace W := W.mod m6 (by omega)
      have s6 := m6.size
      replace bt := m6.below0 bt bt.size
      rw [sameB_self]
      go_wp2_with fail
      go_ret
      exact ⟨rfl, bt⟩
    have hz : ((ns.length : Int) == 0) = false := by simpa using hn0
    obtain ⟨m, L, hm, hel, heg⟩ := ends_last hpb hn0
    rw [ends_plan hpb] at O
    have HON := hid (order_numbers hpb)
    have HOC := hid (order_cut hm)
    have HEL := hid hel
    have em : (ns.length : Int) - 1 = (m : Int) := by omega
    have hmn : m ≤ ns.length := by omega
    have hn11 := hl11
    obtain ⟨ao, co, rfl, ho1, ho2, -⟩ := O.rl.num
    rw [hel]
    obtain ⟨X, hX⟩ : ∃ X : World, X = w5 := ⟨_, rfl⟩
    rw [← hX] at A bt ⊢
    have HA := hid A
    have HBT := hid bt
    clear hpb O W A bt hX hsh heg hel hn0 hm ho1
    go_wp2_with fail
    go_loopw [6, 7] (fun o i wr => ∃ k : Nat, k ≤ ns.length ∧ i = .int .i64 (k : Int) ∧ OI wr X.heap.size o (numL (List.range k)) ∧ Below X.heap.size X wr) (fun _ i _ => ns.length - (intOf i).toNat)
    case atStart => exact ⟨0, Nat.zero_le _, rfl, OI.fresh0 X (Nat.le_refl _), (Below.refl _ _).alloc (Nat.le_refl _) _⟩
    case round =>
      obtain ⟨k, hk, rfl, o1, b1⟩ := hrel
      have hol := range_length k
      by_cases hlt : k < ns.length
      · go_wp2_with (at_builtin; refine app1 rfl _ _ 26 rfl Try.underlying26 X.heap.size _ _ _ o1 rfl rfl (by rw [hol]; omega) b1 b1.size ?_; intro v' w' ho' hbel' _)
        go_roundw
        case rel => exact ⟨k + 1, by omega, by go_num, by rw [numL_range]; exact ho', hbel'⟩
        case measure => simp [intOf]; omega
      · obtain rfl : k = ns.length := by omega
        have mx := Mod.of_below b1
        have A' := HA.out.mod mx (by omega)
        obtain ⟨an, cn, rfl, h1, h2, -⟩ := id o1.rl
        rw [hol] at o1 h1 ⊢
        unfold maxLen at h2
        have HBX := hid (mx.below0 HBT.out HBT.out.size)
        have R1 := o1.rl
        have HO1 := hid o1
        clear o1 b1 hol hlt
        go_wp2_with fail
        refine (iorder_any _ _ ns _ _ _ A' R1).mono ?_
        rintro e w9 ⟨rfl, m9⟩
        rw [HON.out]
        have A9 := A'.mod m9 (by omega)
        have R9 := (HO1.out.mod m9 (Nat.zero_le _)).rl
        have R8 := R9.take hmn
        have HB9 := hid (m9.below0 HBX.out HBX.out.size)
        have m0 : (0 : Int) ≤ (m : Int) := by omega
        have m1 : (m : Int) ≤ (cn : Int) := by omega
        go_wp2_with fail
        refine (iorder_any _ _ ns _ _ _ A9 R8).mono ?_
        rintro e w10 ⟨rfl, m10⟩
        rw [HOC.out]
        have HB10 := hid (m10.below0 HB9.out HB9.out.size)
        go_wp2_with fail
        go_ret
        exact ⟨by simp; try omega, HB10.out⟩

theorem own : ownKnob Try.prog.godebug = none := by kernel_rfl
theorem laidOut : laidOutB Try.prog = true := by kernel_rfl
set_option maxRecDepth 100000 in
theorem lifted (os : Os) (started : os.Started) (H : Type) (enc : TypeId × Value → H) :
    ReturnsInHanded {} Try.checked os 9 .any (Rows.fnOrderNumbersSpec.pre6 enc Try.prog Try.f9 Rows.fnOrderNumbersRow.domain false) (Rows.fnOrderNumbersSpec.post enc Try.prog Try.f9 false true false false) := by
  refine returnsInHanded_of_change (C := Try.checked) own started (by kernel_rfl) Try.func9
    (ChangeSpec.witness6 (enc := enc) (C := Try.checked) false ⟨#[], #[.slice none 0 0], []⟩ 8 (by kernel_rfl) (by kernel_rfl) (by kernel_rfl) (by kernel_rfl)) ?_
  intro W base args ds gs before hval0 hW _ _
  have hval : ∀ (j : Nat) t v, Try.f9.params[j]? = some t → args[j]? = some v → Value.okWide Try.prog W .any base t v := hval0
  have hW' := hW
  obtain ⟨p, q, hA0, hV, rfl, _, _⟩ := hW
  have hA : DataW.TrodAll enc Try.prog W 0 (fun _ => true) true Try.f9.params.toList args.toList ds p := hA0
  rw [Try.params9] at hA hval
  obtain ⟨v0, vs0, d0, ds0, p0, q0, hargs, rfl, rfl, h0, r0⟩ := trodAll_cons hA
  obtain ⟨rfl, rfl, rfl⟩ := trodAll_nil r0
  obtain rfl : args = #[v0] := by cases args; simp_all
  obtain ⟨rfl, rfl⟩ := trodVars_none hV
  have k0 := h0
  have lt0 : ∀ x ∈ p0, x.block < W.heap.size := by obtain ⟨m, hm⟩ := k0; exact DataW.trod_lt m _ _ _ hm
  obtain ⟨x0, w0⟩ := open_bl (hval 0 22 v0 rfl rfl) h0
  clear hA0 hval0
  refine (walk v0 x0 W w0).mono fun e W' ⟨he, bel⟩ => ?_
  subst he
  exact ⟨_, rfl, _, _, _, [], _, [], hW', trodAll_mk1 (shut_bool Try.underlying4 _), (trodAll_cons_mk (Below.trod laidOut (by kernel_rfl) (of_decide_eq_true (by kernel_rfl)) k0 bel lt0) trodAll_mk0), rfl, bel.frame _, fun h => by cases h⟩

theorem over : Rows.fnOrderNumbersRow.holds Try.pinned (OpenSpec.ofChange Rows.fnOrderNumbersSpec) :=
  OpenClaim.holds_of_wide 9 Try.f9 rfl rfl rfl rfl rfl rfl rfl ⟨rfl, rfl, rfl, rfl, rfl⟩ rfl rfl rfl rfl rfl (by kernel_rfl) Try.func9 (by kernel_rfl)
    (of_decide_eq_true (by kernel_rfl)) (by unfold Func.isWrapper; first | (rw [if_pos (by decide +kernel)]; kernel_rfl) | (rw [if_neg (by decide +kernel)]; exact ⟨rfl, rfl⟩))
    (fun os started H enc _ => lifted os started H enc)

theorem proved : Rows.FnOrderNumbersSaid := over
end Go.Proofs.Ythdhjlefkdfkkaa.fnOrderNumbers
