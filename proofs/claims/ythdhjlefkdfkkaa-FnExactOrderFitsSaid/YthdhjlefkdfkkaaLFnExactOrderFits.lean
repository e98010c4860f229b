/- The program's OrderFits returns what the reference's returns, for all arguments. No condition. -/
import Derived.Test.YthdhjlefkdfkkaaRows
import Derived.Test.YthdhjlefkdfkkaaArgs
import Derived.Test.YthdhjlefkdfkkaaArgsPlan
import Derived.Test.YthdhjlefkdfkkaaLawPlan
import Derived.Test.YthdhjlefkdfkkaaMarkPlan
import Derived.Test.YthdhjlefkdfkkaaOrderRef
namespace Go.Proofs.Ythdhjlefkdfkkaa.fnExactOrderFits
open Go.ChangeShapes Go.WideShapes Go.ChangeAt Go.RowKit

set_option maxRecDepth 50000 in
set_option maxHeartbeats 4000000 in
theorem walk (v0 : Value) (x0 : List Nd) (v1 : Value) (x1 : List Int) (w : World) (w0 : PLA w v0 x0) (w1 : RL w v1 x1) :
    Calls Try.prog 10 #[v0, v1] w fun e w' => e = .returned (.bool true) ∧ Below w.heap.size w w' := by
  obtain ⟨a0, c0, rfl, -⟩ := id w0
  have bt := Below.refl w.heap.size w
  have A0 : PL w w.heap.size _ x0 := w0
  obtain ⟨a1, c1, rfl, -⟩ := id w1
  have A1 := w1.rr
  obtain ⟨ok, hok⟩ : ∃ ok, ok = orderB x0 x1 := ⟨_, rfl⟩
  have hs : ∀ v vo hi w, PL w hi v x0 → RL w vo x1 → x0.length ≤ 1048576 → Calls Try.prog 32 #[v, vo] w fun e w' => e = .returned (.bool ok) ∧ Mod 0 0 w w' := fun v vo hi w h h' hn => by rw [hok]; exact sorder_any v vo x0 x1 hi w h h' (by omega)
  have hi : ∀ v vo hi w, PL w hi v x0 → RL w vo x1 → Calls Try.prog 30 #[v, vo] w fun e w' => e = .returned (.bool ok) ∧ Mod 0 0 w w' := fun v vo hi w h h' => by rw [hok]; exact iorder_any v vo x0 x1 hi w h h'
  have HS := hid hs
  have HI := hid hi
  clear hs hi hok w0 w1
  by_cases hL : 1048576 < x1.length
  · go_enter Try.func10, Try.ntmps10
    go_wp2_with fail
    go_ret
    exact ⟨rfl, bt⟩
  have hL1 : x1.length ≤ 1048576 := by omega
  clear hL
  cases ok
  all_goals
    go_enter Try.func10, Try.ntmps10
    go_wp2_with fail
    refine (szNodes_any _ x0 _ 1048576 _ A0 (by omega) (by omega)).mono ?_
    rintro e w101 ⟨⟨n1, rfl, hn1, hf1⟩, m1⟩
    replace A0 := A0.mod m1 (by omega)
    replace A1 := A1.mod m1 (by omega)
    have s1 := m1.size
    replace bt := m1.below0 bt bt.size
    by_cases hneg1 : n1 < 0
    · clear hf1
      go_wp2_with fail
      go_ret
      exact ⟨rfl, bt⟩
    obtain ⟨hl1, hl2⟩ := hf1 (by omega)
    have hl1' : x0.length ≤ 1048576 := by omega
    have HL2 := hid hl2
    clear hf1 hl1 hl2
    go_wp2_with fail
    refine (toNodes_any _ x0 _ _ A0 hl1' HL2.out).mono ?_
    rintro e w102 ⟨t0, rfl, T0, b0⟩
    have m2 := Mod.of_below b0
    obtain ⟨aT0, cT0, rfl, -⟩ := T0.shape
    replace A0 := A0.mod m2 (by omega)
    replace A1 := A1.mod m2 (by omega)
    have s2 := m2.size
    replace bt := m2.below0 bt bt.size
    clear b0
    go_wp2_with fail
    refine (toInt_any _ x1 _ A1.rl hL1).mono ?_
    rintro e w103 ⟨t1, rfl, T1, b0⟩
    have m3 := Mod.of_below b0
    replace T1 := T1.r
    replace A0 := A0.mod m3 (by omega)
    replace A1 := A1.mod m3 (by omega)
    replace T0 := T0.mod m3 (by omega)
    have s3 := m3.size
    replace bt := m3.below0 bt bt.size
    clear b0
    go_wp2_with fail
    refine (HS.out _ _ _ _ T0.pl T1.rl hl1').mono ?_
    rintro e w104 ⟨rfl, m4⟩
    replace A0 := A0.mod m4 (by omega)
    replace A1 := A1.mod m4 (by omega)
    replace T0 := T0.mod m4 (by omega)
    replace T1 := T1.mod m4 (by omega)
    have s4 := m4.size
    replace bt := m4.below0 bt bt.size
    go_wp2_with fail
    refine (toNodes_any _ x0 _ _ A0 hl1' HL2.out).mono ?_
    rintro e w105 ⟨y0, rfl, Y0, b0⟩
    have m5 := Mod.of_below b0
    obtain ⟨aY0, cY0, rfl, -⟩ := Y0.shape
    replace A0 := A0.mod m5 (by omega)
    replace A1 := A1.mod m5 (by omega)
    have s5 := m5.size
    replace bt := m5.below0 bt bt.size
    clear b0
    go_wp2_with fail
    refine (toInt_any _ x1 _ A1.rl hL1).mono ?_
    rintro e w106 ⟨y1, rfl, Y1, b0⟩
    have m6 := Mod.of_below b0
    replace Y1 := Y1.r
    replace A0 := A0.mod m6 (by omega)
    replace A1 := A1.mod m6 (by omega)
    replace Y0 := Y0.mod m6 (by omega)
    have s6 := m6.size
    replace bt := m6.below0 bt bt.size
    clear b0
    go_wp2_with fail
    refine (HI.out _ _ _ _ Y0.pl Y1.rl).mono ?_
    rintro e w107 ⟨rfl, m7⟩
    replace A0 := A0.mod m7 (by omega)
    replace A1 := A1.mod m7 (by omega)
    replace Y0 := Y0.mod m7 (by omega)
    replace Y1 := Y1.mod m7 (by omega)
    have s7 := m7.size
    replace bt := m7.below0 bt bt.size
    go_wp2_with fail
    refine (toNodes_any _ x0 _ _ A0 hl1' HL2.out).mono ?_
    rintro e w108 ⟨u0, rfl, U0, b0⟩
    have m8 := Mod.of_below b0
    obtain ⟨aU0, cU0, rfl, -⟩ := U0.shape
    replace A0 := A0.mod m8 (by omega)
    replace A1 := A1.mod m8 (by omega)
    replace Y0 := Y0.mod m8 (by omega)
    replace Y1 := Y1.mod m8 (by omega)
    have s8 := m8.size
    replace bt := m8.below0 bt bt.size
    clear b0
    go_wp2_with fail
    refine (eqNodes_any _ _ x0 _ _ _ Y0.pl U0.pl).mono ?_
    rintro e w109 ⟨rfl, m9⟩
    replace A0 := A0.mod m9 (by omega)
    replace A1 := A1.mod m9 (by omega)
    replace Y0 := Y0.mod m9 (by omega)
    replace Y1 := Y1.mod m9 (by omega)
    replace U0 := U0.mod m9 (by omega)
    have s9 := m9.size
    replace bt := m9.below0 bt bt.size
    go_wp2_with fail
    refine (toInt_any _ x1 _ A1.rl hL1).mono ?_
    rintro e w110 ⟨u1, rfl, U1, b0⟩
    have m10 := Mod.of_below b0
    replace U1 := U1.r
    replace A0 := A0.mod m10 (by omega)
    replace A1 := A1.mod m10 (by omega)
    replace Y1 := Y1.mod m10 (by omega)
    have s10 := m10.size
    replace bt := m10.below0 bt bt.size
    clear b0
    go_wp2_with fail
    refine (eqInt_m _ _ x1 x1 _ Y1.rl U1.rl).mono ?_
    rintro e w111 ⟨rfl, m11⟩
    replace A0 := A0.mod m11 (by omega)
    replace A1 := A1.mod m11 (by omega)
    replace Y1 := Y1.mod m11 (by omega)
    replace U1 := U1.mod m11 (by omega)
    have s11 := m11.size
    replace bt := m11.below0 bt bt.size
    rw [sameB_self]
    go_wp2_with fail
    go_ret
    exact ⟨rfl, bt⟩

theorem own : ownKnob Try.prog.godebug = none := by kernel_rfl
theorem laidOut : laidOutB Try.prog = true := by kernel_rfl
set_option maxRecDepth 100000 in
theorem lifted (os : Os) (started : os.Started) (H : Type) (enc : TypeId × Value → H) :
    ReturnsInHanded {} Try.checked os 10 .any (Rows.fnExactOrderFitsSpec.pre6 enc Try.prog Try.f10 Rows.fnExactOrderFitsRow.domain false) (Rows.fnExactOrderFitsSpec.post enc Try.prog Try.f10 false true false false) := by
  refine returnsInHanded_of_change (C := Try.checked) own started (by kernel_rfl) Try.func10
    (ChangeSpec.witness6 (enc := enc) (C := Try.checked) false ⟨#[], #[.slice none 0 0, .slice none 0 0], []⟩ 8 (by kernel_rfl) (by kernel_rfl) (by kernel_rfl) (by kernel_rfl)) ?_
  intro W base args ds gs before hval0 hW _ _
  have hval : ∀ (j : Nat) t v, Try.f10.params[j]? = some t → args[j]? = some v → Value.okWide Try.prog W .any base t v := hval0
  have hW' := hW
  obtain ⟨p, q, hA0, hV, rfl, _, _⟩ := hW
  have hA : DataW.TrodAll enc Try.prog W 0 (fun _ => true) true Try.f10.params.toList args.toList ds p := hA0
  rw [Try.params10] at hA hval
  obtain ⟨v0, vs0, d0, ds0, p0, q0, hargs, rfl, rfl, h0, r0⟩ := trodAll_cons hA
  obtain ⟨v1, vs1, d1, ds1, p1, q1, rfl, rfl, rfl, h1, r1⟩ := trodAll_cons r0
  obtain ⟨rfl, rfl, rfl⟩ := trodAll_nil r1
  obtain rfl : args = #[v0, v1] := by cases args; simp_all
  obtain ⟨rfl, rfl⟩ := trodVars_none hV
  have k0 := h0
  have lt0 : ∀ x ∈ p0, x.block < W.heap.size := by obtain ⟨m, hm⟩ := k0; exact DataW.trod_lt m _ _ _ hm
  obtain ⟨x0, w0⟩ := open_pl (hval 0 43 v0 rfl rfl) h0
  have k1 := h1
  have lt1 : ∀ x ∈ p1, x.block < W.heap.size := by obtain ⟨m, hm⟩ := k1; exact DataW.trod_lt m _ _ _ hm
  obtain ⟨x1, w1⟩ := open_rl (hval 1 26 v1 rfl rfl) h1
  clear hA0 hval0
  refine (walk v0 x0 v1 x1 W w0 w1).mono fun e W' ⟨he, bel⟩ => ?_
  subst he
  exact ⟨_, rfl, _, _, _, [], _, [], hW', trodAll_mk1 (shut_bool Try.underlying4 _), (trodAll_cons_mk (Below.trod laidOut (by kernel_rfl) (of_decide_eq_true (by kernel_rfl)) k0 bel lt0) (trodAll_cons_mk (Below.trod laidOut (by kernel_rfl) (of_decide_eq_true (by kernel_rfl)) k1 bel lt1) trodAll_mk0)), rfl, bel.frame _, fun h => by cases h⟩

theorem over : Rows.fnExactOrderFitsRow.holds Try.pinned (OpenSpec.ofChange Rows.fnExactOrderFitsSpec) :=
  OpenClaim.holds_of_wide 10 Try.f10 rfl rfl rfl rfl rfl rfl rfl ⟨rfl, rfl, rfl, rfl, rfl⟩ rfl rfl rfl rfl rfl (by kernel_rfl) Try.func10 (by kernel_rfl)
    (of_decide_eq_true (by kernel_rfl)) (by unfold Func.isWrapper; first | (rw [if_pos (by decide +kernel)]; kernel_rfl) | (rw [if_neg (by decide +kernel)]; exact ⟨rfl, rfl⟩))
    (fun os started H enc _ => lifted os started H enc)

theorem proved : Rows.FnExactOrderFitsSaid := over
end Go.Proofs.Ythdhjlefkdfkkaa.fnExactOrderFits
