/- All rows have as many values. No condition. -/
import Derived.Test.YteelobokjidphaaRows
import Derived.Test.YteelobokjidphaaArgs
import Derived.Test.YteelobokjidphaaDrawPlans
import Derived.Test.YteelobokjidphaaSameRow
import Derived.Test.YteelobokjidphaaValueStep
import Derived.Test.YteelobokjidphaaValuesLaw
import Derived.Test.YteelobokjidphaaMarkRows
namespace Go.Proofs.Yteelobokjidphaa.fnValuesWide
open Go.ChangeShapes Go.WideShapes Go.ChangeAt Go.RowKit

set_option maxRecDepth 50000 in
set_option maxHeartbeats 4000000 in
theorem walk (v0 : Value) (x0 : List Int) (w : World) (w0 : BL w v0 x0) :
    Calls Try.prog 11 #[v0] w fun e w' => e = .returned (.bool true) ∧ Below w.heap.size w w' := by
  obtain ⟨a0, c0, rfl, -⟩ := id w0
  by_cases hl0 : 1048576 < x0.length
  · go_enter Try.func11, Try.ntmps11
    go_wp2_with fail
    go_ret
    exact ⟨rfl, Below.refl _ _⟩
  have hl0' : x0.length ≤ 1048576 := by omega
  clear hl0
  go_enter Try.func11, Try.ntmps11
  go_wp2_with fail
  refine (drawValues_any _ x0 w w0).mono ?_
  rintro e w1 ⟨vp, ns, rfl, hp, hsh, bt⟩
  obtain ⟨ap, cp, rfl, hpl1, hpl2⟩ := hp.shape
  unfold maxLen at hpl2
  have A := hp.pl
  have hl11 := hsh.1
  have s1 := bt.size
  clear hp w0
  go_wp2_with fail
  refine (ivalues_any _ ns _ _ A).mono ?_
  rintro e w2 ⟨vo, rfl, O, b0⟩
  have m2 := Mod.of_below b0
  replace O := O.grid.rs
  replace A := A.mod m2 (by omega)
  have s2 := m2.size
  replace bt := m2.below0 bt bt.size
  clear b0
  go_wp2_with fail
  refine (svalues_any _ ns _ _ A (by omega)).mono ?_
  rintro e w3 ⟨vw, rfl, W, b0⟩
  have m3 := Mod.of_below b0
  replace W := W.rs
  replace A := A.mod m3 (by omega)
  replace O := O.mod m3 (by omega)
  have s3 := m3.size
  replace bt := m3.below0 bt bt.size
  clear b0
  go_wp2_with fail
  refine (sameRows_m _ _ (valsR ns) _ _ _ O W).mono ?_
  rintro e w4 ⟨rfl, m4⟩
  replace A := A.mod m4 (by omega)
  replace O := O.mod m4 (by omega)
  replace W := W.mod m4 (by omega)
  have s4 := m4.size
  replace bt := m4.below0 bt bt.size
  cases hpb : planB ns
  · have HPB := hid hpb
    clear hpb
    go_wp2_with fail
    refine (sameRows_m _ _ (valsR ns) _ _ _ O W).mono ?_
    rintro e w5 ⟨rfl, m5⟩
    replace A := A.mod m5 (by omega)
    replace O := O.mod m5 (by omega)
    replace W := W.mod m5 (by omega)
    have s5 := m5.size
    replace bt := m5.below0 bt bt.size
    go_wp2_with fail
    go_ret
    exact ⟨rfl, bt⟩
  · obtain ⟨V, hV⟩ : ∃ V, V = valsN ns ns.length := ⟨_, rfl⟩
    have hVl : V.length = ns.length := by rw [hV, valsN_length]
    have hVR : valsR ns = V := by rw [hV, valsR_of hpb]
    rw [hVR] at O
    have HPB := hid hpb
    have HVR := hid hVR
    have HVL := hid hVl
    have HV := hid hV
    obtain ⟨ao, co, rfl, ho1, ho2⟩ := O.shape
    rw [hVl] at O ho1 ⊢
    obtain ⟨X, hX⟩ : ∃ X : World, X = w4 := ⟨_, rfl⟩
    rw [← hX] at O bt ⊢
    have hok : ∀ i, i < ns.length → rvB (V.getD i []) = true ∧ ((V.getD i []).length : Int) = wideF ns := fun i hi => by rw [hV]; exact vals_ok hpb ns.length (Nat.le_refl _) i hi
    obtain ⟨ay, cy, e9, -, -, hXs, hxr⟩ := id O
    simp only [Value.slice.injEq] at e9
    obtain ⟨rfl, -, rfl⟩ := e9
    rw [hVl] at hxr
    have HXR := hid hxr
    have HOK := hid hok
    have HBT := hid bt
    have HO := hid O
    clear hpb hVR hVl hV hX W hsh hok hxr bt O A
    go_wp2_with fail
    go_loopw [8] (fun i wr => ∃ j : Nat, j ≤ ns.length ∧ i = .int .i64 j ∧ Mod 0 0 X wr) (fun i _ => ns.length - (intOf i).toNat)
    case atStart => exact ⟨0, Nat.zero_le _, rfl, Mod.refl _ _ _⟩
    case round =>
      obtain ⟨j, hj, rfl, hm⟩ := hrel
      by_cases hlt : j < ns.length
      · obtain ⟨b, o, u, rfl, hb, hc, hu⟩ := HXR.out j hlt
        obtain ⟨b', o', u', e', hb', hc', hu'⟩ := HXR.out 0 (by omega)
        simp only [Option.some.injEq, Addr.mk.injEq, and_true] at e'
        obtain ⟨rfl, rfl⟩ := e'
        rw [Nat.add_zero] at hc'
        replace hc := (World.cell?_of_block (a := ⟨b, o + j, none⟩) (hm.block b (Nat.lt_of_lt_of_le hb hXs) (.inr (Nat.zero_le _)))).trans hc
        replace hc' := (World.cell?_of_block (a := ⟨b, o, none⟩) (hm.block b (Nat.lt_of_lt_of_le hb hXs) (.inr (Nat.zero_le _)))).trans hc'
        obtain ⟨g1, g2⟩ := HOK.out j hlt
        obtain ⟨g3, g4⟩ := HOK.out 0 (by omega)
        obtain ⟨xs, hxs⟩ : ∃ xs, xs = V.getD j [] := ⟨_, rfl⟩
        obtain ⟨ys, hys⟩ : ∃ ys, ys = V.getD 0 [] := ⟨_, rfl⟩
        rw [← hxs] at hu g1 g2
        rw [← hys] at hu' g3 g4
        have hne : ((xs.length : Int) != (ys.length : Int)) = false := by rw [g2, g4]; simp
        obtain ⟨au, cu, rfl, -⟩ := id hu
        obtain ⟨au', cu', rfl, -⟩ := id hu'
        have hrc : ∀ n, Calls Try.prog 49 #[.slice au xs.length cu] (wr.drewN n) fun e w' => e = .returned (.bool true) ∧ wr.drewN n = w' := fun n => by rw [← g1]; exact irv_any _ xs _ (hu.mod (hm.trans (Mod.drewN wr n)) (.inr (Nat.zero_le _))).rl
        have HRC := hid hrc
        have j0 : (0 : Int) ≤ (j : Int) := by omega
        have j1 : (j : Int) < (ns.length : Int) := by omega
        have l0 : (0 : Int) < (ns.length : Int) := by omega
        clear hxs hys g1 g2 g3 g4 hrc hu hu'
        go_wp2_with fail
        go_quiet (first | (go_at_call 49; exact quiet_r (HRC.out _)))
        go_wp2_with fail
        go_roundw
        case rel => exact ⟨j + 1, by omega, by go_num, hm.trans (Mod.drewN _ _)⟩
        case measure => simp [intOf]; omega
      · obtain rfl : j = ns.length := by omega
        go_wp2_with fail
        go_ret
        exact ⟨rfl, hm.below0 HBT.out HBT.out.size⟩

theorem own : ownKnob Try.prog.godebug = none := by kernel_rfl
theorem laidOut : laidOutB Try.prog = true := by kernel_rfl
set_option maxRecDepth 100000 in
theorem lifted (os : Os) (started : os.Started) (H : Type) (enc : TypeId × Value → H) :
    ReturnsInHanded {} Try.checked os 11 .any (Rows.fnValuesWideSpec.pre6 enc Try.prog Try.f11 Rows.fnValuesWideRow.domain false) (Rows.fnValuesWideSpec.post enc Try.prog Try.f11 false true false false) := by
  refine returnsInHanded_of_change (C := Try.checked) own started (by kernel_rfl) Try.func11
    (ChangeSpec.witness6 (enc := enc) (C := Try.checked) false ⟨#[], #[.slice none 0 0], []⟩ 8 (by kernel_rfl) (by kernel_rfl) (by kernel_rfl) (by kernel_rfl)) ?_
  intro W base args ds gs before hval0 hW _ _
  have hval : ∀ (j : Nat) t v, Try.f11.params[j]? = some t → args[j]? = some v → Value.okWide Try.prog W .any base t v := hval0
  have hW' := hW
  obtain ⟨p, q, hA0, hV, rfl, _, _⟩ := hW
  have hA : DataW.TrodAll enc Try.prog W 0 (fun _ => true) true Try.f11.params.toList args.toList ds p := hA0
  rw [Try.params11] at hA hval
  obtain ⟨v0, vs0, d0, ds0, p0, q0, hargs, rfl, rfl, h0, r0⟩ := trodAll_cons hA
  obtain ⟨rfl, rfl, rfl⟩ := trodAll_nil r0
  obtain rfl : args = #[v0] := by cases args; simp_all
  obtain ⟨rfl, rfl⟩ := trodVars_none hV
  have k0 := h0
  have lt0 : ∀ x ∈ p0, x.block < W.heap.size := by obtain ⟨m, hm⟩ := k0; exact DataW.trod_lt m _ _ _ hm
  obtain ⟨x0, w0⟩ := open_bl (hval 0 53 v0 rfl rfl) h0
  clear hA0 hval0
  refine (walk v0 x0 W w0).mono fun e W' ⟨he, bel⟩ => ?_
  subst he
  exact ⟨_, rfl, _, _, _, [], _, [], hW', trodAll_mk1 (shut_bool Try.underlying4 _), (trodAll_cons_mk (Below.trod laidOut (by kernel_rfl) (of_decide_eq_true (by kernel_rfl)) k0 bel lt0) trodAll_mk0), rfl, bel.frame _, fun h => by cases h⟩

theorem over : Rows.fnValuesWideRow.holds Try.pinned (OpenSpec.ofChange Rows.fnValuesWideSpec) :=
  OpenClaim.holds_of_wide 11 Try.f11 rfl rfl rfl rfl rfl rfl rfl ⟨rfl, rfl, rfl, rfl, rfl⟩ rfl rfl rfl rfl rfl (by kernel_rfl) Try.func11 (by kernel_rfl)
    (of_decide_eq_true (by kernel_rfl)) (by unfold Func.isWrapper; first | (rw [if_pos (by decide +kernel)]; kernel_rfl) | (rw [if_neg (by decide +kernel)]; exact ⟨rfl, rfl⟩))
    (fun os started H enc _ => lifted os started H enc)

theorem proved : Rows.FnValuesWideSaid := over
end Go.Proofs.Yteelobokjidphaa.fnValuesWide
