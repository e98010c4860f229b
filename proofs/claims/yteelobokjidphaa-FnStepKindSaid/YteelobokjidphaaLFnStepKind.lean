/- A step does what its kind does. No condition. -/
import Derived.Test.YteelobokjidphaaRows
import Derived.Test.YteelobokjidphaaArgs
import Derived.Test.YteelobokjidphaaDrawPlans
import Derived.Test.YteelobokjidphaaSameRow
import Derived.Test.YteelobokjidphaaValueStep
import Derived.Test.YteelobokjidphaaValuesLaw
import Derived.Test.YteelobokjidphaaMarkRows
import Derived.Test.YteelobokjidphaaDrawValues
namespace Go.Proofs.Yteelobokjidphaa.fnStepKind
open Go.ChangeShapes Go.WideShapes Go.ChangeAt Go.RowKit

set_option maxRecDepth 50000 in
set_option maxHeartbeats 4000000 in
theorem walk (v0 : Value) (x0 : List Int) (w : World) (w0 : BL w v0 x0) :
    Calls Try.prog 8 #[v0] w fun e w' => e = .returned (.bool true) ∧ Below w.heap.size w w' := by
  obtain ⟨a0, c0, rfl, -⟩ := id w0
  by_cases hl0 : 1048576 < x0.length
  · go_enter Try.func8, Try.ntmps8
    go_wp2_with fail
    go_ret
    exact ⟨rfl, Below.refl _ _⟩
  have hl0' : x0.length ≤ 1048576 := by omega
  clear hl0
  go_enter Try.func8, Try.ntmps8
  go_wp2_with fail
  refine (drawStep_any _ x0 w w0).mono ?_
  rintro e w1 ⟨vp, ns, a, vr, xss, rfl, hp, hsh, D, bt⟩
  obtain ⟨ap, cp, rfl, hpl1, hpl2⟩ := hp.shape
  unfold maxLen at hpl2
  obtain ⟨ad, cd, rfl, hd1, hd2⟩ := D.shape
  have A := hp.pl
  have hl11 := hsh.1
  have s1 := bt.size
  clear hp w0
  go_wp2_with fail
  refine (istp_any _ _ ns _ _ a xss _ A D).mono ?_
  rintro e w2 ⟨vo, rfl, O, b0⟩
  have m2 := Mod.of_below b0
  replace O := O.r
  replace A := A.mod m2 (by omega)
  replace D := D.mod m2 (by omega)
  have s2 := m2.size
  replace bt := m2.below0 bt bt.size
  clear b0
  go_wp2_with fail
  refine (sstp_any _ _ ns _ _ a xss _ A D (by omega)).mono ?_
  rintro e w3 ⟨vw, rfl, W, b0⟩
  have m3 := Mod.of_below b0
  replace W := W.r
  replace A := A.mod m3 (by omega)
  replace D := D.mod m3 (by omega)
  replace O := O.mod m3 (by omega)
  have s3 := m3.size
  replace bt := m3.below0 bt bt.size
  clear b0
  go_wp2_with fail
  refine (sameRow_m _ _ _ _ _ O.rl W.rl).mono ?_
  rintro e w4 ⟨rfl, m4⟩
  replace A := A.mod m4 (by omega)
  replace D := D.mod m4 (by omega)
  replace O := O.mod m4 (by omega)
  replace W := W.mod m4 (by omega)
  have s4 := m4.size
  replace bt := m4.below0 bt bt.size
  rw [sameB_self]
  cases hsb : stpB ns a xss
  · have HSB := hid hsb
    clear hsb
    go_wp2_with fail
    refine (sameRow_m _ _ _ _ _ O.rl W.rl).mono ?_
    rintro e w5 ⟨rfl, m5⟩
    replace A := A.mod m5 (by omega)
    replace D := D.mod m5 (by omega)
    replace O := O.mod m5 (by omega)
    replace W := W.mod m5 (by omega)
    have s5 := m5.size
    replace bt := m5.below0 bt bt.size
    rw [sameB_self]
    go_wp2_with fail
    go_ret
    exact ⟨rfl, bt⟩
  · have hsb2 := hsb
    unfold stpB at hsb2
    simp only [Bool.and_eq_true, decide_eq_true_eq] at hsb2
    obtain ⟨⟨hvb, hxl⟩, hrb⟩ := hsb2
    obtain ⟨hpb, k, rfl, hk⟩ := valB_of hvb
    rw [stpR_of hsb] at O
    have hrg := rowsB_get.1 hrb
    have hok := step_ok hpb hk (rows := xss) (by omega) (fun i hi => hrg i (by omega))
    obtain ⟨p1, p2, -⟩ := node_parts hpb hk
    obtain ⟨W0, hW0⟩ : ∃ W0, W0 = w4 := ⟨_, rfl⟩
    subst hW0
    obtain ⟨a9, c9, e9, -, -, hAs, hnd⟩ := id A
    simp only [Value.slice.injEq] at e9
    obtain ⟨rfl, -, rfl⟩ := e9
    obtain ⟨b, o, f, r, rfl, hb, c0, c1, c2, hf, hr⟩ := hnd k hk
    obtain ⟨nd, hnde⟩ : ∃ nd, nd = ns.getD k nd0 := ⟨_, rfl⟩
    rw [← hnde] at c0 hf hr hok p1 p2 O
    obtain ⟨kd, fs, row⟩ := nd
    simp only at c0 hf hr hok p1 p2 O
    obtain ⟨af, cf, rfl, -⟩ := id hf
    obtain ⟨ar, cr, rfl, -⟩ := id hr
    have hfl : fs.length ≤ 1000 := by have := knI_le kd; omega
    have hq : ∀ q, q < fs.length → 0 ≤ fs.getD q 0 ∧ fs.getD q 0 < (xss.length : Int) := fun q hq => by have := p2 q hq; omega
    have j0 : (0 : Int) ≤ (k : Int) := by omega
    have j1 : (k : Int) < (ns.length : Int) := by omega
    have HXL := hid hxl
    have hWS : w1.heap.size ≤ W0.heap.size := by omega
    by_cases hz : kd = 0
    · have hst : stepL ⟨kd, fs, row⟩ xss = row := by unfold stepL; rw [if_pos hz]
      rw [hst] at O
      subst hz
      clear hsb hvb hxl hrb hpb hrg hok p1 p2 hnde hnd hq hst W hsh
      go_wp2_with fail
      refine (sameRow_m _ _ row row _ O.rl hr.rl).mono ?_
      rintro e w9 ⟨rfl, m9⟩
      rw [sameB_self]
      go_wp2_with fail
      go_ret
      exact ⟨rfl, m9.below0 bt bt.size⟩
    have hst : stepL ⟨kd, fs, row⟩ xss = krL kd (pickR xss fs) := by unfold stepL; rw [if_neg hz]
    rw [hst] at O
    have hne : (kd == 0) = false := by simpa using hz
    have hbW : b < W0.heap.size := Nat.lt_of_lt_of_le hb hAs
    have HF := hid hf
    have HR := hid D
    have HQ := hid hq
    have HKB := hid (hok.2.2 hz)
    have HRL : Hid (xss.length = xss.length) := hid rfl
    have HO := hid O
    have HBT := hid bt
    clear hsb hvb hxl hrb hpb hrg hok p1 p2 hnde hnd hq hst W hsh hf hr hz c2 O bt D A
    go_wp2_with fail
    go_loopw [10, 11] (fun q i wr => ∃ m : Nat, m ≤ fs.length ∧ i = .int .i64 m ∧ (∃ us : List Value, us.length = m ∧ OV wr W0.heap.size q us ∧ ∀ t, t < m → RR wr w1.heap.size (us.getD t undef) ((pickR xss fs).getD t [])) ∧ Below W0.heap.size W0 wr)
      (fun _ i _ => fs.length - (intOf i).toNat)
    case atStart => exact ⟨0, Nat.zero_le _, rfl, ⟨[], rfl, OV.fresh0 W0 (Nat.le_refl _), fun t ht => by omega⟩, (Below.refl _ _).alloc (Nat.le_refl _) _⟩
    case round =>
      obtain ⟨m, hmm, rfl, ⟨us, hul, hov, hall⟩, hbel⟩ := hrel
      have mB := Mod.of_below hbel
      have d0 := (hbel.cell (p := ⟨b, o + k * 3, none⟩) hbW).trans c0
      have d1 := (hbel.cell (p := ⟨b, o + k * 3 + 1, none⟩) hbW).trans c1
      by_cases hlt2 : m < fs.length
      · obtain ⟨a8, c8, e8, -, -, -, hf3⟩ := HF.out.mod mB (.inr (Nat.zero_le _))
        simp only [Value.slice.injEq] at e8
        obtain ⟨rfl, -, rfl⟩ := e8
        obtain ⟨bf, of, e8, hbf, hcf⟩ := hf3 m hlt2
        cases e8
        obtain ⟨q0, q1⟩ := HQ.out m hlt2
        have hpg := pickR_get (rows := xss) hlt2
        obtain ⟨f, hfe⟩ := Int.eq_ofNat_of_zero_le q0
        rw [hfe] at hcf q1 hpg
        rw [Int.toNat_natCast] at hpg
        obtain ⟨a7, c7, e7, -, -, hRs, hR3⟩ := HR.out.mod mB (.inr (Nat.zero_le _))
        simp only [Value.slice.injEq] at e7
        obtain ⟨rfl, -, rfl⟩ := e7
        obtain ⟨b2, o2, u, e7, hb2, hc2, hru⟩ := hR3 f (by omega)
        cases e7
        rw [← hpg] at hru
        obtain ⟨xs, hxs⟩ : ∃ xs, xs = (pickR xss fs).getD m [] := ⟨_, rfl⟩
        rw [← hxs] at hru
        obtain ⟨au, cu, rfl, -⟩ := id hru
        have HXS := hid hxs
        have HALL := hid hall
        have HUL := hid hul
        have HRU := hid hru
        have hul' : us.length < 1099511627776 := by omega
        have m0 : (0 : Int) ≤ (m : Int) := by omega
        have m1 : (m : Int) < (fs.length : Int) := by omega
        have f0 : (0 : Int) ≤ (f : Int) := by omega
        have f1 : (f : Int) < (xss.length : Int) := by have := HRL.out; omega
        obtain ⟨aq, cq, rfl, -⟩ := hov.shape
        have HOV := hid hov
        have HFE := hid hfe
        have HPG := hid hpg
        have hone := hru.one
        clear hxs hall hul hru hov hfe hpg hR3 hf3 mB
        go_wp2_with (first
          | (at_builtin; refine appV rfl _ _ 34 rfl Try.underlying34 W0.heap.size _ us _ hone HOV.out (by rfl) (by rfl) hul' (Below.refl _ _) hbel.size ?_; intro v7 w7 ho7 hb7 _)
          | fail)
        go_roundw
        case rel =>
          refine ⟨m + 1, by omega, by go_num, ⟨_, by rw [List.length_append, HUL.out]; rfl, ho7, fun t ht => ?_⟩, hbel.trans hb7⟩
          have hul := HUL.out
          rw [getD_snoc]
          by_cases e : t < us.length
          · rw [if_pos e]
            exact (HALL.out t (by omega)).below hb7 hWS
          · obtain rfl : t = m := by omega
            rw [if_neg e, if_pos (by omega), ← HXS.out]
            exact HRU.out.below hb7 hWS
        case measure => simp [intOf]; omega
      · obtain rfl : m = fs.length := by omega
        have hrs := hov.rs (xss := pickR xss fs) (by rw [hul, pickR_length]) rfl fun i hi => (hall i (by omega)).up (Nat.le_trans hWS hbel.size) (Nat.le_refl _)
        obtain ⟨aq, cq, rfl, -⟩ := hov.shape
        rw [hul] at hrs hov ⊢
        clear hall hov hul
        have O5 := HO.out.mod mB (by omega)
        go_wp2_with fail
        refine (ikr_any kd _ _ (pickR xss fs) wr hrs).mono ?_
        rintro e w5 ⟨vo5, rfl, ho5, hb5⟩
        rw [HKB.out]
        have m5 := Mod.of_below hb5
        replace O5 := O5.mod m5 (by omega)
        go_wp2_with fail
        refine (sameRow_m _ _ _ _ _ ho5.rl O5.rl).mono ?_
        rintro e w6 ⟨rfl, m6⟩
        rw [sameB_self]
        go_wp2_with fail
        go_ret
        exact ⟨rfl, (mB.trans (m5.trans m6)).below0 HBT.out HBT.out.size⟩

theorem own : ownKnob Try.prog.godebug = none := by kernel_rfl
theorem laidOut : laidOutB Try.prog = true := by kernel_rfl
set_option maxRecDepth 100000 in
theorem lifted (os : Os) (started : os.Started) (H : Type) (enc : TypeId × Value → H) :
    ReturnsInHanded {} Try.checked os 8 .any (Rows.fnStepKindSpec.pre6 enc Try.prog Try.f8 Rows.fnStepKindRow.domain false) (Rows.fnStepKindSpec.post enc Try.prog Try.f8 false true false false) := by
  refine returnsInHanded_of_change (C := Try.checked) own started (by kernel_rfl) Try.func8
    (ChangeSpec.witness6 (enc := enc) (C := Try.checked) false ⟨#[], #[.slice none 0 0], []⟩ 8 (by kernel_rfl) (by kernel_rfl) (by kernel_rfl) (by kernel_rfl)) ?_
  intro W base args ds gs before hval0 hW _ _
  have hval : ∀ (j : Nat) t v, Try.f8.params[j]? = some t → args[j]? = some v → Value.okWide Try.prog W .any base t v := hval0
  have hW' := hW
  obtain ⟨p, q, hA0, hV, rfl, _, _⟩ := hW
  have hA : DataW.TrodAll enc Try.prog W 0 (fun _ => true) true Try.f8.params.toList args.toList ds p := hA0
  rw [Try.params8] at hA hval
  obtain ⟨v0, vs0, d0, ds0, p0, q0, hargs, rfl, rfl, h0, r0⟩ := trodAll_cons hA
  obtain ⟨rfl, rfl, rfl⟩ := trodAll_nil r0
  obtain rfl : args = #[v0] := by cases args; simp_all
  obtain ⟨rfl, rfl⟩ := trodVars_none hV
  have k0 := h0
  have lt0 : ∀ x ∈ p0, x.block < W.heap.size := by obtain ⟨m, hm⟩ := k0; exact DataW.trod_lt m _ _ _ hm
  obtain ⟨x0, w0⟩ := open_bl (hval 0 53 v0 rfl rfl) h0
  clear hA0 hval0
  refine (walk v0 x0 W w0).mono fun e W' ⟨he, bel⟩ => ?_
  subst he
  exact ⟨_, rfl, _, _, _, [], _, [], hW', trodAll_mk1 (shut_bool Try.underlying4 _), (trodAll_cons_mk (Below.trod laidOut (by kernel_rfl) (of_decide_eq_true (by kernel_rfl)) k0 bel lt0) trodAll_mk0), rfl, bel.frame _, fun h => by cases h⟩

theorem over : Rows.fnStepKindRow.holds Try.pinned (OpenSpec.ofChange Rows.fnStepKindSpec) :=
  OpenClaim.holds_of_wide 8 Try.f8 rfl rfl rfl rfl rfl rfl rfl ⟨rfl, rfl, rfl, rfl, rfl⟩ rfl rfl rfl rfl rfl (by kernel_rfl) Try.func8 (by kernel_rfl)
    (of_decide_eq_true (by kernel_rfl)) (by unfold Func.isWrapper; first | (rw [if_pos (by decide +kernel)]; kernel_rfl) | (rw [if_neg (by decide +kernel)]; exact ⟨rfl, rfl⟩))
    (fun os started H enc _ => lifted os started H enc)

theorem proved : Rows.FnStepKindSaid := over
end Go.Proofs.Yteelobokjidphaa.fnStepKind
