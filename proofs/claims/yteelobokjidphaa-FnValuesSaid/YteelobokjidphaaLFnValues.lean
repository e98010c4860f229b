/- Each row is what its kind does. No condition. -/
import Derived.Test.YteelobokjidphaaRows
import Derived.Test.YteelobokjidphaaArgs
import Derived.Test.YteelobokjidphaaDrawPlans
import Derived.Test.YteelobokjidphaaSameRow
import Derived.Test.YteelobokjidphaaValueStep
import Derived.Test.YteelobokjidphaaValuesLaw
import Derived.Test.YteelobokjidphaaMarkRows
namespace Go.Proofs.Yteelobokjidphaa.fnValues
open Go.ChangeShapes Go.WideShapes Go.ChangeAt Go.RowKit

set_option maxRecDepth 50000 in
set_option maxHeartbeats 4000000 in
theorem walk (v0 : Value) (x0 : List Int) (w : World) (w0 : BL w v0 x0) :
    Calls Try.prog 9 #[v0] w fun e w' => e = .returned (.bool true) ∧ Below w.heap.size w w' := by
  obtain ⟨a0, c0, rfl, -⟩ := id w0
  by_cases hl0 : 1048576 < x0.length
  · go_enter Try.func9, Try.ntmps9
    go_wp2_with fail
    go_ret
    exact ⟨rfl, Below.refl _ _⟩
  have hl0' : x0.length ≤ 1048576 := by omega
  clear hl0
  go_enter Try.func9, Try.ntmps9
  go_wp2_with fail
  refine (drawValues_any _ x0 w w0).mono ?_
  rintro e w1 ⟨vp, ns, rfl, hp, hsh, bt⟩
  obtain ⟨ap, cp, rfl, hpl1, hpl2⟩ := hp.shape
  unfold maxLen at hpl2
  have A := hp.pl
  have hl11 := hsh.1
  have s1 := bt.size
  clear hp w0
  go_wp2_with fail
  refine (ivalues_any _ ns _ _ A).mono ?_
  rintro e w2 ⟨vo, rfl, O, b0⟩
  have m2 := Mod.of_below b0
  replace O := O.grid.rs
  replace A := A.mod m2 (by omega)
  have s2 := m2.size
  replace bt := m2.below0 bt bt.size
  clear b0
  go_wp2_with fail
  refine (svalues_any _ ns _ _ A (by omega)).mono ?_
  rintro e w3 ⟨vw, rfl, W, b0⟩
  have m3 := Mod.of_below b0
  replace W := W.rs
  replace A := A.mod m3 (by omega)
  replace O := O.mod m3 (by omega)
  have s3 := m3.size
  replace bt := m3.below0 bt bt.size
  clear b0
  go_wp2_with fail
  refine (sameRows_m _ _ (valsR ns) _ _ _ O W).mono ?_
  rintro e w4 ⟨rfl, m4⟩
  replace A := A.mod m4 (by omega)
  replace O := O.mod m4 (by omega)
  replace W := W.mod m4 (by omega)
  have s4 := m4.size
  replace bt := m4.below0 bt bt.size
  cases hpb : planB ns
  · have HPB := hid hpb
    clear hpb
    go_wp2_with fail
    refine (sameRows_m _ _ (valsR ns) _ _ _ O W).mono ?_
    rintro e w5 ⟨rfl, m5⟩
    replace A := A.mod m5 (by omega)
    replace O := O.mod m5 (by omega)
    replace W := W.mod m5 (by omega)
    have s5 := m5.size
    replace bt := m5.below0 bt bt.size
    go_wp2_with fail
    go_ret
    exact ⟨rfl, bt⟩
  · obtain ⟨V, hV⟩ : ∃ V, V = valsN ns ns.length := ⟨_, rfl⟩
    have hVl : V.length = ns.length := by rw [hV, valsN_length]
    have hVR : valsR ns = V := by rw [hV, valsR_of hpb]
    rw [hVR] at O
    have HPB := hid hpb
    have HVR := hid hVR
    have HVL := hid hVl
    have HV := hid hV
    obtain ⟨ao, co, rfl, ho1, ho2⟩ := O.shape
    rw [hVl] at O ho1 ⊢
    obtain ⟨X, hX⟩ : ∃ X : World, X = w4 := ⟨_, rfl⟩
    rw [← hX] at O A bt ⊢
    have hrun : ∀ i, i < ns.length → ¬ (ns.getD i nd0).kind = 0 → krB (ns.getD i nd0).kind (pickR V (ns.getD i nd0).fs) = true ∧ krL (ns.getD i nd0).kind (pickR V (ns.getD i nd0).fs) = V.getD i [] := fun i hi hz => by rw [hV]; exact vals_run hpb hi hz
    have hgiv : ∀ i, i < ns.length → (ns.getD i nd0).kind = 0 → (ns.getD i nd0).row = V.getD i [] := fun i hi hz => by rw [hV]; exact vals_given hi hz
    have hprt : ∀ i, i < ns.length → ∀ q, q < (ns.getD i nd0).fs.length → 0 ≤ (ns.getD i nd0).fs.getD q 0 ∧ (ns.getD i nd0).fs.getD q 0 < (V.length : Int) := fun i hi q hq => by
      have := (node_parts hpb hi).2.1 q hq
      rw [hVl]; omega
    have hfln : ∀ i, i < ns.length → (ns.getD i nd0).fs.length ≤ 1000 := fun i hi => by
      have := (node_parts hpb hi).1
      have := knI_le (ns.getD i nd0).kind
      omega
    have HRUN := hid hrun
    have HGIV := hid hgiv
    have HPRT := hid hprt
    have HFLN := hid hfln
    obtain ⟨a9, c9, e9, -, -, hAs, hnd⟩ := id A
    simp only [Value.slice.injEq] at e9
    obtain ⟨rfl, -, rfl⟩ := e9
    obtain ⟨ay, cy, e9, -, -, hXs, hxr⟩ := id O
    simp only [Value.slice.injEq] at e9
    obtain ⟨rfl, -, rfl⟩ := e9
    rw [hVl] at hxr
    have HND := hid hnd
    have HXR := hid hxr
    have HBT := hid bt
    have HO := hid O
    clear hpb hVR hVl hV hX W hsh hxr hnd bt O A hrun hgiv hprt hfln
    go_wp2_with fail
    go_loopw [8] (fun i wr => ∃ j : Nat, j ≤ ns.length ∧ i = .int .i64 j ∧ Mod 0 0 X wr) (fun i _ => ns.length - (intOf i).toNat)
    case atStart => exact ⟨0, Nat.zero_le _, rfl, Mod.refl _ _ _⟩
    case round =>
      obtain ⟨j, hj, rfl, hm⟩ := hrel
      by_cases hlt : j < ns.length
      · obtain ⟨b, o, f, r, rfl, hb, c0, c1, c2, hf, hr⟩ := HND.out j hlt
        have hk0 := hm.block b (Nat.lt_of_lt_of_le hb hAs) (.inr (Nat.zero_le _))
        replace c0 := (World.cell?_of_block (a := ⟨b, o + j * 3, none⟩) hk0).trans c0
        replace c1 := (World.cell?_of_block (a := ⟨b, o + j * 3 + 1, none⟩) hk0).trans c1
        replace c2 := (World.cell?_of_block (a := ⟨b, o + j * 3 + 2, none⟩) hk0).trans c2
        replace hf := hf.mod hm (.inr (Nat.zero_le _))
        replace hr := hr.mod hm (.inr (Nat.zero_le _))
        have hrun := HRUN.out j hlt
        have hgiv := HGIV.out j hlt
        have hprt := HPRT.out j hlt
        have hfln := HFLN.out j hlt
        obtain ⟨bo, oo, u, rfl, hbo, hco, huo⟩ := HXR.out j hlt
        replace hco := (World.cell?_of_block (a := ⟨bo, oo + j, none⟩) (hm.block bo (Nat.lt_of_lt_of_le hbo hXs) (.inr (Nat.zero_le _)))).trans hco
        replace huo := huo.mod hm (.inr (Nat.zero_le _))
        obtain ⟨ys, hys⟩ : ∃ ys, ys = V.getD j [] := ⟨_, rfl⟩
        rw [← hys] at huo hrun hgiv
        obtain ⟨auo, cuo, rfl, -⟩ := id huo
        obtain ⟨nd, hnde⟩ : ∃ nd, nd = ns.getD j nd0 := ⟨_, rfl⟩
        rw [← hnde] at c0 hf hr hrun hgiv hprt hfln
        obtain ⟨kd, fs, row⟩ := nd
        simp only at c0 hf hr hrun hgiv hprt hfln
        obtain ⟨af, cf, rfl, -⟩ := id hf
        obtain ⟨ar, cr, rfl, -⟩ := id hr
        have j0 : (0 : Int) ≤ (j : Int) := by omega
        have j1 : (j : Int) < (ns.length : Int) := by omega
        by_cases hz : kd = 0
        · have hry := hgiv hz
          subst hz
          subst hry
          have hsr : ∀ n, Calls Try.prog 46 #[.slice auo row.length cuo, .slice ar row.length cr] (wr.drewN n) fun e w' => e = .returned (.bool true) ∧ ∃ m, w' = wr.drewN m := fun n =>
            (sameRow_self _ _ row _ (huo.mod (Mod.drewN wr n) (.inr (Nat.zero_le _))).rl (hr.mod (Mod.drewN wr n) (.inr (Nat.zero_le _))).rl).mono fun _ _ ⟨he, m, hw⟩ => ⟨he, n + m, by rw [hw, World.drewN_drewN]⟩
          have HSR := hid hsr
          clear hys hnde hk0 hsr hrun hgiv hprt hfln huo hr hf
          go_wp2_with fail
          go_quiet (first | (go_at_call 46; exact HSR.out _))
          go_wp2_with fail
          go_roundw
          case rel => exact ⟨j + 1, by omega, by go_num, hm.trans (Mod.drewN _ _)⟩
          case measure => simp [intOf]; omega
        · obtain ⟨hkb, hkl⟩ := hrun hz
          have hne : (kd == 0) = false := by simpa using hz
          have hbW : b < wr.heap.size := Nat.lt_of_lt_of_le hb (Nat.le_trans hAs hm.size)
          have hboW : bo < wr.heap.size := Nat.lt_of_lt_of_le hbo (Nat.le_trans hXs hm.size)
          have hOs : w2.heap.size ≤ wr.heap.size := by have := hm.size; omega
          have HF := hid hf
          have HR := hid (HO.out.mod hm (.inr (Nat.zero_le _)))
          have HQ := hid hprt
          have HKB := hid hkb
          have HKL := hid hkl
          have HRL := HVL
          have HUO := hid huo
          have HM := hid hm
          obtain ⟨W0, hW0⟩ : ∃ W0, W0 = wr := ⟨_, rfl⟩
          subst hW0
          clear hys hnde hk0 hrun hgiv hprt hf hr hkb hkl hz huo hm c2
          go_wp2_with fail
          go_loopw [9, 10] (fun q i wr => ∃ m : Nat, m ≤ fs.length ∧ i = .int .i64 m ∧ (∃ us : List Value, us.length = m ∧ OV wr W0.heap.size q us ∧ ∀ t, t < m → RR wr w2.heap.size (us.getD t undef) ((pickR V fs).getD t [])) ∧ Below W0.heap.size W0 wr)
            (fun _ i _ => fs.length - (intOf i).toNat)
          case atStart => exact ⟨0, Nat.zero_le _, rfl, ⟨[], rfl, OV.fresh0 W0 (Nat.le_refl _), fun t ht => by omega⟩, (Below.refl _ _).alloc (Nat.le_refl _) _⟩
          case round =>
            obtain ⟨m, hmm, rfl, ⟨us, hul, hov, hall⟩, hbel⟩ := hrel
            have mB := Mod.of_below hbel
            have d0 := (hbel.cell (p := ⟨b, o + j * 3, none⟩) hbW).trans c0
            have d1 := (hbel.cell (p := ⟨b, o + j * 3 + 1, none⟩) hbW).trans c1
            by_cases hlt2 : m < fs.length
            · obtain ⟨a8, c8, e8, -, -, -, hf3⟩ := HF.out.mod mB (.inr (Nat.zero_le _))
              simp only [Value.slice.injEq] at e8
              obtain ⟨rfl, -, rfl⟩ := e8
              obtain ⟨bf, of, e8, hbf, hcf⟩ := hf3 m hlt2
              cases e8
              obtain ⟨q0, q1⟩ := HQ.out m hlt2
              have hpg := pickR_get (rows := V) hlt2
              obtain ⟨f, hfe⟩ := Int.eq_ofNat_of_zero_le q0
              rw [hfe] at hcf q1 hpg
              rw [Int.toNat_natCast] at hpg
              obtain ⟨a7, c7, e7, -, -, hRs, hR3⟩ := HR.out.mod mB (.inr (Nat.zero_le _))
              simp only [Value.slice.injEq] at e7
              obtain ⟨rfl, -, rfl⟩ := e7
              obtain ⟨b2, o2, u, e7, hb2, hc2, hru⟩ := hR3 f (by omega)
              cases e7
              rw [← hpg] at hru
              obtain ⟨xs, hxs⟩ : ∃ xs, xs = (pickR V fs).getD m [] := ⟨_, rfl⟩
              rw [← hxs] at hru
              obtain ⟨au, cu, rfl, -⟩ := id hru
              have HXS := hid hxs
              have HALL := hid hall
              have HUL := hid hul
              have HRU := hid hru
              have hul' : us.length < 1099511627776 := by omega
              have m0 : (0 : Int) ≤ (m : Int) := by omega
              have m1 : (m : Int) < (fs.length : Int) := by omega
              have f0 : (0 : Int) ≤ (f : Int) := by omega
              have f1 : (f : Int) < (ns.length : Int) := by have := HRL.out; omega
              obtain ⟨aq, cq, rfl, -⟩ := hov.shape
              have HOV := hid hov
              have HFE := hid hfe
              have HPG := hid hpg
              have hone := hru.one
              clear hxs hall hul hru hov hfe hpg hR3 hf3 mB
              go_wp2_with (first
                | (at_builtin; refine appV rfl _ _ 34 rfl Try.underlying34 W0.heap.size _ us _ hone HOV.out (by rfl) (by rfl) hul' (Below.refl _ _) hbel.size ?_; intro v7 w7 ho7 hb7 _)
                | fail)
              go_roundw
              case rel =>
                refine ⟨m + 1, by omega, by go_num, ⟨_, by rw [List.length_append, HUL.out]; rfl, ho7, fun t ht => ?_⟩, hbel.trans hb7⟩
                have hul := HUL.out
                rw [getD_snoc]
                by_cases e : t < us.length
                · rw [if_pos e]
                  exact (HALL.out t (by omega)).below hb7 hOs
                · obtain rfl : t = m := by omega
                  rw [if_neg e, if_pos (by omega), ← HXS.out]
                  exact HRU.out.below hb7 hOs
              case measure => simp [intOf]; omega
            · obtain rfl : m = fs.length := by omega
              have hrs := hov.rs (xss := pickR V fs) (by rw [hul, pickR_length]) rfl fun i hi => (hall i (by omega)).up (Nat.le_trans hOs hbel.size) (Nat.le_refl _)
              obtain ⟨aq, cq, rfl, -⟩ := hov.shape
              rw [hul] at hrs hov ⊢
              clear hall hov hul
              have e0 := (hbel.cell (p := ⟨bo, oo + j, none⟩) hboW).trans hco
              have uo := HUO.out.mod mB (.inr (Nat.zero_le _))
              go_wp2_with fail
              refine (ikr_any kd _ _ (pickR V fs) wr hrs).mono ?_
              rintro e w5 ⟨vo5, rfl, ho5, hb5⟩
              rw [HKB.out]
              rw [HKL.out] at ho5
              have m5 := Mod.of_below hb5
              have e5 := (hb5.cell (p := ⟨bo, oo + j, none⟩) (Nat.lt_of_lt_of_le hboW hbel.size)).trans e0
              have uo5 := uo.mod m5 (.inr (Nat.zero_le _))
              go_wp2_with fail
              refine (sameRow_m _ _ ys ys _ ho5.rl uo5.rl).mono ?_
              rintro e w6 ⟨rfl, m6⟩
              rw [sameB_self]
              go_wp2_with fail
              go_roundw
              case rel => exact ⟨j + 1, by omega, by go_num, HM.out.trans (mB.trans (m5.trans m6))⟩
              case measure => simp [intOf]; omega
      · obtain rfl : j = ns.length := by omega
        go_wp2_with fail
        go_ret
        exact ⟨by simp, hm.below0 HBT.out HBT.out.size⟩

theorem own : ownKnob Try.prog.godebug = none := by kernel_rfl
theorem laidOut : laidOutB Try.prog = true := by kernel_rfl
set_option maxRecDepth 100000 in
theorem lifted (os : Os) (started : os.Started) (H : Type) (enc : TypeId × Value → H) :
    ReturnsInHanded {} Try.checked os 9 .any (Rows.fnValuesSpec.pre6 enc Try.prog Try.f9 Rows.fnValuesRow.domain false) (Rows.fnValuesSpec.post enc Try.prog Try.f9 false true false false) := by
  refine returnsInHanded_of_change (C := Try.checked) own started (by kernel_rfl) Try.func9
    (ChangeSpec.witness6 (enc := enc) (C := Try.checked) false ⟨#[], #[.slice none 0 0], []⟩ 8 (by kernel_rfl) (by kernel_rfl) (by kernel_rfl) (by kernel_rfl)) ?_
  intro W base args ds gs before hval0 hW _ _
  have hval : ∀ (j : Nat) t v, Try.f9.params[j]? = some t → args[j]? = some v → Value.okWide Try.prog W .any base t v := hval0
  have hW' := hW
  obtain ⟨p, q, hA0, hV, rfl, _, _⟩ := hW
  have hA : DataW.TrodAll enc Try.prog W 0 (fun _ => true) true Try.f9.params.toList args.toList ds p := hA0
  rw [Try.params9] at hA hval
  obtain ⟨v0, vs0, d0, ds0, p0, q0, hargs, rfl, rfl, h0, r0⟩ := trodAll_cons hA
  obtain ⟨rfl, rfl, rfl⟩ := trodAll_nil r0
  obtain rfl : args = #[v0] := by cases args; simp_all
  obtain ⟨rfl, rfl⟩ := trodVars_none hV
  have k0 := h0
  have lt0 : ∀ x ∈ p0, x.block < W.heap.size := by obtain ⟨m, hm⟩ := k0; exact DataW.trod_lt m _ _ _ hm
  obtain ⟨x0, w0⟩ := open_bl (hval 0 53 v0 rfl rfl) h0
  clear hA0 hval0
  refine (walk v0 x0 W w0).mono fun e W' ⟨he, bel⟩ => ?_
  subst he
  exact ⟨_, rfl, _, _, _, [], _, [], hW', trodAll_mk1 (shut_bool Try.underlying4 _), (trodAll_cons_mk (Below.trod laidOut (by kernel_rfl) (of_decide_eq_true (by kernel_rfl)) k0 bel lt0) trodAll_mk0), rfl, bel.frame _, fun h => by cases h⟩

theorem over : Rows.fnValuesRow.holds Try.pinned (OpenSpec.ofChange Rows.fnValuesSpec) :=
  OpenClaim.holds_of_wide 9 Try.f9 rfl rfl rfl rfl rfl rfl rfl ⟨rfl, rfl, rfl, rfl, rfl⟩ rfl rfl rfl rfl rfl (by kernel_rfl) Try.func9 (by kernel_rfl)
    (of_decide_eq_true (by kernel_rfl)) (by unfold Func.isWrapper; first | (rw [if_pos (by decide +kernel)]; kernel_rfl) | (rw [if_neg (by decide +kernel)]; exact ⟨rfl, rfl⟩))
    (fun os started H enc _ => lifted os started H enc)

theorem proved : Rows.FnValuesSaid := over
end Go.Proofs.Yteelobokjidphaa.fnValues
