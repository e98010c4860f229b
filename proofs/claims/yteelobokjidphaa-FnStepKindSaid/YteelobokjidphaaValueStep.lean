/- The step from given rows: the program and the reference. No condition. -/
import Derived.Test.YteelobokjidphaaValueOne
namespace Go.Proofs.Yteelobokjidphaa
open Go.RowKit
set_option maxRecDepth 100000

theorem stp_no {ns : List Nd} {a : Int} {xss : List (List Int)} (h : stpB ns a xss = false) : stpR ns a xss = [] := by unfold stpR; rw [h]; rfl
theorem stpB_val {ns : List Nd} {a : Int} {xss : List (List Int)} (h : valB ns a = false) : stpB ns a xss = false := by unfold stpB; rw [h]; rfl
theorem stpB_len {ns : List Nd} {a : Int} {xss : List (List Int)} (h : ¬ (xss.length : Int) = a) : stpB ns a xss = false := by
  unfold stpB; rw [decide_eq_false h, Bool.and_false]; rfl
theorem stpB_rows {ns : List Nd} {a : Int} {xss : List (List Int)} (h : valB ns a = true) (hl : (xss.length : Int) = a) : stpB ns a xss = rowsB (wideF ns) xss := by
  unfold stpB; rw [h, decide_eq_true hl]; rfl
theorem stpR_of {ns : List Nd} {k : Nat} {xss : List (List Int)} (h : stpB ns (k : Int) xss = true) : stpR ns (k : Int) xss = stepL (ns.getD k nd0) xss := by
  unfold stpR; rw [if_pos h, Int.toNat_natCast]

set_option maxHeartbeats 4000000 in
theorem sstp_any (v v2 : Value) (ns : List Nd) (hi hi2 : Nat) (a : Int) (xss : List (List Int)) (w : World) (h : PL w hi v ns) (h' : RS w hi2 v2 xss) (hlen : ns.length ≤ 1099511627776) :
    Calls Try.prog 32 #[v, .int .i64 a, v2] w (PostIB w (stpR ns a xss) (stpB ns a xss)) := by
  obtain ⟨ad, c, rfl, h1, h2, hsz, hnd⟩ := id h
  obtain ⟨ar, cr, rfl, h1', h2', hsz', hrw⟩ := id h'
  unfold maxLen at h2 h2'
  have e1 : IntKind.i64.wrap ((ns.length : Int) - 1) = (ns.length : Int) - 1 := IntWalk.i64_in _ (by omega)
  cases hpb : planB ns
  · rw [stp_no (stpB_val (valB_no hpb)), stpB_val (valB_no hpb)]
    have HPB := hid hpb
    clear hpb hnd hrw
    go_enter Try.func32, Try.ntmps32
    go_wp2_with fail
    refine (splan_any _ ns hi w h hlen).mono ?_
    rintro e w2 ⟨rfl, m2⟩
    rw [HPB.out]
    go_wp2_with fail
    go_ret2
    exact ⟨_, rfl, OI.fresh0 w2 m2.size, (m2.below0 (Below.refl _ _) (Nat.le_refl _)).alloc m2.size _⟩
  · have hin := valB_l6 (a := a) hpb
    cases hvb : valB ns a
    · rw [stp_no (stpB_val hvb), stpB_val hvb]
      have HPB := hid hpb
      rw [hvb] at hin
      have HIN := hid hin
      clear hpb hvb hin hnd hrw
      go_enter Try.func32, Try.ntmps32
      go_wp2_with fail
      refine (splan_any _ ns hi w h hlen).mono ?_
      rintro e w2 ⟨rfl, m2⟩
      rw [HPB.out]
      go_wp2_with fail
      refine (l6In_any a 0 ((ns.length : Int) - 1) w2).mono ?_
      rintro e _ ⟨rfl, rfl⟩
      rw [HIN.out]
      go_wp2_with fail
      go_ret2
      exact ⟨_, rfl, OI.fresh0 w2 m2.size, (m2.below0 (Below.refl _ _) (Nat.le_refl _)).alloc m2.size _⟩
    · obtain ⟨-, k, rfl, hk⟩ := valB_of hvb
      rw [hvb] at hin
      have HIN := hid hin
      by_cases hlk : (xss.length : Int) = (k : Int)
      · obtain ⟨K, hK⟩ : ∃ K, K = stpB ns (k : Int) xss := ⟨_, rfl⟩
        obtain ⟨O, hO⟩ : ∃ O, O = stpR ns (k : Int) xss := ⟨_, rfl⟩
        rw [← hK, ← hO]
        have hyes : rowsB (wideF ns) xss = true → K = true ∧ O = stepL (ns.getD k nd0) xss := fun hr => by
          have : stpB ns (k : Int) xss = true := by rw [stpB_rows hvb hlk, hr]
          exact ⟨by rw [hK, this], by rw [hO, stpR_of this]⟩
        have hno : rowsB (wideF ns) xss = false → K = false ∧ O = [] := fun hr => by
          have : stpB ns (k : Int) xss = false := by rw [stpB_rows hvb hlk, hr]
          exact ⟨by rw [hK, this], by rw [hO, stp_no this]⟩
        have HYES := hid hyes
        have HNO := hid hno
        have HPB := hid hpb
        have HRW := hid hrw
        obtain ⟨b, o, f, r, rfl, hb, c0, c1, c2, hf, hr⟩ := hnd k hk
        obtain ⟨p1, p2, -⟩ := node_parts hpb hk
        have hrl := rvB_len (node_row hpb hk)
        obtain ⟨nd, hnde⟩ : ∃ nd, nd = ns.getD k nd0 := ⟨_, rfl⟩
        rw [← hnde] at c0 hf hr p1 p2 hrl HYES
        obtain ⟨kd, fs, row⟩ := nd
        simp only at c0 hf hr p1 p2 hrl
        obtain ⟨af, cf, rfl, -⟩ := id hf
        obtain ⟨ar2, cr2, rfl, -⟩ := id hr
        have hfl : fs.length ≤ 1000 := by have := knI_le kd; omega
        have hfs : ¬ kd = 0 → ∀ q, q < fs.length → 0 ≤ fs.getD q 0 ∧ fs.getD q 0 < xss.length := fun _ q hq => by
          have := p2 q hq
          rw [hlk]
          exact this
        have HFS := hid hfs
        have hnk : ((xss.length : Int) != (k : Int)) = false := by simp [hlk]
        have k0 : (0 : Int) ≤ (k : Int) := by omega
        have k1 : (k : Int) < (ns.length : Int) := by omega
        have HLK := hid hlk
        clear hpb hvb hin hK hO hyes hno hnd hrw hfs p1 p2 hnde hlk
        go_enter Try.func32, Try.ntmps32
        go_wp2_with fail
        refine (splan_any _ ns hi w h hlen).mono ?_
        rintro e w2 ⟨rfl, m2⟩
        rw [HPB.out]
        go_wp2_with fail
        refine (l6In_any (k : Int) 0 ((ns.length : Int) - 1) w2).mono ?_
        rintro e _ ⟨rfl, rfl⟩
        rw [HIN.out]
        go_wp2_with fail
        go_loopw [8] (fun i wr => ∃ j : Nat, j ≤ xss.length ∧ i = .int .i64 j ∧ (∀ q, q < j → rvB (xss.getD q []) = true ∧ ((xss.getD q []).length : Int) = wideF ns) ∧ Mod 0 0 w wr) (fun i _ => xss.length - (intOf i).toNat)
        case atStart => exact ⟨0, Nat.zero_le _, rfl, fun q hq => by omega, m2⟩
        case round =>
          clear m2
          obtain ⟨j, hj, rfl, hall, hm⟩ := hrel
          by_cases hlt : j < xss.length
          · obtain ⟨b2, o2, u, rfl, hb2, hc2, hru⟩ := HRW.out j hlt
            replace hc2 := (World.cell?_of_block (a := ⟨b2, o2 + j, none⟩) (hm.block b2 (Nat.lt_of_lt_of_le hb2 hsz') (.inr (Nat.zero_le _)))).trans hc2
            have hru2 := (hru.mod hm (.inr (Nat.zero_le _))).rl
            have hpl := h.mod hm (.inr (Nat.zero_le _))
            obtain ⟨xs, hxs⟩ : ∃ xs, xs = xss.getD j [] := ⟨_, rfl⟩
            rw [← hxs] at hru2
            obtain ⟨au, cu, rfl, -⟩ := id hru2
            have HXS := hid hxs
            have HALL := hid hall
            have j0 : (0 : Int) ≤ (j : Int) := by omega
            have j1 : (j : Int) < (xss.length : Int) := by omega
            have HW : Hid (∃ wd, wd = wideF ns) := hid ⟨_, rfl⟩
            obtain ⟨wd, hwd⟩ := HW.out
            have HWD := hid hwd
            have hsw : ∀ n, Calls Try.prog 67 #[.slice (some ⟨b, o, none⟩) ns.length c] (wr.drewN n) fun e w' => e = .returned (.int .i64 wd) ∧ wr.drewN n = w' := fun n => by
              rw [hwd]; exact swide_any _ ns hi _ (hpl.mod (Mod.drewN wr n) (.inr (Nat.zero_le _)))
            have hsr : ∀ n, RL (wr.drewN n) (.slice au xs.length cu) xs := fun n => hru2.mono0 (Mod.drewN wr n)
            have HSW := hid hsw
            have HSR := hid hsr
            clear hxs hall hru hwd hsw hsr HW
            cases hrv : rvB xs
            · have hbad := rowsB_false (wide := wideF ns) hlt (by rw [← HXS.out, hrv]; simp)
              obtain ⟨eK, eO⟩ := HNO.out hbad
              subst eK
              subst eO
              have HRV := hid hrv
              have hrc : ∀ n, Calls Try.prog 66 #[.slice au xs.length cu] (wr.drewN n) fun e w' => e = .returned (.bool false) ∧ wr.drewN n = w' := fun n => by rw [← hrv]; exact srv_any _ xs _ (HSR.out n)
              have HRC := hid hrc
              clear hrv hbad hrc
              go_wp2_with fail
              go_quiet (first | (go_at_call 66; exact quiet_r (HRC.out _)))
              go_wp2_with fail
              go_ret2
              exact ⟨_, rfl, OI.fresh0 _ (by exact hm.size), ((hm.trans (Mod.drewN _ _)).below0 (Below.refl _ _) (Nat.le_refl _)).alloc (by exact hm.size) _⟩
            · have hrc : ∀ n, Calls Try.prog 66 #[.slice au xs.length cu] (wr.drewN n) fun e w' => e = .returned (.bool true) ∧ wr.drewN n = w' := fun n => by rw [← hrv]; exact srv_any _ xs _ (HSR.out n)
              have HRC := hid hrc
              clear hrc
              by_cases hwl : (xs.length : Int) = wd
              · have hne : ((xs.length : Int) != wd) = false := by simp [hwl]
                have HRV := hid hrv
                have HWL := hid hwl
                clear hrv hwl
                go_wp2_with fail
                go_quiet (first | (go_at_call 66; exact quiet_r (HRC.out _)) | (go_at_call 67; exact quiet_r (HSW.out _)))
                go_wp2_with fail
                go_roundw
                case rel =>
                  refine ⟨j + 1, by omega, by go_num, fun q hq => ?_, hm.trans (Mod.drewN _ _)⟩
                  by_cases e : q = j
                  · subst e; rw [← HXS.out]; exact ⟨HRV.out, HWL.out.trans HWD.out⟩
                  · exact HALL.out q (by omega)
                case measure => simp [intOf]; omega
              · have hne : ((xs.length : Int) != wd) = true := by simpa using hwl
                have hbad := rowsB_false (wide := wideF ns) hlt (by rw [← HXS.out, ← HWD.out]; exact fun h => hwl h.2)
                obtain ⟨eK, eO⟩ := HNO.out hbad
                subst eK
                subst eO
                have HRV := hid hrv
                clear hrv hbad hwl
                go_wp2_with fail
                go_quiet (first | (go_at_call 66; exact quiet_r (HRC.out _)) | (go_at_call 67; exact quiet_r (HSW.out _)))
                go_wp2_with fail
                go_ret2
                exact ⟨_, rfl, OI.fresh0 _ (by exact hm.size), ((hm.trans (Mod.drewN _ _)).below0 (Below.refl _ _) (Nat.le_refl _)).alloc (by exact hm.size) _⟩
          · obtain rfl : j = xss.length := by omega
            obtain ⟨eK, eO⟩ := HYES.out (rowsB_get.2 hall)
            subst eK
            subst eO
            have hk0 := hm.block b (Nat.lt_of_lt_of_le hb hsz) (.inr (Nat.zero_le _))
            replace c0 := (World.cell?_of_block (a := ⟨b, o + k * 3, none⟩) hk0).trans c0
            replace c1 := (World.cell?_of_block (a := ⟨b, o + k * 3 + 1, none⟩) hk0).trans c1
            replace c2 := (World.cell?_of_block (a := ⟨b, o + k * 3 + 2, none⟩) hk0).trans c2
            have hfm := (hf.mod hm (.inr (Nat.zero_le _))).rl
            have hrm := (hr.mod hm (.inr (Nat.zero_le _))).rl
            have hxm := h'.mod hm (.inr (Nat.zero_le _))
            have HALL := hid hall
            clear hall hk0
            go_wp2_with fail
            refine (sstep_any kd _ _ _ fs row hi2 xss wr hfm hrm hxm hfl (by omega) HFS.out).mono ?_
            rintro e w5 ⟨vo, rfl, ho, hb5⟩
            go_wp2_with fail
            go_ret2
            exact ⟨_, rfl, ho.base hm.size, (hm.below0 (Below.refl _ _) (Nat.le_refl _)).trans (hb5.mono hm.size)⟩
      · rw [stp_no (stpB_len hlk), stpB_len hlk]
        have HPB := hid hpb
        have hnk : ((xss.length : Int) != (k : Int)) = true := by simpa using hlk
        clear hpb hvb hin hnd hrw hlk
        go_enter Try.func32, Try.ntmps32
        go_wp2_with fail
        refine (splan_any _ ns hi w h hlen).mono ?_
        rintro e w2 ⟨rfl, m2⟩
        rw [HPB.out]
        go_wp2_with fail
        refine (l6In_any (k : Int) 0 ((ns.length : Int) - 1) w2).mono ?_
        rintro e _ ⟨rfl, rfl⟩
        rw [HIN.out]
        go_wp2_with fail
        go_ret2
        exact ⟨_, rfl, OI.fresh0 w2 m2.size, (m2.below0 (Below.refl _ _) (Nat.le_refl _)).alloc m2.size _⟩

set_option maxHeartbeats 4000000 in
theorem istp_any (v v2 : Value) (ns : List Nd) (hi hi2 : Nat) (a : Int) (xss : List (List Int)) (w : World) (h : PL w hi v ns) (h' : RS w hi2 v2 xss) :
    Calls Try.prog 34 #[v, .int .i64 a, v2] w (PostIB w (stpR ns a xss) (stpB ns a xss)) := by
  obtain ⟨ad, c, rfl, h1, h2, hsz, hnd⟩ := id h
  obtain ⟨ar, cr, rfl, h1', h2', hsz', hrw⟩ := id h'
  unfold maxLen at h2 h2'
  cases hpb : planB ns
  · rw [stp_no (stpB_val (valB_no hpb)), stpB_val (valB_no hpb)]
    have HPB := hid hpb
    clear hpb hnd hrw
    go_enter Try.func34, Try.ntmps34
    go_wp2_with fail
    refine (iplan_any _ ns hi w h).mono ?_
    rintro e w2 ⟨rfl, m2⟩
    rw [HPB.out]
    go_wp2_with fail
    go_ret2
    exact ⟨_, rfl, OI.nil _ _, m2.below0 (Below.refl _ _) (Nat.le_refl _)⟩
  · have hin := valB_in (a := a) hpb
    cases hvb : valB ns a
    · rw [stp_no (stpB_val hvb), stpB_val hvb]
      have HPB := hid hpb
      rw [hvb] at hin
      have HIN := hid hin
      clear hpb hvb hin hnd hrw
      go_enter Try.func34, Try.ntmps34
      go_wp2_with fail
      refine (iplan_any _ ns hi w h).mono ?_
      rintro e w2 ⟨rfl, m2⟩
      rw [HPB.out]
      go_wp2_with fail
      refine (isNode_any ad ns.length c a w2).mono ?_
      rintro e _ ⟨rfl, rfl⟩
      rw [← HIN.out]
      go_wp2_with fail
      go_ret2
      exact ⟨_, rfl, OI.nil _ _, m2.below0 (Below.refl _ _) (Nat.le_refl _)⟩
    · obtain ⟨-, k, rfl, hk⟩ := valB_of hvb
      rw [hvb] at hin
      have HIN := hid hin
      by_cases hlk : (xss.length : Int) = (k : Int)
      · obtain ⟨K, hK⟩ : ∃ K, K = stpB ns (k : Int) xss := ⟨_, rfl⟩
        obtain ⟨O, hO⟩ : ∃ O, O = stpR ns (k : Int) xss := ⟨_, rfl⟩
        rw [← hK, ← hO]
        have hyes : rowsB (wideF ns) xss = true → K = true ∧ O = stepL (ns.getD k nd0) xss ∧ (¬ (ns.getD k nd0).kind = 0 → krB (ns.getD k nd0).kind (pickR xss (ns.getD k nd0).fs) = true) := fun hr => by
          have : stpB ns (k : Int) xss = true := by rw [stpB_rows hvb hlk, hr]
          have hrg := rowsB_get.1 hr
          have ok := step_ok hpb hk (rows := xss) (by omega) (fun i hi => hrg i (by omega))
          exact ⟨by rw [hK, this], by rw [hO, stpR_of this], ok.2.2⟩
        have hno : rowsB (wideF ns) xss = false → K = false ∧ O = [] := fun hr => by
          have : stpB ns (k : Int) xss = false := by rw [stpB_rows hvb hlk, hr]
          exact ⟨by rw [hK, this], by rw [hO, stp_no this]⟩
        have HYES := hid hyes
        have HNO := hid hno
        have HPB := hid hpb
        have HRW := hid hrw
        have hl0 : 0 < ns.length := by omega
        have hfw := first_wide hpb hl0
        obtain ⟨b, o, f0, r0, rfl, hb, -, -, d2, -, hr0⟩ := hnd 0 hl0
        obtain ⟨b', o', f, r, e', -, c0, c1, c2, hf, hr⟩ := hnd k hk
        simp only [Option.some.injEq, Addr.mk.injEq, and_true] at e'
        obtain ⟨rfl, rfl⟩ := e'
        obtain ⟨p1, p2, -⟩ := node_parts hpb hk
        have hrl := rvB_len (node_row hpb hk)
        obtain ⟨nd, hnde⟩ : ∃ nd, nd = ns.getD k nd0 := ⟨_, rfl⟩
        rw [← hnde] at c0 hf hr p1 p2 hrl HYES
        obtain ⟨kd, fs, row⟩ := nd
        simp only at c0 hf hr p1 p2 hrl HYES
        obtain ⟨row0, hrow0⟩ : ∃ row0, row0 = (ns.getD 0 nd0).row := ⟨_, rfl⟩
        rw [← hrow0] at hr0 hfw
        obtain ⟨af, cf, rfl, hf1, hf2, hf4, hf3⟩ := id hf
        unfold maxLen at hf2
        obtain ⟨ar2, cr2, rfl, -⟩ := id hr
        obtain ⟨ar0, cr0, rfl, -⟩ := id hr0
        simp only [Nat.zero_mul, Nat.add_zero] at d2
        have hfl : fs.length ≤ 1000 := by have := knI_le kd; omega
        have hfs : ¬ kd = 0 → ∀ q, q < fs.length → 0 ≤ fs.getD q 0 ∧ fs.getD q 0 < xss.length := fun _ q hq => by
          have := p2 q hq
          rw [hlk]
          exact this
        have HFS := hid hfs
        have HF3 := hid hf3
        have HFW := hid hfw
        have hnk : ((xss.length : Int) != (k : Int)) = false := by simp [hlk]
        have k0 : (0 : Int) ≤ (k : Int) := by omega
        have k1 : (k : Int) < (ns.length : Int) := by omega
        have l01 : (0 : Int) < (ns.length : Int) := by omega
        have HLK := hid hlk
        clear hpb hvb hin hK hO hyes hno hnd hrw hfs p1 p2 hnde hlk hrow0 hfw hf3
        go_enter Try.func34, Try.ntmps34
        go_wp2_with fail
        refine (iplan_any _ ns hi w h).mono ?_
        rintro e w2 ⟨rfl, m2⟩
        rw [HPB.out]
        have e2 := (World.cell?_of_block (a := ⟨b, o + 2, none⟩) (m2.block b (Nat.lt_of_lt_of_le hb hsz) (.inr (Nat.zero_le _)))).trans d2
        go_wp2_with fail
        refine (isNode_any (some ⟨b, o, none⟩) ns.length c k w2).mono ?_
        rintro e _ ⟨rfl, rfl⟩
        rw [← HIN.out]
        go_wp2_with fail
        go_loopw [37] (fun i wr => ∃ j : Nat, j ≤ xss.length ∧ i = .int .i64 j ∧ (∀ q, q < j → rvB (xss.getD q []) = true ∧ ((xss.getD q []).length : Int) = wideF ns) ∧ Mod 0 0 w wr) (fun i _ => xss.length - (intOf i).toNat)
        case atStart => exact ⟨0, Nat.zero_le _, rfl, fun q hq => by omega, m2⟩
        case round =>
          clear m2 e2 d2
          obtain ⟨j, hj, rfl, hall, hm⟩ := hrel
          by_cases hlt : j < xss.length
          · obtain ⟨b2, o2, u, rfl, hb2, hc2, hru⟩ := HRW.out j hlt
            replace hc2 := (World.cell?_of_block (a := ⟨b2, o2 + j, none⟩) (hm.block b2 (Nat.lt_of_lt_of_le hb2 hsz') (.inr (Nat.zero_le _)))).trans hc2
            have hru2 := (hru.mod hm (.inr (Nat.zero_le _))).rl
            obtain ⟨xs, hxs⟩ : ∃ xs, xs = xss.getD j [] := ⟨_, rfl⟩
            rw [← hxs] at hru2
            obtain ⟨au, cu, rfl, -⟩ := id hru2
            have HXS := hid hxs
            have HALL := hid hall
            clear hxs hall hru
            cases hrv : rvB xs
            · have hbad := rowsB_false (wide := wideF ns) hlt (by rw [← HXS.out, hrv]; simp)
              obtain ⟨eK, eO⟩ := HNO.out hbad
              subst eK
              subst eO
              have HRV := hid hrv
              clear hrv hbad
              go_wp2_with fail
              refine (irv_any _ xs _ hru2).mono ?_
              rintro e _ ⟨rfl, rfl⟩
              rw [HRV.out]
              go_wp2_with fail
              go_ret2
              exact ⟨_, rfl, OI.nil _ _, hm.below0 (Below.refl _ _) (Nat.le_refl _)⟩
            · by_cases hwl : (xs.length : Int) = (row0.length : Int)
              · have hne : ((xs.length : Int) != (row0.length : Int)) = false := by simp [hwl]
                have HRV := hid hrv
                have HWL := hid hwl
                clear hrv hwl
                go_wp2_with fail
                refine (irv_any _ xs _ hru2).mono ?_
                rintro e _ ⟨rfl, rfl⟩
                rw [HRV.out]
                go_wp2_with fail
                go_roundw
                case rel =>
                  refine ⟨j + 1, by omega, by go_num, fun q hq => ?_, hm⟩
                  by_cases e : q = j
                  · subst e; rw [← HXS.out]; exact ⟨HRV.out, HWL.out.trans HFW.out⟩
                  · exact HALL.out q (by omega)
                case measure => simp [intOf]; omega
              · have hne : ((xs.length : Int) != (row0.length : Int)) = true := by simpa using hwl
                have hbad := rowsB_false (wide := wideF ns) hlt (by rw [← HXS.out, ← HFW.out]; exact fun h => hwl h.2)
                obtain ⟨eK, eO⟩ := HNO.out hbad
                subst eK
                subst eO
                have HRV := hid hrv
                clear hrv hbad hwl
                go_wp2_with fail
                refine (irv_any _ xs _ hru2).mono ?_
                rintro e _ ⟨rfl, rfl⟩
                rw [HRV.out]
                go_wp2_with fail
                go_ret2
                exact ⟨_, rfl, OI.nil _ _, hm.below0 (Below.refl _ _) (Nat.le_refl _)⟩
          · obtain rfl : j = xss.length := by omega
            obtain ⟨W0, hW0⟩ : ∃ W0, W0 = wr := ⟨_, rfl⟩
            subst hW0
            obtain ⟨eK, eO, eR⟩ := HYES.out (rowsB_get.2 hall)
            subst eK
            subst eO
            have hk0 := hm.block b (Nat.lt_of_lt_of_le hb hsz) (.inr (Nat.zero_le _))
            replace c0 := (World.cell?_of_block (a := ⟨b, o + k * 3, none⟩) hk0).trans c0
            replace c1 := (World.cell?_of_block (a := ⟨b, o + k * 3 + 1, none⟩) hk0).trans c1
            replace c2 := (World.cell?_of_block (a := ⟨b, o + k * 3 + 2, none⟩) hk0).trans c2
            have mX := Mod.alloc W0 (.cells #[.int .i64 kd, .slice af fs.length cf, .slice ar2 row.length cr2] 48)
            have hmX := hm.trans mX
            have bX := hmX.below0 (Below.refl w.heap.size w) (Nat.le_refl _)
            have x0 := heap_alloc_new W0 (.cells #[.int .i64 kd, .slice af fs.length cf, .slice ar2 row.length cr2] 48)
            have hrX := (hr.mod hmX (.inr (Nat.zero_le _))).rl
            have hws := hm.size
            have HALL := hid hall
            clear hall hk0 mX
            by_cases hz : kd = 0
            · have hst : stepL ⟨kd, fs, row⟩ xss = row := by unfold stepL; rw [if_pos hz]
              subst hz
              have HST := hid hst
              clear hst eR
              go_wp2_with fail
              refine (copyInts_any _ row _ hrX (by omega)).mono ?_
              rintro e w5 ⟨vo, rfl, ho, hb5⟩
              go_wp2_with fail
              go_ret2
              exact ⟨_, rfl, by rw [HST.out]; exact ho.base bX.size, bX.trans (hb5.mono bX.size)⟩
            · have hst : stepL ⟨kd, fs, row⟩ xss = krL kd (pickR xss fs) := by unfold stepL; rw [if_neg hz]
              have HST := hid hst
              have hne : (kd == 0) = false := by simpa using hz
              have HR := hid (eR hz)
              have HFZ := hid (HFS.out hz)
              obtain ⟨X, hX⟩ : ∃ X, X = W0.alloc (.cells #[.int .i64 kd, .slice af fs.length cf, .slice ar2 row.length cr2] 48) := ⟨_, rfl⟩
              have l0 : X.heap.size = W0.heap.size + 1 := by rw [hX, World.size_alloc]
              rw [← hX] at bX x0 hmX
              have HX := hid hX
              clear hst hz eR hX hrX
              go_wp2_with (first
                | (at_make; rw [← HX.out]; refine mkV rfl _ _ 34 rfl Try.underlying34 (W0.heap.size + 1) fs.length _ _ (by rfl) (by rfl) rfl rfl (by omega) (Below.refl _ _) (by omega) ?_; intro v' w1 ho rfl hbel _
                   rw [l0] at ho
                   rw [l0]
                   have x1 := (hbel.block W0.heap.size (Nat.lt_succ_self _)).trans x0
                   have y1 : w1.cell? ⟨W0.heap.size, 1, none⟩ = some (.slice af fs.length cf) := by rw [cell_of_row _ W0.heap.size 1 _ _ _ x1]; rfl)
                | fail)
              go_loopw [68] (fun i wr => ∃ j : Nat, j ≤ fs.length ∧ i = .int .i64 j ∧ (∃ us : List Value, us.length = fs.length ∧ OV wr (W0.heap.size + 1) (.slice (some ⟨W0.heap.size + 1, 0, none⟩) fs.length fs.length) us ∧ ∀ q, q < j → RR wr hi2 (us.getD q undef) ((pickR xss fs).getD q [])) ∧ Below (W0.heap.size + 1) X wr)
                (fun i _ => fs.length - (intOf i).toNat)
              case atStart => exact ⟨0, Nat.zero_le _, rfl, ⟨_, by simp, ho, fun q hq => by omega⟩, hbel⟩
              case round =>
                clear ho hbel x1 y1
                obtain ⟨j, hj, rfl, ⟨us, hul, hov, hall⟩, hbel⟩ := hrel
                have hwX : Below w.heap.size w wr := bX.trans (hbel.mono (by omega))
                have x1 := (hbel.block W0.heap.size (Nat.lt_succ_self _)).trans x0
                have y0 : wr.cell? ⟨W0.heap.size, 0, none⟩ = some (.int .i64 kd) := by rw [cell_of_row _ W0.heap.size 0 _ _ _ x1]; rfl
                have y1 : wr.cell? ⟨W0.heap.size, 1, none⟩ = some (.slice af fs.length cf) := by rw [cell_of_row _ W0.heap.size 1 _ _ _ x1]; rfl
                by_cases hlt2 : j < fs.length
                · obtain ⟨bf, of, rfl, hbf, hcf⟩ := HF3.out j hlt2
                  rw [← hwX.cell (p := ⟨bf, of + j, none⟩) (Nat.lt_of_lt_of_le hbf hf4)] at hcf
                  obtain ⟨q0, q1⟩ := HFZ.out j hlt2
                  have hpg := pickR_get (rows := xss) hlt2
                  obtain ⟨m, hme⟩ := Int.eq_ofNat_of_zero_le q0
                  rw [hme] at hcf q1 hpg
                  rw [Int.toNat_natCast] at hpg
                  obtain ⟨b2, o2, u, rfl, hb2, hc2, hru⟩ := HRW.out m (by omega)
                  rw [← hwX.cell (p := ⟨b2, o2 + m, none⟩) (Nat.lt_of_lt_of_le hb2 hsz')] at hc2
                  replace hru := hru.mod (Mod.of_below hwX) (.inr (Nat.zero_le _))
                  rw [← hpg] at hru
                  obtain ⟨xs, hxs⟩ : ∃ xs, xs = (pickR xss fs).getD j [] := ⟨_, rfl⟩
                  rw [← hxs] at hru
                  obtain ⟨au, cu, rfl, -⟩ := id hru
                  obtain ⟨d1, d2⟩ := OV.cell hov (i := j) (by omega)
                  have HXS := hid hxs
                  have HALL2 := hid hall
                  have HUL := hid hul
                  have HRU := hid hru
                  have m0 : (0 : Int) ≤ (m : Int) := by omega
                  have m1 : (m : Int) < (xss.length : Int) := by omega
                  have j0 : (0 : Int) ≤ (j : Int) := by omega
                  have j1 : (j : Int) < (fs.length : Int) := by omega
                  have HOV := hid hov
                  have HME := hid hme
                  have HPG := hid hpg
                  clear hxs hall hul hru hov hme hpg
                  go_wp2_with fail
                  go_roundw
                  case rel =>
                    have hul := HUL.out
                    have mS : Mod (W0.heap.size + 1) (W0.heap.size + 2) wr (wr.setCell ⟨W0.heap.size + 1, j, none⟩ (.slice au xs.length cu)) := Mod.setCell (a := ⟨W0.heap.size + 1, j, none⟩) (Nat.le_refl _) (Nat.lt_succ_self _) _
                    refine ⟨j + 1, by omega, by go_num, ⟨us.set j (.slice au xs.length cu), by rw [List.length_set]; exact HUL.out, HOV.out.set j _, fun q hq => ?_⟩, hbel.setCell (Nat.le_refl _) _⟩
                    by_cases e : q = j
                    · subst e
                      have e1 : (us.set q (.slice au xs.length cu)).getD q undef = .slice au xs.length cu := by simp [show q < us.length by omega]
                      rw [e1, ← HXS.out]
                      exact HRU.out.mod mS (.inl (by omega))
                    · have e1 : (us.set j (.slice au xs.length cu)).getD q undef = us.getD q undef := by simp [show ¬ j = q from fun e' => e e'.symm]
                      rw [e1]
                      exact (HALL2.out q (by omega)).mod mS (.inl (by omega))
                  case measure => simp [intOf]; omega
                · obtain rfl : j = fs.length := by omega
                  have hrs := hov.rs (xss := pickR xss fs) (by rw [hul, pickR_length]) rfl fun i hi => (hall i (by omega)).up (Nat.le_trans hsz' hwX.size) (Nat.le_refl _)
                  clear hov hall
                  go_wp2_with fail
                  refine (ikr_any kd _ _ (pickR xss fs) wr hrs).mono ?_
                  rintro e w5 ⟨vo, rfl, ho5, hb5⟩
                  rw [HR.out]
                  go_wp2_with fail
                  go_ret2
                  exact ⟨_, rfl, by rw [HST.out]; exact ho5.base hwX.size, hwX.trans (hb5.mono hwX.size)⟩
      · rw [stp_no (stpB_len hlk), stpB_len hlk]
        have HPB := hid hpb
        have hnk : ((xss.length : Int) != (k : Int)) = true := by simpa using hlk
        clear hpb hvb hin hnd hrw hlk
        go_enter Try.func34, Try.ntmps34
        go_wp2_with fail
        refine (iplan_any _ ns hi w h).mono ?_
        rintro e w2 ⟨rfl, m2⟩
        rw [HPB.out]
        go_wp2_with fail
        refine (isNode_any ad ns.length c k w2).mono ?_
        rintro e _ ⟨rfl, rfl⟩
        rw [← HIN.out]
        go_wp2_with fail
        go_ret2
        exact ⟨_, rfl, OI.nil _ _, m2.below0 (Below.refl _ _) (Nat.le_refl _)⟩
end Go.Proofs.Yteelobokjidphaa
