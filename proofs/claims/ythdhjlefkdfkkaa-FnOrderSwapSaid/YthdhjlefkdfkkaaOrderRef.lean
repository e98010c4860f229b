/- Which orders fit: the contract of the reference. No condition. -/
import Derived.Test.YthdhjlefkdfkkaaOrder
namespace Go.Proofs.Ythdhjlefkdfkkaa
open Go.RowKit
set_option maxRecDepth 100000

theorem quiet_q {P : Program} {f : FuncId} {args : Array Value} {w : World} {n : Nat} {v v' : Value}
    (h : Calls P f args (w.drewN n) fun e w' => e = .returned v ∧ w.drewN n = w') (hv : v = v') : Calls P f args (w.drewN n) fun e w'' => e = .returned v' ∧ ∃ m, w'' = w.drewN m :=
  h.mono fun _ _ ⟨he, hm⟩ => ⟨by rw [he, hv], n, hm.symm⟩

set_option maxHeartbeats 4000000 in
theorem sorder_any (v vo : Value) (ns : List Nd) (order : List Int) (hi : Nat) (w : World) (h : PL w hi v ns) (ho : RL w vo order) (hlen : ns.length ≤ 1099511627776) :
    Calls Try.prog 32 #[v, vo] w fun e w' => e = .returned (.bool (orderB ns order)) ∧ Mod 0 0 w w' := by
  have HP := h
  obtain ⟨a, c, rfl, h1, h2, hs, h3⟩ := h
  have HO := ho
  obtain ⟨ao, co, rfl, h1', h2', h3'⟩ := ho
  unfold maxLen at h2 h2'
  obtain ⟨R, hR⟩ : ∃ R, R = orderB ns order := ⟨_, rfl⟩
  rw [← hR]
  have HR := hid hR
  have H3 := hid h3
  have H3' := hid h3'
  have e1 : IntKind.i64.wrap ((ns.length : Int) - 1) = (ns.length : Int) - 1 := IntWalk.i64_in _ (by omega)
  clear hR h3 h3'
  go_enter Try.func32, Try.ntmps32
  go_wp2_with fail
  go_loopw [5] (fun i wr => ∃ k : Nat, k ≤ order.length ∧ i = .int .i64 k ∧ (∀ j, j < k → stepB ns (order.take j) (order.getD j 0) = true) ∧ Mod 0 0 w wr) (fun i _ => order.length - (intOf i).toNat)
  case atStart => exact ⟨0, Nat.zero_le _, rfl, fun j hj => by omega, Mod.refl _ _ _⟩
  case round =>
    obtain ⟨k, hk, rfl, hall, m0⟩ := hrel
    by_cases hlt : k < order.length
    · obtain ⟨b', o', rfl, hbs, hc⟩ := H3'.out k hlt
      have hpre : RL wr (.slice (some ⟨b', o', none⟩) k co) (order.take k) := (HO.rr.mod m0 (.inr (Nat.zero_le _))).rl.take hk
      replace hc := (World.cell?_of_block (a := ⟨b', o' + k, none⟩) (m0.block b' hbs (.inr (Nat.zero_le _)))).trans hc
      obtain ⟨x, hx⟩ : ∃ x, x = order.getD k 0 := ⟨_, rfl⟩
      rw [← hx] at hc
      have HX := hid hx
      have HALL := hid hall
      have k0 : (0 : Int) ≤ (k : Int) := by omega
      have k1 : (k : Int) < (order.length : Int) := by omega
      have k2 : (k : Int) ≤ (co : Int) := by omega
      clear hx hall
      by_cases hin : 0 ≤ x ∧ x < (ns.length : Int)
      · obtain ⟨X, rfl⟩ := Int.eq_ofNat_of_zero_le hin.1
        have hX : X < ns.length := by omega
        obtain ⟨b, o, f, r, rfl, hb, c0, c1, c2, hf, hr⟩ := H3.out X hX
        have hk0 := m0.block b (Nat.lt_of_lt_of_le hb hs) (.inr (Nat.zero_le _))
        replace c1 := (World.cell?_of_block (a := ⟨b, o + X * 3 + 1, none⟩) hk0).trans c1
        have hst := stepB_in (pre := order.take k) hX
        have hfeq : fsN ns X = (ns.getD X nd0).fs := rfl
        rw [hfeq] at hst
        obtain ⟨fs, hfs⟩ : ∃ fs, fs = (ns.getD X nd0).fs := ⟨_, rfl⟩
        rw [← hfs] at hst hf
        have hf2 := (hf.mod m0 (.inr (Nat.zero_le _))).rl
        obtain ⟨af, cf, rfl, -⟩ := id hf
        have x0 : (0 : Int) ≤ (X : Int) := by omega
        have x1 : (X : Int) < (ns.length : Int) := by omega
        have HIN := hid (show inB (X : Int) 0 ((ns.length : Int) - 1) = true by rw [inB_at]; simp [hX])
        clear c0 c2 hr hfeq hfs hin hf hk0
        cases hh : hasB (order.take k) X
        · rw [hh, Bool.not_false, Bool.true_and] at hst
          have HH := hid hh
          clear hh
          cases hal : fs.all (hasB (order.take k))
          · rw [hal] at hst
            have HST := hid hst
            have HAL := hid hal
            clear hst hal
            go_wp2_with fail
            go_quiet (first
              | (go_at_call 47; exact quiet_q (l6In_any X 0 ((ns.length : Int) - 1) _) (congrArg Value.bool HIN.out))
              | (go_at_call 59; exact quiet_q (has_any _ (order.take k) X _ hpre) (congrArg Value.bool HH.out))
              | (go_at_call 60; exact quiet_q (l5All_any _ _ (order.take k) fs _ hpre hf2) (congrArg Value.bool HAL.out))
              | fail)
            go_wp2_with fail
            go_ret
            refine ⟨?_, m0.trans (Mod.drewN _ _)⟩
            have e : R = false := by rw [HR.out]; unfold orderB; rw [beginsB_false hlt (by rw [← HX.out]; exact HST.out), Bool.and_false]
            rw [e]; rfl
          · rw [hal] at hst
            have HST := hid hst
            have HAL := hid hal
            clear hst hal
            go_wp2_with fail
            go_quiet (first
              | (go_at_call 47; exact quiet_q (l6In_any X 0 ((ns.length : Int) - 1) _) (congrArg Value.bool HIN.out))
              | (go_at_call 59; exact quiet_q (has_any _ (order.take k) X _ hpre) (congrArg Value.bool HH.out))
              | (go_at_call 60; exact quiet_q (l5All_any _ _ (order.take k) fs _ hpre hf2) (congrArg Value.bool HAL.out))
              | fail)
            go_wp2_with fail
            go_roundw
            case rel =>
              refine ⟨k + 1, by omega, by go_num, fun j hj => ?_, m0.trans (Mod.drewN _ _)⟩
              by_cases e : j = k
              · subst e; rw [← HX.out]; exact HST.out
              · exact HALL.out j (by omega)
            case measure => simp [intOf]; omega
        · rw [hh, Bool.not_true, Bool.false_and] at hst
          have HH := hid hh
          have HST := hid hst
          clear hh hst
          go_wp2_with fail
          go_quiet (first
              | (go_at_call 47; exact quiet_q (l6In_any X 0 ((ns.length : Int) - 1) _) (congrArg Value.bool HIN.out))
              | (go_at_call 59; exact quiet_q (has_any _ (order.take k) X _ hpre) (congrArg Value.bool HH.out))
              | (go_at_call 60; exact quiet_q (l5All_any _ _ (order.take k) fs _ hpre hf2) (congrArg Value.bool HAL.out))
              | fail)
          go_wp2_with fail
          go_ret
          refine ⟨?_, m0.trans (Mod.drewN _ _)⟩
          have e : R = false := by rw [HR.out]; unfold orderB; rw [beginsB_false hlt (by rw [← HX.out]; exact HST.out), Bool.and_false]
          rw [e]; rfl
      · have hst := stepB_out (ns := ns) (pre := order.take k) hin
        have HST := hid hst
        have HIN := hid (show inB x 0 ((ns.length : Int) - 1) = false by
          rw [inB_at, Bool.and_eq_false_iff, decide_eq_false_iff_not, decide_eq_false_iff_not]; omega)
        clear hst hin
        go_wp2_with fail
        go_quiet (first
          | (go_at_call 47; exact quiet_q (l6In_any x 0 ((ns.length : Int) - 1) _) (congrArg Value.bool HIN.out))
          | fail)
        go_wp2_with fail
        go_ret
        refine ⟨?_, m0.trans (Mod.drewN _ _)⟩
        have e : R = false := by rw [HR.out]; unfold orderB; rw [beginsB_false hlt (by rw [← HX.out]; exact HST.out), Bool.and_false]
        rw [e]; rfl
    · obtain rfl : k = order.length := by omega
      have HB := hid (beginsB_true hall)
      clear hall
      go_wp2_with fail
      refine (splan_any _ ns hi wr (HP.mod m0 (.inr (Nat.zero_le _))) hlen).mono ?_
      rintro e w2 ⟨rfl, m2⟩
      have hRR : R = (planB ns && decide (order.length = ns.length)) := by rw [HR.out]; unfold orderB; rw [HB.out, Bool.and_true]
      have hRR' := hid hRR
      clear hRR
      cases hp : planB ns
      · have HPB := hid hp
        clear hp
        go_wp2_with fail
        go_ret
        exact ⟨by rw [hRR'.out, HPB.out]; rfl, m0.trans m2⟩
      · have HPB := hid hp
        clear hp
        by_cases hl : order.length = ns.length
        · have hle : ((order.length : Int) == (ns.length : Int)) = true := by rw [natBeq]; exact decide_eq_true hl
          have HL := hid hl
          clear hl
          go_wp2_with fail
          go_ret
          exact ⟨by rw [hRR'.out, HPB.out, decide_eq_true HL.out]; rfl, m0.trans m2⟩
        · have hle : ((order.length : Int) == (ns.length : Int)) = false := by rw [natBeq]; exact decide_eq_false hl
          have HL := hid hl
          clear hl
          go_wp2_with fail
          go_ret
          exact ⟨by rw [hRR'.out, HPB.out, decide_eq_false HL.out]; rfl, m0.trans m2⟩
end Go.Proofs.Ythdhjlefkdfkkaa
