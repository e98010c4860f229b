/- The contract of the drawing of a plan. No condition. -/
import Derived.Test.YteelobokjidphaaDrawNode
import Derived.Test.YteelobokjidphaaOwnMore
namespace Go.Proofs.Yteelobokjidphaa
open Go.RowKit
set_option maxRecDepth 100000

/-- Lists of a drawn plan are short. -/
def Short (ns : List Nd) : Prop := ns.length ≤ 11 ∧ ∀ n ∈ ns, n.fs.length ≤ 2 ∧ n.row.length ≤ 4
/-- What the drawing of a plan leaves. -/
def PlanDrawn (w : World) (hi r P : Nat) (e : Ending) (w' : World) : Prop :=
  ∃ vo ns, e = .returned vo ∧ PR False w' w.heap.size w'.heap.size vo ns ∧ Short ns ∧ RD w' hi r P ∧ Mod r (r + 1) w w'

theorem l91Row_i (hi r P n : Nat) (N : Int) (w : World) (h : RD w hi r P) (hn : n ≤ 100) (hP : P ≤ 900000) (hN : N = (n : Int)) :
    Calls Try.prog 78 #[.pointer (some ⟨r, 0, none⟩), .int .i64 N] w (RowDrawn w hi r (P + 3 * n + 3) n) := by
  subst hN
  exact l91Row_any hi r P n w h hn hP

set_option maxHeartbeats 4000000 in
theorem l91Plan_any (hi r P : Nat) (w : World) (h : RD w hi r P) (hP : P ≤ 1000) :
    Calls Try.prog 74 #[.pointer (some ⟨r, 0, none⟩)] w (PlanDrawn w hi r (P + 1000)) := by
  have hr := h.lt
  have mE := Mod.alloc w (.cells #[] 48)
  have hp0 : PR False (w.alloc (.cells #[] 48)) w.heap.size (w.heap.size + 1) (.slice (some ⟨w.heap.size, 0, none⟩) 0 0) [] := PR.fresh0 w (Nat.le_refl _)
  have hrd0 := h.mod mE (.inr rfl)
  go_enter Try.func74, Try.ntmps74
  go_wp2_with fail
  refine (pick_any hi r P 4 _ hrd0 (by omega) (by omega)).mono ?_
  rintro e w1 ⟨q1, rfl, h10, h11, -, hrd1, m1⟩
  obtain ⟨wide, rfl⟩ := Int.eq_ofNat_of_zero_le h10
  have hwide := h11 (by omega)
  replace hp0 := hp0.mod m1 (by omega)
  have mm := mE.zero.trans m1
  clear h11 hrd0 h10
  go_wp2_with fail
  refine (pick_any hi r _ 8 _ hrd1 (by omega) (by omega)).mono ?_
  rintro e w2 ⟨q2, rfl, h20, h21, -, hrd2, m2⟩
  obtain ⟨n2, rfl⟩ := Int.eq_ofNat_of_zero_le h20
  have hn2 := h21 (by omega)
  replace hp0 := hp0.mod m2 (by omega)
  replace mm := mm.trans m2
  clear h21 hrd1 h20 m1
  go_wp2_with fail
  refine (pick_any hi r _ 16 _ hrd2 (by omega) (by omega)).mono ?_
  rintro e w3 ⟨q3, rfl, -, -, -, hrd3, m3⟩
  replace hp0 := hp0.mod m3 (by omega)
  replace mm := mm.trans m3
  clear hrd2 m2 m3
  obtain ⟨g0, hg0⟩ : ∃ g : Value, g = .slice (some ⟨w.heap.size, 0, none⟩) 0 0 := ⟨_, rfl⟩
  rw [← hg0] at hp0
  have HG0 := hid hg0
  clear hg0
  by_cases hq3 : q3 = 0
  case' pos =>
    subst hq3
    go_wp2_with fail
    have hs3 := mm.size
    have m4 := Mod.alloc w3 (.cells #[.int .i64 0, .int .i64 10, .int .i64 11] 3)
    have hrd4 := hrd3.mod m4 (.inr rfl)
    replace hp0 := hp0.mod m4 (.inr (Nat.zero_le _))
    replace mm := mm.trans m4.zero
    have hb4 := hid (heap_alloc_new w3 (.cells #[.int .i64 0, .int .i64 10, .int .i64 11] 3))
    clear hrd3
    refine (pick_any hi r _ 3 _ hrd4 (by omega) (by omega)).mono ?_
    rintro e wL ⟨q4, rfl, h40, h41, -, hrdL, m5⟩
    obtain ⟨j, rfl⟩ := Int.eq_ofNat_of_zero_le h40
    have hj := h41 (by omega)
    have hb5 := (m5.block w3.heap.size (by simp) (.inr (by omega))).trans hb4.out
    have hcell : ∃ n : Nat, n ≤ 11 ∧ wL.cell? ⟨w3.heap.size, j, none⟩ = some (.int .i64 (n : Nat)) := by
      rw [cell_of_row _ _ j _ _ _ hb5]
      rcases (show j = 0 ∨ j = 1 ∨ j = 2 by omega) with rfl | rfl | rfl
      · exact ⟨0, by omega, rfl⟩
      · exact ⟨10, by omega, rfl⟩
      · exact ⟨11, by omega, rfl⟩
    obtain ⟨n, hn, hcj⟩ := hcell
    replace hp0 := hp0.mod m5 (by omega)
    replace mm := mm.trans m5
    clear h41 hb5 hb4 m4 m5 h40 hrd4 hs3
    go_wp2_with fail
    replace hrdL := hrdL.up (show P + 1 + 1 + 1 + 1 ≤ P + 4 by omega)
    clear hcj hj hn2
  case' neg =>
    have hz3 : (q3 == 0) = false := by simpa using hq3
    clear hq3
    go_wp2_with fail
    obtain ⟨wL, hwL⟩ : ∃ wL, wL = w3 := ⟨_, rfl⟩
    rw [← hwL] at hp0 mm hrd3 ⊢
    have hrdL := hrd3.up (show P + 1 + 1 + 1 ≤ P + 4 by omega)
    rw [show (1 : Int) + (n2 : Int) = ((1 + n2 : Nat) : Int) by omega]
    have hn : 1 + n2 ≤ 11 := by omega
    generalize 1 + n2 = n at hn ⊢
    clear hrd3 hz3 hwL
  all_goals
    rw [← HG0.out]
    have HP0 := hid (hp0.up hp0.size (Nat.le_refl _))
    have HRD := hid hrdL
    have HMM := hid mm
    clear hp0 hrdL mm mE
    go_loopw [3, 6] (fun p i wr => ∃ (k : Nat) (ns : List Nd), k ≤ n ∧ i = .int .i64 k ∧ PR False wr w.heap.size wr.heap.size p ns ∧ ns.length = k ∧ (∀ x ∈ ns, x.fs.length ≤ 2 ∧ x.row.length ≤ 4) ∧ RD wr hi r (P + 4 + 20 * k) ∧ Mod r (r + 1) w wr) (fun _ i _ => n - (intOf i).toNat)
    case atStart => exact ⟨0, [], Nat.zero_le _, rfl, HP0.out, rfl, fun x hx => by simp at hx, HRD.out, HMM.out⟩
    case round =>
      clear HP0 HRD HMM HG0
      obtain ⟨k, ns, hk, rfl, hp, hl, hsh, hrd, hm⟩ := hrel
      have HSH := hid hsh
      have HL := hid hl
      clear hsh
      by_cases hlt : k < n
      · clear hl
        go_wp2_with fail
        refine (l91Node_any hi r (P + 4 + 20 * k) k wide wr hrd (by omega) (by omega) (by omega)).mono ?_
        rintro e w5 ⟨kd, fs, row, vf, vr, rfl, hvf, hvr, hfl, hrl, hrd5, hm5⟩
        obtain ⟨af, cf, rfl, -⟩ := id hvf.rl
        obtain ⟨ar, cr, rfl, -⟩ := id hvr.rl
        have hp5 := hp.mod hm5 (by omega)
        have hs5 := hm.size
        have hs6 := hm5.size
        have hm6 := hm.trans hm5
        replace hrd5 := hrd5.up (show P + 4 + 20 * k + 3 * wide + 10 ≤ P + 4 + 20 * (k + 1) by omega)
        have hSH2 := hid (show fs.length ≤ 2 ∧ row.length ≤ 4 from ⟨hfl, by omega⟩)
        have hlk : ns.length < 1099511627775 := by have := HL.out; omega
        have hvf5 := hvf.base hs5
        have hvr5 := hvr.base hs5
        have hB5 : w.heap.size ≤ w5.heap.size := by omega
        clear hp hrd hm hm5 hfl hrl hvf hvr
        go_wp2_with (at_builtin; refine appN1 rfl _ _ 27 rfl Try.underlying27 w.heap.size _ _ ns kd _ _ fs row hp5 hvf5 hvr5 Apart.no rfl rfl hlk (Below.refl _ _) hB5 ?_; intro v7 w7 hp7 hb7 _)
        go_roundw
        case rel => exact ⟨k + 1, _, by omega, by go_num, hp7, by simp [HL.out], fun x hx => by
          simp only [List.mem_append, List.mem_singleton] at hx
          rcases hx with hx | rfl
          · exact HSH.out x hx
          · exact hSH2.out, hrd5.below hb7 hr, hm6.then_below' hb7 (Nat.le_refl _)⟩
        case measure => simp [intOf]; omega
      · obtain rfl : k = n := by omega
        by_cases hn1 : 1 < k
        · obtain ⟨m, rfl⟩ : ∃ m, k = m + 1 := ⟨k - 1, by omega⟩
          have hn2 : (1 : Int) < ((m + 1 : Nat) : Int) := by omega
          have hml : m < ns.length := by omega
          obtain ⟨g, c, rfl, hg1, hg2, hc1, hc2⟩ := hp.at hml
          unfold maxLen at hc2
          rw [hl] at hp hc1 ⊢
          have em : ((m + 1 : Nat) : Int) - 1 = (m : Int) := by omega
          have b0 : (0 : Int) ≤ (m : Int) := by omega
          have b1 : (m : Int) < ((m + 1 : Nat) : Int) := by omega
          clear hl hn1 hlt
          go_wp2_with fail
          refine (pick_any hi r _ 40 _ hrd (by omega) (by omega)).mono ?_
          rintro e w5 ⟨q5, rfl, -, -, -, hrd5, hm5⟩
          have hs5 := hm.size
          have hs6 := hm5.size
          have hp5 := hp.mod hm5 (by omega)
          have hm6 := hm.trans hm5
          clear hp hrd hm
          by_cases h0 : q5 = 0
          · subst h0
            have mA := Mod.alloc w5 (.cells #[.int .i64 m] 3)
            have hpA := hp5.mod mA (.inr (Nat.zero_le _))
            have hvf : OI (w5.alloc (.cells #[.int .i64 m] 3)) w.heap.size (.slice (some ⟨w5.heap.size, 0, none⟩) 1 1) [(m : Int)] := World.ownsRow_lit w5 #[.int .i64 m] 1 (by omega) (by unfold maxLen; omega) rfl
            have HQ := hid (hpA.put hml hvf (OI.nil _ _) Apart.no 4)
            obtain ⟨f9, r9, c0, c1, c2, -, -⟩ := hpA.cells hml
            have z0 := hpA.frozen (m * 3)
            have z1 := hpA.frozen (m * 3 + 1)
            have z2 := hpA.frozen (m * 3 + 2)
            have hbA : Below w.heap.size w5 (w5.alloc (.cells #[.int .i64 m] 3)) := (Below.refl _ _).alloc (by omega) _
            have HS := hid (fun x (hx : x ∈ ns.set m ⟨4, [(m : Int)], []⟩) => show x.fs.length ≤ 2 ∧ x.row.length ≤ 4 from by
              rcases List.mem_or_eq_of_mem_set hx with h | rfl
              · exact HSH.out x h
              · simp)
            clear hp5 hpA hvf
            go_wp2_with fail
            go_ret
            have hbZ := ((hbA.setCell (p := ⟨g, m * 3, none⟩) hg1 (.int .i64 4)).setCell (p := ⟨g, m * 3 + 1, none⟩) hg1 (.slice (some ⟨w5.heap.size, 0, none⟩) 1 1)).setCell (p := ⟨g, m * 3 + 2, none⟩) hg1 (.slice none 0 0)
            exact ⟨_, _, rfl, HQ.out.up (by simp) (Nat.le_refl _), ⟨by rw [List.length_set]; have := HL.out; omega, HS.out⟩, (hrd5.below hbZ hr).up (by omega), hm6.then_below' hbZ (Nat.le_refl _)⟩
          · by_cases h1 : q5 = 1
            · subst h1
              clear h0
              go_wp2_with fail
              refine (l91Row_i hi r _ (wide + 1) _ w5 hrd5 (by omega) (by omega) (by omega)).mono ?_
              rintro e w6 ⟨vo, xs, rfl, hvo, hxl, hrd6, hm7⟩
              obtain ⟨ao, co, rfl, -⟩ := id hvo.rl
              have hs7 := hm7.size
              have hp6 := hp5.mod hm7 (by omega)
              have hm8 := hm6.trans hm7
              have HQ := hid (hp6.put hml (OI.nil _ _) (hvo.base (by omega)) Apart.no 0)
              obtain ⟨f9, r9, c0, c1, c2, -, -⟩ := hp6.cells hml
              have z0 := hp6.frozen (m * 3)
              have z1 := hp6.frozen (m * 3 + 1)
              have z2 := hp6.frozen (m * 3 + 2)
              have HS := hid (fun x (hx : x ∈ ns.set m ⟨0, [], xs⟩) => show x.fs.length ≤ 2 ∧ x.row.length ≤ 4 from by
                rcases List.mem_or_eq_of_mem_set hx with h | rfl
                · exact HSH.out x h
                · simp; omega)
              clear hp5 hp6 hvo hxl hm7 hm6 hrd5
              go_wp2_with fail
              go_ret
              have hbZ := (((Below.refl w.heap.size w6).setCell (p := ⟨g, m * 3, none⟩) hg1 (.int .i64 0)).setCell (p := ⟨g, m * 3 + 1, none⟩) hg1 (.slice none 0 0)).setCell (p := ⟨g, m * 3 + 2, none⟩) hg1 (.slice ao xs.length co)
              exact ⟨_, _, rfl, HQ.out.up (by simp) (Nat.le_refl _), ⟨by rw [List.length_set]; have := HL.out; omega, HS.out⟩, (hrd6.below hbZ hr).up (by omega), hm8.then_below' hbZ (Nat.le_refl _)⟩
            · have hz0 : (q5 == 0) = false := by simpa using h0
              have hz1 : (q5 == 1) = false := by simpa using h1
              clear h0 h1
              go_wp2_with fail
              go_ret
              exact ⟨_, ns, rfl, hp5.up hs6 (Nat.le_refl _), ⟨by have := HL.out; omega, HSH.out⟩, hrd5.up (by omega), hm6⟩
        · have hn2 : ¬ (1 : Int) < (k : Int) := by omega
          go_wp2_with fail
          go_ret
          exact ⟨_, ns, rfl, hp, ⟨by omega, HSH.out⟩, hrd.up (by omega), hm⟩
end Go.Proofs.Yteelobokjidphaa
