/- Drawn orders. No condition. -/
import Derived.Test.YteelobokjidphaaDrawPlans
import Derived.Test.YteelobokjidphaaReady
import Derived.Test.YteelobokjidphaaOrder
namespace Go.Proofs.Yteelobokjidphaa
open Go.ChangeShapes Go.WideShapes Go.ChangeAt Go.RowKit
set_option maxRecDepth 100000

/-- An order, drawn. -/
def OrderDrawn (w : World) (hi r P : Nat) (e : Ending) (w' : World) : Prop :=
  ∃ vo xs, e = .returned vo ∧ OI w' w.heap.size vo xs ∧ xs.length ≤ 11 ∧ RD w' hi r P ∧ Mod r (r + 1) w w'
set_option maxHeartbeats 2000000 in
theorem l91Order_any (hi r P lo hi2 : Nat) (v : Value) (ns : List Nd) (w : World) (h : RD w hi r P) (hP : P ≤ 10000) (hp : PR False w lo hi2 v ns) (hlo : r < lo) (hl : ns.length ≤ 11) :
    Calls Try.prog 84 #[.pointer (some ⟨r, 0, none⟩), v] w (OrderDrawn w hi r (P + 20)) := by
  have hr := h.lt
  obtain ⟨a, c, rfl, hc1, hc2⟩ := hp.shape
  unfold maxLen at hc2
  have HP := hid hp
  clear hp
  go_enter Try.func84, Try.ntmps84
  go_wp2_with fail
  have mA := Mod.alloc w (.cells #[] 3)
  have hrdA := h.mod mA (.inr rfl)
  have o0 : OI (w.alloc (.cells #[] 3)) w.heap.size (.slice (some ⟨w.heap.size, 0, none⟩) 0 0) [] := OI.fresh0 w (Nat.le_refl _)
  refine (pick_any hi r _ ((ns.length : Int) + 1) _ hrdA (by omega) (by omega)).mono ?_
  rintro e w1 ⟨q1, rfl, h10, h11, -, hrd1, m1⟩
  obtain ⟨n1, rfl⟩ := Int.eq_ofNat_of_zero_le h10
  have hn1 := h11 (by omega)
  have mm1 : Mod r (r + 1) w w1 := mA.zero.trans m1
  replace o0 := o0.mod m1 (by omega)
  clear h11 h10 hrdA m1 mA h
  go_wp2_with fail
  refine (pick_any hi r _ 2 _ hrd1 (by omega) (by omega)).mono ?_
  rintro e w2 ⟨q2, rfl, -, -, -, hrd2, m2⟩
  replace o0 := o0.mod m2 (by omega)
  have mm2 := mm1.trans m2
  clear hrd1 m2 mm1
  obtain ⟨g0, hg0⟩ : ∃ g : Value, g = .slice (some ⟨w.heap.size, 0, none⟩) 0 0 := ⟨_, rfl⟩
  rw [← hg0] at o0 ⊢
  have HG0 := hid hg0
  clear hg0
  by_cases hq : q2 = 0
  · subst hq
    have HQ := hid trivial
    go_wp2_with fail
    go_loopw [5, 7] (fun o i wr => ∃ k : Nat, ∃ ys : List Int, k ≤ ns.length ∧ i = .int .i64 (k : Int) ∧ OI wr w.heap.size o ys ∧ ys.length ≤ k ∧ RD wr hi r (P + 2 + k) ∧ Mod r (r + 1) w wr) (fun _ i _ => ns.length - (intOf i).toNat)
    case atStart => exact ⟨0, [], Nat.zero_le _, rfl, o0, Nat.le_refl _, hrd2, mm2⟩
    case round =>
      obtain ⟨k, ys, hk, rfl, o1, hyl, hrdk, mmk⟩ := hrel
      by_cases hlt : k < ns.length
      · obtain ⟨ao, co, rfl, ho1, ho2, -⟩ := id o1.rl
        have hpk := HP.out.mod mmk (.inr (by omega))
        have hsk := mmk.size
        unfold maxLen at ho2
        go_wp2_with fail
        refine (sready_any _ _ ns ys _ _ hpk.pl o1.rl (by omega)).mono ?_
        rintro e w5 ⟨vx, rfl, X, b5⟩
        have hxl := readyR_len ns ys
        have m5 := Mod.of_below b5
        have s5 := b5.size
        have hrd5 := hrdk.mod m5 (.inr rfl)
        have o5 := o1.mod m5 (Nat.zero_le _)
        have mm5 := mmk.trans m5.zero
        obtain ⟨xs, hxs⟩ : ∃ xs, xs = readyR ns ys := ⟨_, rfl⟩
        rw [← hxs] at X hxl
        obtain ⟨ax, cx, rfl, hx1, hx2, -⟩ := id X.rl
        unfold maxLen at hx2
        clear hxs hpk hrdk o1 m5 mmk
        by_cases hx0 : xs.length = 0
        · have hgt : ¬ (0 : Int) < (xs.length : Int) := by omega
          have hgt2 : decide ((0 : Int) < (xs.length : Int)) = false := decide_eq_false hgt
          clear hx0
          go_wp2_with fail
          go_roundw
          case rel => exact ⟨k + 1, ys, by omega, by go_num, o5, by omega, hrd5.up (by omega), mm5⟩
          case measure => simp [intOf]; omega
        · have hgt : (0 : Int) < (xs.length : Int) := by omega
          clear hx0
          go_wp2_with fail
          refine (pick_any hi r _ xs.length _ hrd5 (by omega) (by omega)).mono ?_
          rintro e w6 ⟨q6, rfl, h60, h61, -, hrd6, m6⟩
          obtain ⟨j, rfl⟩ := Int.eq_ofNat_of_zero_le h60
          have hj := h61 (by omega)
          have s6 := m6.size
          have X6 := X.mod m6 (by omega)
          have o6 := o5.mod m6 (by omega)
          obtain ⟨a', c', e6, -, -, hx6⟩ := id X6.rl
          simp only [Value.slice.injEq] at e6
          obtain ⟨rfl, -, rfl⟩ := e6
          obtain ⟨bx, ox, rfl, hbx, hcx⟩ := hx6 j (by omega)
          generalize xs.getD j 0 = x at hcx
          clear hx6 X X6 hrd5 o5 h61
          go_wp2_with (at_builtin; refine app1 rfl _ _ 24 rfl Try.underlying24 w.heap.size _ _ _ o6 rfl rfl (by omega) (Below.refl _ _) (by omega) ?_; intro v' w' ho' hbel' _)
          go_roundw
          case rel => exact ⟨k + 1, ys ++ [x], by omega, by go_num, ho', by simp; omega, (hrd6.below hbel' hr).up (by omega), (mm5.trans m6).then_below' hbel' (Nat.le_refl _)⟩
          case measure => simp [intOf]; omega
      · obtain rfl : k = ns.length := by omega
        go_wp2_with fail
        go_ret
        exact ⟨_, ys, rfl, o1, by omega, hrdk.up (by omega), mmk⟩
  · have hz : (q2 == 0) = false := by simpa using hq
    have HQ := hid trivial
    go_wp2_with fail
    go_loopw [5, 7] (fun o i wr => ∃ k : Nat, ∃ ys : List Int, k ≤ n1 ∧ i = .int .i64 (k : Int) ∧ OI wr w.heap.size o ys ∧ ys.length ≤ k ∧ RD wr hi r (P + 2 + k) ∧ Mod r (r + 1) w wr) (fun _ i _ => n1 - (intOf i).toNat)
    case atStart => exact ⟨0, [], Nat.zero_le _, rfl, o0, Nat.le_refl _, hrd2, mm2⟩
    case round =>
      obtain ⟨k, ys, hk, rfl, o1, hyl, hrdk, mmk⟩ := hrel
      by_cases hlt : k < n1
      · obtain ⟨ao, co, rfl, ho1, ho2, -⟩ := id o1.rl
        have hpk := HP.out.mod mmk (.inr (by omega))
        have hsk := mmk.size
        unfold maxLen at ho2
        go_wp2_with fail
        refine (sready_any _ _ ns ys _ _ hpk.pl o1.rl (by omega)).mono ?_
        rintro e w5 ⟨vx, rfl, X, b5⟩
        have hxl := readyR_len ns ys
        have m5 := Mod.of_below b5
        have s5 := b5.size
        have hrd5 := hrdk.mod m5 (.inr rfl)
        have o5 := o1.mod m5 (Nat.zero_le _)
        have mm5 := mmk.trans m5.zero
        obtain ⟨xs, hxs⟩ : ∃ xs, xs = readyR ns ys := ⟨_, rfl⟩
        rw [← hxs] at X hxl
        obtain ⟨ax, cx, rfl, hx1, hx2, -⟩ := id X.rl
        unfold maxLen at hx2
        clear hxs hpk hrdk o1 m5 mmk
        by_cases hx0 : xs.length = 0
        · have hgt : ¬ (0 : Int) < (xs.length : Int) := by omega
          have hgt2 : decide ((0 : Int) < (xs.length : Int)) = false := decide_eq_false hgt
          clear hx0
          go_wp2_with fail
          go_roundw
          case rel => exact ⟨k + 1, ys, by omega, by go_num, o5, by omega, hrd5.up (by omega), mm5⟩
          case measure => simp [intOf]; omega
        · have hgt : (0 : Int) < (xs.length : Int) := by omega
          clear hx0
          go_wp2_with fail
          refine (pick_any hi r _ xs.length _ hrd5 (by omega) (by omega)).mono ?_
          rintro e w6 ⟨q6, rfl, h60, h61, -, hrd6, m6⟩
          obtain ⟨j, rfl⟩ := Int.eq_ofNat_of_zero_le h60
          have hj := h61 (by omega)
          have s6 := m6.size
          have X6 := X.mod m6 (by omega)
          have o6 := o5.mod m6 (by omega)
          obtain ⟨a', c', e6, -, -, hx6⟩ := id X6.rl
          simp only [Value.slice.injEq] at e6
          obtain ⟨rfl, -, rfl⟩ := e6
          obtain ⟨bx, ox, rfl, hbx, hcx⟩ := hx6 j (by omega)
          generalize xs.getD j 0 = x at hcx
          clear hx6 X X6 hrd5 o5 h61
          go_wp2_with (at_builtin; refine app1 rfl _ _ 24 rfl Try.underlying24 w.heap.size _ _ _ o6 rfl rfl (by omega) (Below.refl _ _) (by omega) ?_; intro v' w' ho' hbel' _)
          go_roundw
          case rel => exact ⟨k + 1, ys ++ [x], by omega, by go_num, ho', by simp; omega, (hrd6.below hbel' hr).up (by omega), (mm5.trans m6).then_below' hbel' (Nat.le_refl _)⟩
          case measure => simp [intOf]; omega
      · obtain rfl : k = n1 := by omega
        go_wp2_with fail
        go_ret
        exact ⟨_, ys, rfl, o1, by omega, hrdk.up (by omega), mmk⟩

/-- What the draws of a plan and a list leave. -/
def PlanListGot (w : World) (e : Ending) (w' : World) : Prop :=
  ∃ vp vo ns xs, e = .returned (.tuple #[vp, vo]) ∧ PR False w' w.heap.size w'.heap.size vp ns ∧ Short ns ∧ RL w' vo xs ∧ xs.length ≤ 11 ∧ Below w.heap.size w w'

set_option maxHeartbeats 2000000 in
theorem drawReadyOf_any (v : Value) (xs : List Int) (w : World) (h : BL w v xs) : Calls Try.prog 54 #[v] w (PlanListGot w) := by
  obtain ⟨a, c, rfl, -⟩ := id h
  go_enter Try.func54, Try.ntmps54
  go_wp2_with fail
  refine (l6Open_any _ _ _ h).mono ?_
  rintro e w1 ⟨rfl, hrd, hb⟩
  have hs1 := hb.size
  have hlt1 := hrd.lt
  clear h
  go_wp2_with fail
  refine (l91Plan_any _ _ _ _ hrd (by omega)).mono ?_
  rintro e w2 ⟨vo, ns, rfl, hp, hsh, hrd2, hm⟩
  have hb2 := hm.to_below hb hs1
  have hs2 := hm.size
  have HSH := hid hsh
  have hl := hsh.1
  obtain ⟨ap, cp, rfl, -⟩ := hp.shape
  clear hm hrd hb hsh
  go_wp2_with fail
  refine (pick_any _ _ _ 4 _ hrd2 (by omega) (by omega)).mono ?_
  rintro e w3 ⟨q3, rfl, -, -, -, hrd3, hm3⟩
  have hs3 := hm3.size
  have hb3 := hm3.to_below hb2 hb2.size
  have hp3 : PR False w3 w1.heap.size w3.heap.size _ ns := (hp.mod hm3 (by omega)).up hs3 (Nat.le_refl _)
  clear hp hrd2 hm3 hb2
  by_cases h3 : q3 = 0
  · subst h3
    go_wp2_with fail
    refine (pick_any _ _ _ 9 _ hrd3 (by omega) (by omega)).mono ?_
    rintro e w4 ⟨q4, rfl, h40, h41, -, hrd4, hm4⟩
    have hq4 := h41 (by omega)
    have hs4 := hm4.size
    have hb4 := hm4.to_below hb3 hb3.size
    have hp4 : PR False w4 w1.heap.size w4.heap.size _ ns := (hp3.mod hm4 (by omega)).up hs4 (Nat.le_refl _)
    clear hp3 hrd3 hm4 hb3 h41
    go_wp2_with fail
    refine (pick_any _ _ _ 9 _ hrd4 (by omega) (by omega)).mono ?_
    rintro e w5 ⟨q5, rfl, h50, h51, -, hrd5, hm5⟩
    have hq5 := h51 (by omega)
    have hs5 := hm5.size
    have hb5 := hm5.to_below hb4 hb4.size
    have hp5 : PR False w5 w1.heap.size w5.heap.size _ ns := (hp4.mod hm5 (by omega)).up hs5 (Nat.le_refl _)
    clear hp4 hrd4 hm5 hb4 h51
    go_wp2_with fail
    refine (pick_any _ _ _ 12 _ hrd5 (by omega) (by omega)).mono ?_
    rintro e w6 ⟨q6, rfl, h60, h61, -, -, hm6⟩
    have hq6 := h61 (by omega)
    have hs6 := hm6.size
    have hb6 := hm6.to_below hb5 hb5.size
    have hp6 : PR False w6 w1.heap.size w6.heap.size _ ns := (hp5.mod hm6 (by omega)).up hs6 (Nat.le_refl _)
    clear hp5 hrd5 hm6 hb5 h61
    go_wp2_with fail
    go_ret2
    have mA := Mod.alloc w6 (.cells #[.int .i64 q4, .int .i64 q5, .int .i64 (q6 - 1)] 3)
    have o6 : OI (w6.alloc (.cells #[.int .i64 q4, .int .i64 q5, .int .i64 (q6 - 1)] 3)) w.heap.size (.slice (some ⟨w6.heap.size, 0, none⟩) 3 3) [q4, q5, q6 - 1] := World.ownsRow_lit w6 #[.int .i64 q4, .int .i64 q5, .int .i64 (q6 - 1)] 3 (by have := hb6.size; omega) (by unfold maxLen; omega) rfl
    exact ⟨_, _, ns, _, rfl, ((hp6.mod mA (.inr (Nat.zero_le _))).up (by simp) (Nat.le_refl _)).base hs1, HSH.out, o6.rl, by simp, mA.below0 hb6 hb6.size⟩
  · have hz : (q3 == 0) = false := by simpa using h3
    clear h3
    go_wp2_with fail
    refine (l91Order_any _ _ _ _ _ _ ns _ hrd3 (by omega) hp3 (by omega) (by omega)).mono ?_
    rintro e w4 ⟨vo, xs, rfl, ho, hxl, hrd4, hm4⟩
    have hs4 := hm4.size
    have hb4 := hm4.to_below hb3 hb3.size
    have hp4 : PR False w4 w1.heap.size w4.heap.size _ ns := (hp3.mod hm4 (by omega)).up hs4 (Nat.le_refl _)
    obtain ⟨ao, co, rfl, ho1, ho2, -⟩ := id ho.rl
    unfold maxLen at ho2
    clear hp3 hrd3 hm4 hb3
    have hrd4' : RD w4.drew w.heap.size w.heap.size _ := hrd4
    have HP4 := hid hp4
    have HO4 := hid ho
    clear hp4 ho
    go_wp2_with fail
    go_region_held3 (fun _ => True) (trivial)
      (first
        | ((go_at_call 76; refine (pick_any _ _ _ 2 w4.drew hrd4' (by omega) (by omega)).mono ?_; rintro e w5 ⟨q5, rfl, h50, h51, -, -, hm5⟩
            have hq5 := h51 (by omega)
            have hne5 : ¬ (1 + q5 = 0) := by omega
            have hne6 : (1 + q5 == 0) = false := by simpa using hne5
            have hw5 : IntKind.i64.wrap (1 + q5) = 1 + q5 := IntWalk.i64_in _ (by omega)
            obtain ⟨K, hKx, hKc⟩ : ∃ K : Nat, ((xs.length : Int).tdiv (1 + q5)) = (K : Int) ∧ K ≤ xs.length := by
              rcases (show q5 = 0 ∨ q5 = 1 by omega) with rfl | rfl
              · exact ⟨xs.length, by simp, Nat.le_refl _⟩
              · exact ⟨xs.length / 2, by rw [Int.tdiv_eq_ediv_of_nonneg (by omega)]; omega, by omega⟩
            have hwK : IntKind.i64.wrap (K : Int) = (K : Int) := IntWalk.i64_in _ (by omega)
            have k0 : (0 : Int) ≤ (K : Int) := by omega
            have k1 : (K : Int) ≤ (co : Int) := by omega
            clear h51))
        | fail)
    have hs5 : w4.heap.size ≤ w5.heap.size := hm5.size
    have hb5 := hm5.to_below ((Mod.drewN w4 1).below0 hb4 hb4.size) hb4.size
    have hp5 : PR False w5 w1.heap.size w5.heap.size _ ns := ((HP4.out.mod (Mod.drewN w4 1) (.inr (Nat.zero_le _))).mod hm5 (by omega)).up hs5 (Nat.le_refl _)
    have ho5 := ((HO4.out.mod (Mod.drewN w4 1) (Nat.zero_le _)).mod hm5 (by omega)).rl.take hKc
    go_wp2_with fail
    go_ret2
    exact ⟨_, _, ns, _, rfl, hp5.base hs1, HSH.out, ho5, by rw [List.length_take]; omega, hb5⟩

end Go.Proofs.Yteelobokjidphaa
