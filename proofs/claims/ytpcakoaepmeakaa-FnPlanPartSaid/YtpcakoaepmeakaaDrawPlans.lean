/- The contracts of the drawings of plans. No condition. -/
import Derived.Test.YtpcakoaepmeakaaDrawPlan
import Derived.Deep.RegionHeld3
import Derived.RegionTactic
namespace Go.Proofs.Ytpcakoaepmeakaa
open Go.RowKit
set_option maxRecDepth 100000

def PlanGot (w : World) (e : Ending) (w' : World) : Prop := ∃ vo ns, e = .returned vo ∧ PR False w' w.heap.size w'.heap.size vo ns ∧ Short ns ∧ Below w.heap.size w w'
def PlanAtGot (w : World) (e : Ending) (w' : World) : Prop := ∃ vo ns a, e = .returned (.tuple #[vo, .int .i64 a]) ∧ PR False w' w.heap.size w'.heap.size vo ns ∧ Short ns ∧ Below w.heap.size w w'
theorem Mod.to_below {w w1 w2 : World} (h : Mod w.heap.size (w.heap.size + 1) w1 w2) (hb : Below w.heap.size w w1) (hs : w.heap.size ≤ w1.heap.size) : Below w.heap.size w w2 := h.below hb (Nat.le_refl _) hs

theorem drawEnds_any (v : Value) (xs : List Int) (w : World) (h : BL w v xs) : Calls Try.prog 42 #[v] w (PlanGot w) := by
  obtain ⟨a, c, rfl, -⟩ := id h
  go_enter Try.func42, Try.ntmps42
  go_wp2_with fail
  refine (l6Open_any _ _ _ h).mono ?_
  rintro e w1 ⟨rfl, hrd, hb⟩
  have hs1 := hb.size
  go_wp2_with fail
  refine (l91Plan_any _ _ _ _ hrd (by omega)).mono ?_
  rintro e w2 ⟨vo, ns, rfl, hp, hsh, -, hm⟩
  go_wp2_with fail
  go_ret
  exact ⟨_, ns, rfl, hp.base hs1, hsh, hm.to_below hb hs1⟩

set_option maxHeartbeats 1000000 in
theorem drawValidP_any (v : Value) (xs : List Int) (w : World) (h : BL w v xs) : Calls Try.prog 34 #[v] w (PlanGot w) := by
  obtain ⟨a, c, rfl, -⟩ := id h
  go_enter Try.func34, Try.ntmps34
  go_wp2_with fail
  refine (l6Open_any _ _ _ h).mono ?_
  rintro e w1 ⟨rfl, hrd, hb⟩
  have hs1 := hb.size
  have hlt1 := hrd.lt
  clear h
  go_wp2_with fail
  refine (l91Plan_any _ _ _ _ hrd (by omega)).mono ?_
  rintro e w2 ⟨vo, ns, rfl, hp, hsh, hrd2, hm⟩
  have hb2 := hm.to_below hb hs1
  have HSH := hid hsh
  have hl := hsh.1
  clear hm hrd hb hsh
  by_cases h0 : 0 < ns.length
  · have h0' : (0 : Int) < (ns.length : Int) := by omega
    obtain ⟨g, c, rfl, hg1, hg2, hc1, hc2⟩ := hp.at h0
    unfold maxLen at hc2
    have hr2 := hrd2.lt
    go_wp2_with fail
    refine (pick_any _ _ _ 6 _ hrd2 (by omega) (by omega)).mono ?_
    rintro e w3 ⟨q3, rfl, -, -, -, hrd3, hm3⟩
    have hs3 := hm3.size
    have hb3 := hm3.to_below hb2 hb2.size
    have hp3 : PR False w3 w1.heap.size w3.heap.size _ ns := (hp.mod hm3 (by omega)).up hs3 (Nat.le_refl _)
    clear hp hrd2 hm3 hb2
    by_cases h3 : q3 = 0
    · subst h3
      go_wp2_with fail
      refine (pick_any _ _ _ ns.length _ hrd3 (by omega) (by omega)).mono ?_
      rintro e w4 ⟨q4, rfl, h40, h41, -, hrd4, hm4⟩
      obtain ⟨j, rfl⟩ := Int.eq_ofNat_of_zero_le h40
      have hj := h41 (by omega)
      have hs4 := hm4.size
      have hb4 := hm4.to_below hb3 hb3.size
      have hp4 : PR False w4 w1.heap.size w4.heap.size _ ns := (hp3.mod hm4 (by omega)).up hs4 (Nat.le_refl _)
      clear hp3 hrd3 hm4 hb3 h41
      go_wp2_with fail
      refine (pick_any _ _ _ 8 _ hrd4 (by omega) (by omega)).mono ?_
      rintro e w5 ⟨q5, rfl, h50, h51, -, -, hm5⟩
      have hq5 := h51 (by omega)
      have hs5 := hm5.size
      have hb5 := hm5.to_below hb4 hb4.size
      have hp5 : PR False w5 w1.heap.size w5.heap.size _ ns := (hp4.mod hm5 (by omega)).up hs5 (Nat.le_refl _)
      have hjn : j < ns.length := by omega
      have HQ := hid (hp5.kind hjn (q5 - 1))
      obtain ⟨f9, r9, c0, -, -, -, -⟩ := hp5.cells hjn
      have z0 := hp5.frozen (j * 3)
      have HS := hid (show Short (ns.set j ⟨q5 - 1, (ns.getD j nd0).fs, (ns.getD j nd0).row⟩) from ⟨by rw [List.length_set]; exact hl, fun x hx => by
        rcases List.mem_or_eq_of_mem_set hx with h | rfl
        · exact HSH.out.2 x h
        · have := HSH.out.2 (ns.getD j nd0) (by have e : ns.getD j nd0 = ns[j] := by simp [hjn]
                                                rw [e]; exact List.getElem_mem _)
          exact this⟩)
      clear hp4 hp5 hm5 hb4 h51
      go_wp2_with fail
      go_ret
      exact ⟨_, _, rfl, (HQ.out.up (by simp) (Nat.le_refl _)).base hs1, HS.out, hb5.setCell (Nat.le_trans hs1 hg1) _⟩
    · have hz : (q3 == 0) = false := by simpa using h3
      clear h3
      go_wp2_with fail
      go_ret
      exact ⟨_, ns, rfl, hp3.base hs1, HSH.out, hb3⟩
  · have h0' : ¬ (0 : Int) < (ns.length : Int) := by omega
    obtain ⟨a2, c2, rfl, -⟩ := hp.shape
    clear h0
    go_wp2_with fail
    go_ret
    exact ⟨_, ns, rfl, hp.base hs1, HSH.out, hb2⟩

/-- A plan and a number. -/
def AtDrawn (w : World) (hi r P : Nat) (e : Ending) (w' : World) : Prop :=
  ∃ vo ns a, e = .returned (.tuple #[vo, .int .i64 a]) ∧ PR False w' w.heap.size w'.heap.size vo ns ∧ Short ns ∧ -1 ≤ a ∧ a ≤ 11 ∧ RD w' hi r P ∧ Mod r (r + 1) w w'
set_option maxHeartbeats 1000000 in
theorem l91At_any (hi r : Nat) (w : World) (h : RD w hi r 0) :
    Calls Try.prog 73 #[.pointer (some ⟨r, 0, none⟩)] w (AtDrawn w hi r 2000) := by
  have hr := h.lt
  go_enter Try.func73, Try.ntmps73
  go_wp2_with fail
  refine (l91Plan_any _ _ _ _ h (by omega)).mono ?_
  rintro e w2 ⟨vo, ns, rfl, hp, hsh, hrd2, hm2⟩
  have hl := hsh.1
  have HSH := hid hsh
  obtain ⟨a2, c2, rfl, -⟩ := hp.shape
  have hs2 := hm2.size
  clear hsh h
  go_wp2_with fail
  refine (pick_any _ _ _ ((ns.length : Int) + 1) _ hrd2 (by omega) (by omega)).mono ?_
  rintro e w3 ⟨q3, rfl, h30, h31, -, hrd3, hm3⟩
  have hq3 := h31 (by omega)
  have hs3 := hm3.size
  replace hp := (hp.mod hm3 (by omega)).up hs3 (Nat.le_refl _)
  clear hrd2 h31
  go_wp2_with fail
  refine (pick_any _ _ _ 20 _ hrd3 (by omega) (by omega)).mono ?_
  rintro e w4 ⟨q4, rfl, h40, h41, -, hrd4, hm4⟩
  have hq4 := h41 (by omega)
  have hs4 := hm4.size
  replace hp := (hp.mod hm4 (by omega)).up hs4 (Nat.le_refl _)
  have hdv : 0 ≤ q4 / 19 ∧ q4 / 19 ≤ 1 := by omega
  clear hrd3 h41
  go_wp2_with fail
  go_ret2
  exact ⟨_, ns, _, rfl, hp, HSH.out, by omega, by omega, hrd4.up (by omega), (hm2.trans hm3).trans hm4⟩



set_option maxHeartbeats 1000000 in
theorem drawUses_any (v : Value) (xs : List Int) (w : World) (h : BL w v xs) : Calls Try.prog 38 #[v] w (PlanAtGot w) := by
  obtain ⟨a, c, rfl, -⟩ := id h
  go_enter Try.func38, Try.ntmps38
  go_wp2_with fail
  refine (l6Open_any _ _ _ h).mono ?_
  rintro e w1 ⟨rfl, hrd, hb⟩
  have hs1 := hb.size
  have hlt1 := hrd.lt
  clear h
  go_wp2_with fail
  refine (l91At_any _ _ _ hrd).mono ?_
  rintro e w2 ⟨vo, ns, at_, rfl, hp, hsh, ha0, ha1, hrd2, hm⟩
  have HSH := hid hsh
  have hb2 := hm.to_below hb hs1
  have hrd2' : RD w2.drew w.heap.size w.heap.size 2000 := hrd2
  obtain ⟨a2, c2, rfl, -⟩ := hp.shape
  have HP := hid hp
  clear hsh hm hrd hb hrd2 hp
  go_wp2_with fail
  go_region_held3 (fun _ => True) (trivial)
    (first
      | ((go_at_call 53; refine (pick_any _ _ _ 2 w2.drew hrd2' (by omega) (by omega)).mono ?_; rintro e w3 ⟨q3, rfl, h30, h31, -, -, hm3⟩
          have hq3 := h31 (by omega)
          have hne3 : ¬ (1 + q3 = 0) := by omega
          have hne4 : (1 + q3 == 0) = false := by simpa using hne3
          have hw3 : IntKind.i64.wrap (1 + q3) = 1 + q3 := IntWalk.i64_in _ (by omega)
          clear h31))
      | fail)
  have hs3 : w2.heap.size ≤ w3.heap.size := hm3.size
  have hb3 := hm3.to_below ((Mod.drewN w2 1).below0 hb2 hb2.size) hb2.size
  have hp3 : PR False w3 w1.heap.size w3.heap.size _ ns := ((HP.out.mod (Mod.drewN w2 1) (.inr (Nat.zero_le _))).mod hm3 (by omega)).up hs3 (Nat.le_refl _)
  go_wp2_with fail
  go_ret2
  exact ⟨_, ns, _, rfl, hp3.base hs1, HSH.out, hb3⟩
end Go.Proofs.Ytpcakoaepmeakaa
