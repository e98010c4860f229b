/- The contracts of the drawings of plans. No condition. -/
import Derived.Test.YteelobokjidphaaDrawPlan
import Derived.Deep.RegionHeld3
import Derived.RegionTactic
namespace Go.Proofs.Yteelobokjidphaa
open Go.RowKit
set_option maxRecDepth 100000

def PlanGot (w : World) (e : Ending) (w' : World) : Prop := ∃ vo ns, e = .returned vo ∧ PR False w' w.heap.size w'.heap.size vo ns ∧ Short ns ∧ Below w.heap.size w w'
def PlanAtGot (w : World) (e : Ending) (w' : World) : Prop := ∃ vo ns a, e = .returned (.tuple #[vo, .int .i64 a]) ∧ PR False w' w.heap.size w'.heap.size vo ns ∧ Short ns ∧ Below w.heap.size w w'
theorem Mod.to_below {w w1 w2 : World} (h : Mod w.heap.size (w.heap.size + 1) w1 w2) (hb : Below w.heap.size w w1) (hs : w.heap.size ≤ w1.heap.size) : Below w.heap.size w w2 := h.below hb (Nat.le_refl _) hs

theorem drawValues_any (v : Value) (xs : List Int) (w : World) (h : BL w v xs) : Calls Try.prog 48 #[v] w (PlanGot w) := by
  obtain ⟨a, c, rfl, -⟩ := id h
  go_enter Try.func48, Try.ntmps48
  go_wp2_with fail
  refine (l6Open_any _ _ _ h).mono ?_
  rintro e w1 ⟨rfl, hrd, hb⟩
  have hs1 := hb.size
  go_wp2_with fail
  refine (l91Plan_any _ _ _ _ hrd (by omega)).mono ?_
  rintro e w2 ⟨vo, ns, rfl, hp, hsh, -, hm⟩
  go_wp2_with fail
  go_ret
  exact ⟨_, ns, rfl, hp.base hs1, hsh, hm.to_below hb hs1⟩


/-- A plan and a number. -/
def AtDrawn (w : World) (hi r P : Nat) (e : Ending) (w' : World) : Prop :=
  ∃ vo ns a, e = .returned (.tuple #[vo, .int .i64 a]) ∧ PR False w' w.heap.size w'.heap.size vo ns ∧ Short ns ∧ -1 ≤ a ∧ a ≤ 11 ∧ RD w' hi r P ∧ Mod r (r + 1) w w'
set_option maxHeartbeats 1000000 in
theorem l91At_any (hi r : Nat) (w : World) (h : RD w hi r 0) :
    Calls Try.prog 77 #[.pointer (some ⟨r, 0, none⟩)] w (AtDrawn w hi r 2000) := by
  have hr := h.lt
  go_enter Try.func77, Try.ntmps77
  go_wp2_with fail
  refine (l91Plan_any _ _ _ _ h (by omega)).mono ?_
  rintro e w2 ⟨vo, ns, rfl, hp, hsh, hrd2, hm2⟩
  have hl := hsh.1
  have HSH := hid hsh
  obtain ⟨a2, c2, rfl, -⟩ := hp.shape
  have hs2 := hm2.size
  clear hsh h
  go_wp2_with fail
  refine (pick_any _ _ _ ((ns.length : Int) + 1) _ hrd2 (by omega) (by omega)).mono ?_
  rintro e w3 ⟨q3, rfl, h30, h31, -, hrd3, hm3⟩
  have hq3 := h31 (by omega)
  have hs3 := hm3.size
  replace hp := (hp.mod hm3 (by omega)).up hs3 (Nat.le_refl _)
  clear hrd2 h31
  go_wp2_with fail
  refine (pick_any _ _ _ 20 _ hrd3 (by omega) (by omega)).mono ?_
  rintro e w4 ⟨q4, rfl, h40, h41, -, hrd4, hm4⟩
  have hq4 := h41 (by omega)
  have hs4 := hm4.size
  replace hp := (hp.mod hm4 (by omega)).up hs4 (Nat.le_refl _)
  have hdv : 0 ≤ q4 / 19 ∧ q4 / 19 ≤ 1 := by omega
  clear hrd3 h41
  go_wp2_with fail
  go_ret2
  exact ⟨_, ns, _, rfl, hp, HSH.out, by omega, by omega, hrd4.up (by omega), (hm2.trans hm3).trans hm4⟩

theorem drawValueOf_any (v : Value) (xs : List Int) (w : World) (h : BL w v xs) : Calls Try.prog 50 #[v] w (PlanAtGot w) := by
  obtain ⟨a, c, rfl, -⟩ := id h
  go_enter Try.func50, Try.ntmps50
  go_wp2_with fail
  refine (l6Open_any _ _ _ h).mono ?_
  rintro e w1 ⟨rfl, hrd, hb⟩
  have hs1 := hb.size
  go_wp2_with fail
  refine (l91At_any _ _ _ hrd).mono ?_
  rintro e w2 ⟨vo, ns, at_, rfl, hp, hsh, -, -, -, hm⟩
  go_wp2_with fail
  go_ret2
  exact ⟨_, ns, _, rfl, hp.base hs1, hsh, hm.to_below hb hs1⟩


end Go.Proofs.Yteelobokjidphaa
