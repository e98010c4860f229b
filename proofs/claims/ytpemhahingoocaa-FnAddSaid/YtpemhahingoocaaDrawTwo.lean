/- The contract of the drawing of two rows. No condition. -/
import Derived.Test.YtpemhahingoocaaDrawRow
namespace Go.Proofs.Ytpemhahingoocaa
open Go.RowKit

def TwoDrawn (w : World) (r : Nat) (e : Ending) (w' : World) : Prop :=
  ∃ vo uo xs ys, e = .returned (.tuple #[vo, uo]) ∧ RL w' vo xs ∧ RL w' uo ys ∧ xs.length ≤ 7 ∧ ys.length ≤ 7 ∧ Mod r (r + 1) w w'

set_option maxHeartbeats 4000000 in
theorem l91Two_any (hi r : Nat) (w : World) (h : RD w hi r 0) :
    Calls Try.prog 40 #[.pointer (some ⟨r, 0, none⟩)] w (TwoDrawn w r) := by
  have hr := h.lt
  go_enter Try.func40, Try.ntmps40
  go_wp2_with fail
  refine (pick_any _ _ _ 6 _ h (by omega) (by omega)).mono ?_
  rintro e w1 ⟨q, rfl, h0, h1, -, hrd1, hm⟩
  have hs1 := hm.size
  obtain ⟨n, rfl⟩ := Int.eq_ofNat_of_zero_le h0
  have h2 := h1 (by omega)
  clear h1 h
  go_wp2_with fail
  refine (l91Row_any _ _ _ n _ hrd1 (by omega) (by omega)).mono ?_
  rintro e w2 ⟨vo, xs, rfl, ho, hx, hrd2, hm2⟩
  have hxl : xs.length ≤ 7 := by omega
  replace hm := hm.trans hm2
  have hs2 := hm2.size
  clear hx hrd1 hm2
  go_wp2_with fail
  refine (pick_any _ _ _ 8 _ hrd2 (by omega) (by omega)).mono ?_
  rintro e w3 ⟨q3, rfl, -, -, -, hrd3, hm3⟩
  replace hm := hm.trans hm3
  replace ho := ho.mod hm3 (by omega)
  have hs3 := hm3.size
  clear hrd2 hm3
  by_cases hq : q3 = 0
  · subst hq
    go_wp2_with fail
    refine (pick_any _ _ _ 8 _ hrd3 (by omega) (by omega)).mono ?_
    rintro e w4 ⟨q4, rfl, h40, h41, -, hrd4, hm4⟩
    replace hm := hm.trans hm4
    replace ho := ho.mod hm4 (by omega)
    have hs4 := hm4.size
    obtain ⟨m, rfl⟩ := Int.eq_ofNat_of_zero_le h40
    have h42 := h41 (by omega)
    clear hrd3 hm4 h41
    go_wp2_with fail
    refine (l91Row_any _ _ _ m _ hrd4 (by omega) (by omega)).mono ?_
    rintro e w5 ⟨uo, ys, rfl, hu, hy, -, hm5⟩
    replace hm := hm.trans hm5
    replace ho := ho.mod hm5 (by omega)
    clear hm5
    go_wp2_with fail
    go_ret2
    exact ⟨vo, uo, xs, ys, rfl, ho.rl, hu.rl, hxl, by omega, hm⟩
  · go_wp2_with fail
    refine (l91Row_any _ _ _ n _ hrd3 (by omega) (by omega)).mono ?_
    rintro e w5 ⟨uo, ys, rfl, hu, hy, -, hm5⟩
    replace hm := hm.trans hm5
    replace ho := ho.mod hm5 (by omega)
    clear hm5
    go_wp2_with fail
    go_ret2
    exact ⟨vo, uo, xs, ys, rfl, ho.rl, hu.rl, hxl, by omega, hm⟩

theorem drawAdd_any (v : Value) (bs : List Int) (w : World) (h : BL w v bs) :
    Calls Try.prog 27 #[v] w (Drawn2 w 7) := by
  go_enter Try.func27, Try.ntmps27
  go_wp2_with fail
  refine (l6Open_any v bs w h).mono ?_
  rintro e w1 ⟨rfl, hrd, hb⟩
  go_wp2_with fail
  refine (l91Two_any _ _ _ hrd).mono ?_
  rintro e w2 ⟨vo, uo, xs, ys, rfl, h1, h2, h3, h4, hm⟩
  go_wp2_with fail
  go_ret2
  exact ⟨vo, uo, xs, ys, rfl, h1, h2, h3, h4, hm.below hb (Nat.le_refl _) hb.size⟩

theorem drawTimes_any (v : Value) (bs : List Int) (w : World) (h : BL w v bs) :
    Calls Try.prog 30 #[v] w (Drawn2 w 7) := by
  go_enter Try.func30, Try.ntmps30
  go_wp2_with fail
  refine (l6Open_any v bs w h).mono ?_
  rintro e w1 ⟨rfl, hrd, hb⟩
  go_wp2_with fail
  refine (l91Two_any _ _ _ hrd).mono ?_
  rintro e w2 ⟨vo, uo, xs, ys, rfl, h1, h2, h3, h4, hm⟩
  go_wp2_with fail
  go_ret2
  exact ⟨vo, uo, xs, ys, rfl, h1, h2, h3, h4, hm.below hb (Nat.le_refl _) hb.size⟩

end Go.Proofs.Ytpemhahingoocaa
