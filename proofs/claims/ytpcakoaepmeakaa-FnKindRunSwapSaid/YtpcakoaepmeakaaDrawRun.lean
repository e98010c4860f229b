/- The contract of the drawing of a kind and rows. No condition. -/
import Derived.Test.YtpcakoaepmeakaaDrawRow
import Derived.Test.YtpcakoaepmeakaaKind
import Derived.Test.YtpcakoaepmeakaaGrid
namespace Go.Proofs.Ytpcakoaepmeakaa
open Go.RowKit

def RunDrawn (w : World) (e : Ending) (w' : World) : Prop :=
  ∃ k v xss, e = .returned (.tuple #[.int .i64 k, v]) ∧ RS w' w'.heap.size v xss ∧ xss.length ≤ 3 ∧ 0 ≤ k ∧ k ≤ 5 ∧ Below w.heap.size w w'

/-- The rows as far as they are drawn. -/
def RunAt (w : World) (r P k : Nat) (o : Value) (wr : World) : Prop :=
  ∃ xss, xss.length = k ∧ Grid wr (r + 1) o xss ∧ RD wr w.heap.size r (P + k * 30) ∧ Below w.heap.size w wr

/-- What is drawn behind how many rows there are to be. -/
theorem knI_range (k : Int) (h0 : 0 ≤ k) (h5 : k ≤ 5) : 0 ≤ knI k ∧ knI k ≤ 2 := by
  have : kvB k = true := by unfold kvB; simp [h0, h5]
  unfold knI
  rw [if_pos this]
  (repeat' split) <;> omega

set_option maxHeartbeats 8000000 in
theorem drawRun_any (v : Value) (bs : List Int) (w : World) (h : BL w v bs) :
    Calls Try.prog 15 #[v] w (RunDrawn w) := by
  go_enter Try.func15, Try.ntmps15
  go_wp2_with fail
  refine (l6Open_any v bs w h).mono ?_
  rintro e w1 ⟨rfl, hrd, hb⟩
  go_wp2_with fail
  refine (pick_any _ _ _ 6 _ hrd (by omega) (by omega)).mono ?_
  rintro e w2 ⟨k, rfl, hk0, hk1, -, hrd2, hm2⟩
  have hk5 : k ≤ 5 := by have := hk1 (by omega); omega
  replace hb := hm2.below hb (Nat.le_refl _) hb.size
  clear hrd hm2 hk1
  go_wp2_with fail
  refine (skn_any _ _).mono ?_
  rintro e w' ⟨rfl, rfl⟩
  obtain ⟨hn0, hn2⟩ := knI_range k hk0 hk5
  obtain ⟨n0, hn⟩ := Int.eq_ofNat_of_zero_le hn0
  rw [hn] at hn2 ⊢
  have hmax : max (n0 : Int) 0 = (n0 : Int) := by omega
  clear hn hn0
  go_wp2_with fail
  refine (pick_any _ _ _ 12 _ hrd2 (by omega) (by omega)).mono ?_
  rintro e w3 ⟨q3, rfl, -, -, -, hrd3, hm3⟩
  replace hb := hm3.below hb (Nat.le_refl _) hb.size
  clear hrd2 hm3
  by_cases hq3 : q3 = 0
  · subst hq3
    go_wp2_with fail
    refine (pick_any _ _ _ 4 _ hrd3 (by omega) (by omega)).mono ?_
    rintro e w4 ⟨q4, rfl, h40, h41, -, hrdX, hm4⟩
    replace hb := hm4.below hb (Nat.le_refl _) hb.size
    obtain ⟨n, rfl⟩ := Int.eq_ofNat_of_zero_le h40
    have hnn : n ≤ 3 := by have := h41 (by omega); omega
    clear hrd3 hm4 h41 h40 hmax hn2
    go_wp2_with fail
    refine (pick_any _ _ _ 6 _ hrdX (by omega) (by omega)).mono ?_
    rintro e w5 ⟨q5, rfl, h50, h51, -, hrd5, hm5⟩
    replace hb := hm5.below hb (Nat.le_refl _) hb.size
    obtain ⟨wide, rfl⟩ := Int.eq_ofNat_of_zero_le h50
    have h52 : wide ≤ 5 := by have := h51 (by omega); omega
    clear hrdX hm5 h51 h50
    go_wp2_with fail
    go_loopw [8, 9] (fun o i wr => ∃ k : Nat, k ≤ n ∧ i = .int .i64 (k : Int) ∧ RunAt w w.heap.size 5 k o wr) (fun _ i _ => n - (intOf i).toNat)
    case atStart => exact ⟨0, Nat.zero_le _, rfl, [], rfl, Grid.fresh0 w5 (by have := hrd5.lt; omega), (hrd5.mod (Mod.alloc w5 _) (.inr rfl)).up (by omega), hb.alloc hb.size _⟩
    case round =>
      clear hb hrd5
      obtain ⟨j, hj, rfl, xss, hxs, hgrid, hrd, hb⟩ := hrel
      have hrl := hrd.lt
      have HXS := hid hxs
      clear hxs
      by_cases hlt : j < n
      · go_wp2_with fail
        refine (l91Row_any _ _ _ wide _ hrd (by omega) (by omega)).mono ?_
        rintro e w6 ⟨vo, xs, rfl, ho, hx, hrd6, hm6⟩
        have hs6 := hm6.size
        replace hb := hm6.below hb (Nat.le_refl _) hb.size
        replace hgrid := hgrid.mod hm6 (Nat.le_refl _)
        replace ho := ho.base (B := w.heap.size + 1) (by omega)
        clear hrd hm6 hx
        obtain ⟨av, cv, rfl, -⟩ := id ho.rl
        obtain ⟨vs, g1, g2, g3⟩ := hgrid
        have G3 := hid g3
        have hvl : vs.length < 1099511627776 := by have := HXS.out; omega
        have G1 := hid g1
        clear g3 g1
        go_wp2_with (at_builtin; refine appV rfl _ _ 23 rfl Try.underlying23 (w.heap.size + 1) _ _ _ ho.oneCell g2 rfl rfl hvl (Below.refl _ _) (by omega) ?_; intro v7 w7 ho7 hb7 hg7)
        go_roundw
        case rel => exact ⟨j + 1, by omega, by go_num, xss ++ [xs], by simp [HXS.out], Grid.snoc G1.out g2 G3.out ho ho7 hg7, (hrd6.below hb7 (Nat.lt_succ_self _)).up (by omega), hb.trans (hb7.mono (Nat.le_succ _))⟩
        case measure => simp [intOf]; omega
      · obtain rfl : j = n := by omega
        by_cases hj0 : j = 0
        · subst hj0
          go_wp2_with fail
          go_ret2
          exact ⟨k, _, xss, rfl, hgrid.rs, by have := HXS.out; omega, hk0, hk5, hb⟩
        · have hj1 : 0 < j := by omega
          go_wp2_with fail
          refine (pick_any _ _ _ 20 _ hrd (by omega) (by omega)).mono ?_
          rintro e w6 ⟨q6, rfl, -, -, -, hrd6, hm6⟩
          have hs6 := hm6.size
          replace hb := hm6.below hb (Nat.le_refl _) hb.size
          replace hgrid := hgrid.mod hm6 (Nat.le_refl _)
          clear hrd hm6
          by_cases hq6 : q6 = 0
          · subst hq6
            go_wp2_with fail
            refine (pick_any _ _ _ 7 _ hrd6 (by omega) (by omega)).mono ?_
            rintro e w7 ⟨q7, rfl, h70, h71, -, hrd7, hm7⟩
            have hs7 := hm7.size
            replace hb := hm7.below hb (Nat.le_refl _) hb.size
            replace hgrid := hgrid.mod hm7 (Nat.le_refl _)
            obtain ⟨m, rfl⟩ := Int.eq_ofNat_of_zero_le h70
            have h72 := h71 (by omega)
            clear hrd6 hm7 h71
            go_wp2_with fail
            refine (l91Row_any _ _ _ m _ hrd7 (by omega) (by omega)).mono ?_
            rintro e w8 ⟨vo, xs, rfl, ho, hx, hrd8, hm8⟩
            have hs8 := hm8.size
            replace hb := hm8.below hb (Nat.le_refl _) hb.size
            replace hgrid := hgrid.mod hm8 (Nat.le_refl _)
            replace ho := ho.base (B := w.heap.size + 1) (by omega)
            clear hrd7 hm8 hx hrd8
            obtain ⟨i, hi⟩ : ∃ i, i + 1 = j := ⟨j - 1, by omega⟩
            obtain ⟨vs, g1, g2, g3⟩ := id hgrid
            have hil : i < vs.length := by have := HXS.out; omega
            obtain ⟨g, c, rfl, hg1, -, -, -⟩ := g2.at hil
            obtain ⟨hci, hfi⟩ := g2.cell hil
            have e1 : (j : Int) - 1 = (i : Int) := by omega
            have b1 : (i : Int) < (vs.length : Int) := by omega
            have b2 : (0 : Int) ≤ (i : Int) := by omega
            have hput := (hgrid.put ho i).rs
            have HP := hid hput
            have HXI := hid (show (xss.set i xs).length ≤ 3 by simp; have := HXS.out; omega)
            obtain ⟨av, cv, rfl, -⟩ := id ho.rl
            have hbs := hb.setCell (p := ⟨g, i, none⟩) (by show w.heap.size ≤ g; omega) (.slice av xs.length cv)
            have HBS := hid hbs
            clear hput g1 g3 hi hbs
            go_wp2_with fail
            go_ret2
            exact ⟨k, _, _, rfl, HP.out, HXI.out, hk0, hk5, HBS.out⟩
          · go_wp2_with fail
            go_ret2
            exact ⟨k, _, xss, rfl, hgrid.rs, by have := HXS.out; omega, hk0, hk5, hb⟩
  · obtain ⟨n, rfl⟩ : ∃ n : Nat, n = n0 := ⟨_, rfl⟩
    have hnn : n ≤ 3 := by omega
    have hrdX := hrd3.up (P' := 4) (by omega)
    clear hrd3 hn2
    go_wp2_with fail
    refine (pick_any _ _ _ 6 _ hrdX (by omega) (by omega)).mono ?_
    rintro e w5 ⟨q5, rfl, h50, h51, -, hrd5, hm5⟩
    replace hb := hm5.below hb (Nat.le_refl _) hb.size
    obtain ⟨wide, rfl⟩ := Int.eq_ofNat_of_zero_le h50
    have h52 : wide ≤ 5 := by have := h51 (by omega); omega
    clear hrdX hm5 h51 h50
    go_wp2_with fail
    go_loopw [8, 9] (fun o i wr => ∃ k : Nat, k ≤ n ∧ i = .int .i64 (k : Int) ∧ RunAt w w.heap.size 5 k o wr) (fun _ i _ => n - (intOf i).toNat)
    case atStart => exact ⟨0, Nat.zero_le _, rfl, [], rfl, Grid.fresh0 w5 (by have := hrd5.lt; omega), (hrd5.mod (Mod.alloc w5 _) (.inr rfl)).up (by omega), hb.alloc hb.size _⟩
    case round =>
      clear hb hrd5
      obtain ⟨j, hj, rfl, xss, hxs, hgrid, hrd, hb⟩ := hrel
      have hrl := hrd.lt
      have HXS := hid hxs
      clear hxs
      by_cases hlt : j < n
      · go_wp2_with fail
        refine (l91Row_any _ _ _ wide _ hrd (by omega) (by omega)).mono ?_
        rintro e w6 ⟨vo, xs, rfl, ho, hx, hrd6, hm6⟩
        have hs6 := hm6.size
        replace hb := hm6.below hb (Nat.le_refl _) hb.size
        replace hgrid := hgrid.mod hm6 (Nat.le_refl _)
        replace ho := ho.base (B := w.heap.size + 1) (by omega)
        clear hrd hm6 hx
        obtain ⟨av, cv, rfl, -⟩ := id ho.rl
        obtain ⟨vs, g1, g2, g3⟩ := hgrid
        have G3 := hid g3
        have hvl : vs.length < 1099511627776 := by have := HXS.out; omega
        have G1 := hid g1
        clear g3 g1
        go_wp2_with (at_builtin; refine appV rfl _ _ 23 rfl Try.underlying23 (w.heap.size + 1) _ _ _ ho.oneCell g2 rfl rfl hvl (Below.refl _ _) (by omega) ?_; intro v7 w7 ho7 hb7 hg7)
        go_roundw
        case rel => exact ⟨j + 1, by omega, by go_num, xss ++ [xs], by simp [HXS.out], Grid.snoc G1.out g2 G3.out ho ho7 hg7, (hrd6.below hb7 (Nat.lt_succ_self _)).up (by omega), hb.trans (hb7.mono (Nat.le_succ _))⟩
        case measure => simp [intOf]; omega
      · obtain rfl : j = n := by omega
        by_cases hj0 : j = 0
        · subst hj0
          go_wp2_with fail
          go_ret2
          exact ⟨k, _, xss, rfl, hgrid.rs, by have := HXS.out; omega, hk0, hk5, hb⟩
        · have hj1 : 0 < j := by omega
          go_wp2_with fail
          refine (pick_any _ _ _ 20 _ hrd (by omega) (by omega)).mono ?_
          rintro e w6 ⟨q6, rfl, -, -, -, hrd6, hm6⟩
          have hs6 := hm6.size
          replace hb := hm6.below hb (Nat.le_refl _) hb.size
          replace hgrid := hgrid.mod hm6 (Nat.le_refl _)
          clear hrd hm6
          by_cases hq6 : q6 = 0
          · subst hq6
            go_wp2_with fail
            refine (pick_any _ _ _ 7 _ hrd6 (by omega) (by omega)).mono ?_
            rintro e w7 ⟨q7, rfl, h70, h71, -, hrd7, hm7⟩
            have hs7 := hm7.size
            replace hb := hm7.below hb (Nat.le_refl _) hb.size
            replace hgrid := hgrid.mod hm7 (Nat.le_refl _)
            obtain ⟨m, rfl⟩ := Int.eq_ofNat_of_zero_le h70
            have h72 := h71 (by omega)
            clear hrd6 hm7 h71
            go_wp2_with fail
            refine (l91Row_any _ _ _ m _ hrd7 (by omega) (by omega)).mono ?_
            rintro e w8 ⟨vo, xs, rfl, ho, hx, hrd8, hm8⟩
            have hs8 := hm8.size
            replace hb := hm8.below hb (Nat.le_refl _) hb.size
            replace hgrid := hgrid.mod hm8 (Nat.le_refl _)
            replace ho := ho.base (B := w.heap.size + 1) (by omega)
            clear hrd7 hm8 hx hrd8
            obtain ⟨i, hi⟩ : ∃ i, i + 1 = j := ⟨j - 1, by omega⟩
            obtain ⟨vs, g1, g2, g3⟩ := id hgrid
            have hil : i < vs.length := by have := HXS.out; omega
            obtain ⟨g, c, rfl, hg1, -, -, -⟩ := g2.at hil
            obtain ⟨hci, hfi⟩ := g2.cell hil
            have e1 : (j : Int) - 1 = (i : Int) := by omega
            have b1 : (i : Int) < (vs.length : Int) := by omega
            have b2 : (0 : Int) ≤ (i : Int) := by omega
            have hput := (hgrid.put ho i).rs
            have HP := hid hput
            have HXI := hid (show (xss.set i xs).length ≤ 3 by simp; have := HXS.out; omega)
            obtain ⟨av, cv, rfl, -⟩ := id ho.rl
            have hbs := hb.setCell (p := ⟨g, i, none⟩) (by show w.heap.size ≤ g; omega) (.slice av xs.length cv)
            have HBS := hid hbs
            clear hput g1 g3 hi hbs
            go_wp2_with fail
            go_ret2
            exact ⟨k, _, _, rfl, HP.out, HXI.out, hk0, hk5, HBS.out⟩
          · go_wp2_with fail
            go_ret2
            exact ⟨k, _, xss, rfl, hgrid.rs, by have := HXS.out; omega, hk0, hk5, hb⟩
end Go.Proofs.Ytpcakoaepmeakaa
