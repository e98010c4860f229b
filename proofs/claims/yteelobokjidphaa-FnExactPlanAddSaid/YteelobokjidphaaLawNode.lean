/- The contracts of the statements' own helpers over nodes and plans: size, copy, compare. No condition. -/
import Derived.Test.YteelobokjidphaaPlan
import Derived.Test.YteelobokjidphaaLawInt
namespace Go.Proofs.Yteelobokjidphaa
open Go.RowKit
set_option maxRecDepth 100000

set_option maxHeartbeats 1000000 in
theorem szNode_any (kd : Int) (vf vr : Value) (fs row : List Int) (left : Int) (w : World) (hf : RL w vf fs) (hr : RL w vr row) (h0 : 0 ≤ left) (h1 : left ≤ 1048576) :
    Calls Try.prog 35 #[.agg #[.int .i64 kd, vf, vr], .int .i64 left] w (fun e w' => (∃ n : Int, e = .returned (.int .i64 n) ∧ n ≤ left ∧ (n < 0 ∨ ((fs.length : Int) ≤ left ∧ (row.length : Int) ≤ left))) ∧ Mod 0 0 w w') := by
  have m0 := Mod.alloc w (.cells #[.int .i64 kd, vf, vr] 44)
  have hf1 := (hf.rr.mod m0 (.inr (Nat.zero_le _))).rl
  have hr1 := (hr.rr.mod m0 (.inr (Nat.zero_le _))).rl
  obtain ⟨af, cf, rfl, -⟩ := id hf
  obtain ⟨ar, cr, rfl, -⟩ := id hr
  by_cases hle : (fs.length : Int) ≤ left
  · by_cases hle2 : (row.length : Int) ≤ left - fs.length
    · have hn1 : ¬ (left - (fs.length : Int) < 0) := by omega
      have hn2 : ¬ (left - (fs.length : Int) - row.length < 0) := by omega
      go_enter Try.func35, Try.ntmps35
      go_wp2_with fail
      refine (szInt_any _ fs left _ hf1 h0 h1).mono ?_
      rintro e _ ⟨rfl, rfl⟩
      rw [if_pos hle]
      go_wp2_with fail
      refine (szInt_any _ row _ _ hr1 (by omega) (by omega)).mono ?_
      rintro e _ ⟨rfl, rfl⟩
      rw [if_pos hle2]
      go_wp2_with fail
      go_ret
      exact ⟨⟨_, rfl, by omega, .inr ⟨by omega, by omega⟩⟩, m0⟩
    · have hn1 : ¬ (left - (fs.length : Int) < 0) := by omega
      go_enter Try.func35, Try.ntmps35
      go_wp2_with fail
      refine (szInt_any _ fs left _ hf1 h0 h1).mono ?_
      rintro e _ ⟨rfl, rfl⟩
      rw [if_pos hle]
      go_wp2_with fail
      refine (szInt_any _ row _ _ hr1 (by omega) (by omega)).mono ?_
      rintro e _ ⟨rfl, rfl⟩
      rw [if_neg (by omega)]
      go_wp2_with fail
      go_ret
      exact ⟨⟨_, rfl, by omega, .inl (by omega)⟩, m0⟩
  · go_enter Try.func35, Try.ntmps35
    go_wp2_with fail
    refine (szInt_any _ fs left _ hf1 h0 h1).mono ?_
    rintro e _ ⟨rfl, rfl⟩
    rw [if_neg (by omega)]
    go_wp2_with fail
    go_ret
    exact ⟨⟨_, rfl, by omega, .inl (by omega)⟩, m0⟩

/-- How many numbers of a plan fit. -/
def FitsN (left : Int) (ns : List Nd) (n : Int) : Prop := 0 ≤ n → ns.length ≤ left ∧ ∀ i, i < ns.length → ((ns.getD i nd0).fs.length : Int) ≤ left ∧ ((ns.getD i nd0).row.length : Int) ≤ left
set_option maxHeartbeats 1000000 in
theorem szNodes_any (v : Value) (ns : List Nd) (hi : Nat) (left : Int) (w : World) (h : PL w hi v ns) (h0 : 0 ≤ left) (h1 : left ≤ 1048576) :
    Calls Try.prog 17 #[v, .int .i64 left] w (fun e w' => (∃ n : Int, e = .returned (.int .i64 n) ∧ n ≤ left ∧ FitsN left ns n) ∧ Mod 0 0 w w') := by
  obtain ⟨a, c, rfl, h2, h3, hs, h4⟩ := h
  unfold maxLen at h3
  have H4 := hid h4
  clear h4
  have e1 : IntKind.i64.wrap (left - (ns.length : Int)) = left - ns.length := IntWalk.i64_in _ (by omega)
  by_cases hle : (ns.length : Int) ≤ left
  · have hn : ¬ (left - (ns.length : Int) < 0) := by omega
    go_enter Try.func17, Try.ntmps17
    go_wp2_with fail
    go_loopw [1, 5] (fun q i wr => ∃ k : Nat, k ≤ ns.length ∧ i = .int .i64 k ∧ (∃ n : Int, q = .int .i64 n ∧ 0 ≤ n ∧ n ≤ left) ∧ (∀ i, i < k → ((ns.getD i nd0).fs.length : Int) ≤ left ∧ ((ns.getD i nd0).row.length : Int) ≤ left) ∧ Mod 0 0 w wr) (fun _ i _ => ns.length - (intOf i).toNat)
    case atStart => exact ⟨0, Nat.zero_le _, rfl, ⟨_, rfl, by omega, by omega⟩, fun i hi => by omega, Mod.refl _ _ _⟩
    case round =>
      obtain ⟨k, hk, rfl, ⟨n, rfl, hn0, hn1⟩, hall, hm⟩ := hrel
      by_cases hlt : k < ns.length
      · obtain ⟨b, o, f, r, rfl, hb, c0, c1, c2, hf, hr⟩ := H4.out k hlt
        have hk0 := hm.block b (Nat.lt_of_lt_of_le hb hs) (.inr (Nat.zero_le _))
        replace c0 := (World.cell?_of_block (a := ⟨b, o + k * 3, none⟩) hk0).trans c0
        replace c1 := (World.cell?_of_block (a := ⟨b, o + k * 3 + 1, none⟩) hk0).trans c1
        replace c2 := (World.cell?_of_block (a := ⟨b, o + k * 3 + 2, none⟩) hk0).trans c2
        replace hf := hf.mod hm (.inr (Nat.zero_le _))
        replace hr := hr.mod hm (.inr (Nat.zero_le _))
        obtain ⟨x, hx⟩ : ∃ x, x = ns.getD k nd0 := ⟨_, rfl⟩
        rw [← hx] at c0 hf hr
        obtain ⟨kd, fs, row⟩ := x
        simp only at c0 hf hr
        obtain ⟨af, cf, rfl, -⟩ := id hf
        obtain ⟨ar, cr, rfl, -⟩ := id hr
        have HX := hid hx
        have HALL := hid hall
        clear hx hall hk0
        go_wp2_with fail
        refine (szNode_any kd _ _ fs row n wr hf.rl hr.rl hn0 (by omega)).mono ?_
        rintro e w5 ⟨⟨n', rfl, hn2, hn3⟩, hm5⟩
        by_cases hneg : n' < 0
        · clear hn3
          go_wp2_with fail
          go_ret
          exact ⟨⟨_, rfl, by omega, fun h => by omega⟩, hm.trans hm5⟩
        · obtain ⟨hf6, hr6⟩ : (fs.length : Int) ≤ n ∧ (row.length : Int) ≤ n := by omega
          clear hn3
          go_wp2_with fail
          go_roundw
          case rel =>
            refine ⟨k + 1, by omega, by go_num, ⟨_, rfl, by omega, by omega⟩, fun i hi => ?_, hm.trans hm5⟩
            by_cases e : i = k
            · subst e; rw [← HX.out]; exact ⟨by show (fs.length : Int) ≤ left; omega, by show (row.length : Int) ≤ left; omega⟩
            · exact HALL.out i (by omega)
          case measure => simp [intOf]; omega
      · obtain rfl : k = ns.length := by omega
        have HALL := hid hall
        clear hall
        go_wp2_with fail
        go_ret
        exact ⟨⟨_, rfl, hn1, fun _ => ⟨hle, HALL.out⟩⟩, hm⟩
  · have hn : left - (ns.length : Int) < 0 := by omega
    go_enter Try.func17, Try.ntmps17
    go_wp2_with fail
    go_ret
    exact ⟨⟨_, rfl, by omega, fun h => by omega⟩, Mod.refl _ _ _⟩
end Go.Proofs.Yteelobokjidphaa
