/- Which nodes are ready, which orders fit: the contracts of the program and of the reference. No condition. -/
import Derived.Test.YteelobokjidphaaNeeds
import Derived.Deep.QuietTactic
import Derived.BigQuiet
namespace Go.Proofs.Yteelobokjidphaa
open Go.RowKit
set_option maxRecDepth 100000

theorem RL.take {w : World} {a : Option Addr} {n c : Nat} {xs : List Int} (h : RL w (.slice a n c) xs) {k : Nat} (hk : k ≤ n) : RL w (.slice a k c) (xs.take k) := by
  obtain ⟨a', c', e, h1, h2, h3⟩ := h
  simp only [Value.slice.injEq] at e
  obtain ⟨rfl, rfl, rfl⟩ := e
  have hl : (xs.take k).length = k := by rw [List.length_take]; omega
  refine ⟨a, c, by rw [hl], by omega, h2, fun i hi => ?_⟩
  rw [hl] at hi
  obtain ⟨b, o, e, hb, hc⟩ := h3 i (by omega)
  refine ⟨b, o, e, hb, ?_⟩
  rw [hc]
  simp [List.getD, hi]
theorem RL.take_at {w : World} {b o n c : Nat} {xs : List Int} (h : RL w (.slice (some ⟨b, o, none⟩) n c) xs) {k : Nat} (hk : k ≤ n) : RL w (.slice (some ⟨b, o, none⟩) k c) (xs.take k) := h.take hk

theorem all_at_false {xs ys : List Int} {k : Nat} (hk : k < ys.length) (h : hasB xs (ys.getD k 0) = false) : ys.all (hasB xs) = false := by
  cases h1 : ys.all (hasB xs)
  · rfl
  · rw [List.all_eq_true] at h1
    have e : ys.getD k 0 = ys[k] := by simp [hk]
    have := h1 _ (List.getElem_mem hk)
    rw [← e, h] at this
    cases this
theorem all_of {xs ys : List Int} (h : ∀ k, k < ys.length → hasB xs (ys.getD k 0) = true) : ys.all (hasB xs) = true := by
  rw [List.all_eq_true]
  intro x hx
  obtain ⟨k, hk, e⟩ := List.mem_iff_getElem.1 hx
  have := h k hk
  have e2 : ys.getD k 0 = ys[k] := by simp [hk]
  rw [e2, e] at this
  exact this
set_option maxHeartbeats 1000000 in
theorem l5All_any (v u : Value) (xs ys : List Int) (w : World) (h : RL w v xs) (h' : RL w u ys) :
    Calls Try.prog 87 #[v, u] w fun e w' => e = .returned (.bool (ys.all (hasB xs))) ∧ w = w' := by
  have HR := h
  obtain ⟨a, c, rfl, -⟩ := h
  obtain ⟨a', c', rfl, h1, h2, h3⟩ := h'
  unfold maxLen at h2
  obtain ⟨b, hb⟩ : ∃ b, b = ys.all (hasB xs) := ⟨_, rfl⟩
  rw [← hb]
  have HB := hid hb
  have H3 := hid h3
  clear h3 hb
  go_enter Try.func87, Try.ntmps87
  go_wp2_with fail
  go_loop [5] (fun i => ∃ k : Nat, k ≤ ys.length ∧ i = .int .i64 k ∧ ∀ j, j < k → hasB xs (ys.getD j 0) = true) (fun i => ys.length - (intOf i).toNat)
  case atStart => exact ⟨0, Nat.zero_le _, rfl, fun j hj => by omega⟩
  case round =>
    obtain ⟨k, hk, rfl, hall⟩ := hrel
    by_cases hlt : k < ys.length
    · obtain ⟨b', o, rfl, hbs, hc⟩ := H3.out k hlt
      obtain ⟨x, hx⟩ : ∃ x, x = ys.getD k 0 := ⟨_, rfl⟩
      rw [← hx] at hc
      have HX := hid hx
      have HALL := hid hall
      clear hx hall
      cases hh : hasB xs x
      · have hd : ys.all (hasB xs) = false := all_at_false hlt (by rw [← HX.out]; exact hh)
        have HD := hid hd
        have HH := hid hh
        clear hd hh
        go_wp2_with fail
        refine (has_any _ xs x w HR).mono ?_
        rintro e _ ⟨rfl, rfl⟩
        rw [HH.out]
        go_wp2_with fail
        go_ret
        exact ⟨by rw [HB.out, HD.out]; rfl, rfl⟩
      · have HH := hid hh
        clear hh
        go_wp2_with fail
        refine (has_any _ xs x w HR).mono ?_
        rintro e _ ⟨rfl, rfl⟩
        rw [HH.out]
        go_wp2_with fail
        go_round
        case rel =>
          refine ⟨k + 1, by omega, by go_num, fun j hj => ?_⟩
          by_cases e : j = k
          · subst e; rw [← HX.out]; exact HH.out
          · exact HALL.out j (by omega)
        case measure => simp [intOf]; omega
    · obtain rfl : k = ys.length := by omega
      have HD := hid (all_of hall)
      clear hall
      go_wp2_with fail
      go_ret
      exact ⟨by rw [HB.out, HD.out]; rfl, rfl⟩

set_option maxHeartbeats 1000000 in
/-- The marks of the numbers `pre`. -/
theorem allIn_any (v : Value) (xs pre : List Int) (S : Nat) (s : Nat → Bool) (w : World) (h : RL w v xs) (hsb : SB w S s) (N : Nat) (hN : N ≤ 10) (hs : ∀ x : Nat, x < N → s x = hasB pre x) (hx : ∀ x ∈ xs, 0 ≤ x ∧ x < (N : Int)) :
    Calls Try.prog 85 #[v, .pointer (some ⟨S, 0, none⟩)] w fun e w' => e = .returned (.bool (xs.all (hasB pre))) ∧ w = w' := by
  obtain ⟨a, c, rfl, h1, h2, h3⟩ := h
  unfold maxLen at h2
  obtain ⟨b, hb⟩ : ∃ b, b = xs.all (hasB pre) := ⟨_, rfl⟩
  rw [← hb]
  have HB := hid hb
  have H3 := hid h3
  have HSB := hid hsb
  have HS := hid hs
  have HX0 := hid (show ∀ k, k < xs.length → 0 ≤ xs.getD k 0 ∧ xs.getD k 0 < (N : Int) from fun k hk => hx _ (by
    have e : xs.getD k 0 = xs[k] := by simp [hk]
    rw [e]; exact List.getElem_mem _))
  clear h3 hb hsb hs hx
  go_enter Try.func85, Try.ntmps85
  go_wp2_with fail
  go_loop [9] (fun i => ∃ k : Nat, k ≤ xs.length ∧ i = .int .i64 k ∧ ∀ j, j < k → hasB pre (xs.getD j 0) = true) (fun i => xs.length - (intOf i).toNat)
  case atStart => exact ⟨0, Nat.zero_le _, rfl, fun j hj => by omega⟩
  case round =>
    obtain ⟨k, hk, rfl, hall⟩ := hrel
    by_cases hlt : k < xs.length
    · obtain ⟨b', o, rfl, hbs, hc⟩ := H3.out k hlt
      obtain ⟨q0, q1⟩ := HX0.out k hlt
      obtain ⟨x, hx⟩ := Int.eq_ofNat_of_zero_le q0
      rw [hx] at hc q1
      have hx10 : x < 10 := by omega
      have sc := HSB.out.cell hx10
      rw [HS.out x (by omega)] at sc
      have HX := hid hx
      have HALL := hid hall
      have x0 : (0 : Int) ≤ (x : Int) := by omega
      have q2 : (x : Int) < 10 := by omega
      clear hx hall q0
      cases hh : hasB pre x
      · rw [hh] at sc
        have hd : xs.all (hasB pre) = false := all_at_false hlt (by rw [HX.out]; exact hh)
        have HD := hid hd
        clear hd hh
        go_wp2_with fail
        go_ret
        exact ⟨by rw [HB.out, HD.out]; rfl, rfl⟩
      · rw [hh] at sc
        have HH := hid hh
        clear hh
        go_wp2_with fail
        go_round
        case rel =>
          refine ⟨k + 1, by omega, by go_num, fun j hj => ?_⟩
          by_cases e : j = k
          · subst e; rw [HX.out]; exact HH.out
          · exact HALL.out j (by omega)
        case measure => simp [intOf]; omega
    · obtain rfl : k = xs.length := by omega
      have HD := hid (all_of hall)
      clear hall
      go_wp2_with fail
      go_ret
      exact ⟨by rw [HB.out, HD.out]; rfl, rfl⟩

theorem hasB_snoc (pre : List Int) (x y : Int) : hasB (pre ++ [x]) y = (hasB pre y || decide (y = x)) := by
  rw [Bool.eq_iff_iff, Bool.or_eq_true, hasB_true, hasB_true, decide_eq_true_eq, List.mem_append, List.mem_singleton]
theorem take_int {xs : List Int} {k : Nat} (h : k < xs.length) : xs.take (k + 1) = xs.take k ++ [xs.getD k 0] := by
  rw [List.take_add_one]; simp [h]
theorem stepB_out {ns : List Nd} {pre : List Int} {x : Int} (h : ¬ (0 ≤ x ∧ x < (ns.length : Int))) : stepB ns pre x = false := by
  unfold stepB
  rw [inB_at]
  have : (decide (0 ≤ x) && decide (x < (ns.length : Int))) = false := by
    rw [Bool.and_eq_false_iff, decide_eq_false_iff_not, decide_eq_false_iff_not]; omega
  rw [this]; rfl
theorem stepB_in {ns : List Nd} {pre : List Int} {x : Nat} (h : x < ns.length) : stepB ns pre x = (!hasB pre x && (fsN ns x).all (hasB pre)) := by
  unfold stepB
  rw [inB_at]
  have : (decide (0 ≤ (x : Int)) && decide ((x : Int) < (ns.length : Int))) = true := by simp [h]
  rw [this, Bool.true_and, Int.toNat_natCast]
end Go.Proofs.Yteelobokjidphaa
