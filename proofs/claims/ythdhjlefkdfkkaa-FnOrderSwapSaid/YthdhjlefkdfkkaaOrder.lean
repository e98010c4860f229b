/- Which nodes are ready, which orders fit: the contracts of the program and of the reference. No condition. -/
import Derived.Test.YthdhjlefkdfkkaaNeeds
import Derived.Deep.QuietTactic
import Derived.BigQuiet
namespace Go.Proofs.Ythdhjlefkdfkkaa
open Go.RowKit
set_option maxRecDepth 100000

theorem RL.take {w : World} {a : Option Addr} {n c : Nat} {xs : List Int} (h : RL w (.slice a n c) xs) {k : Nat} (hk : k ≤ n) : RL w (.slice a k c) (xs.take k) := by
  obtain ⟨a', c', e, h1, h2, h3⟩ := h
  simp only [Value.slice.injEq] at e
  obtain ⟨rfl, rfl, rfl⟩ := e
  have hl : (xs.take k).length = k := by rw [List.length_take]; omega
  refine ⟨a, c, by rw [hl], by omega, h2, fun i hi => ?_⟩
  rw [hl] at hi
  obtain ⟨b, o, e, hb, hc⟩ := h3 i (by omega)
  refine ⟨b, o, e, hb, ?_⟩
  rw [hc]
  simp [List.getD, hi]
theorem RL.take_at {w : World} {b o n c : Nat} {xs : List Int} (h : RL w (.slice (some ⟨b, o, none⟩) n c) xs) {k : Nat} (hk : k ≤ n) : RL w (.slice (some ⟨b, o, none⟩) k c) (xs.take k) := h.take hk

theorem all_at_false {xs ys : List Int} {k : Nat} (hk : k < ys.length) (h : hasB xs (ys.getD k 0) = false) : ys.all (hasB xs) = false := by
  cases h1 : ys.all (hasB xs)
  · rfl
  · rw [List.all_eq_true] at h1
    have e : ys.getD k 0 = ys[k] := by simp [hk]
    have := h1 _ (List.getElem_mem hk)
    rw [← e, h] at this
    cases this
theorem all_of {xs ys : List Int} (h : ∀ k, k < ys.length → hasB xs (ys.getD k 0) = true) : ys.all (hasB xs) = true := by
  rw [List.all_eq_true]
  intro x hx
  obtain ⟨k, hk, e⟩ := List.mem_iff_getElem.1 hx
  have := h k hk
  have e2 : ys.getD k 0 = ys[k] := by simp [hk]
  rw [e2, e] at this
  exact this
set_option maxHeartbeats 1000000 in
theorem l5All_any (v u : Value) (xs ys : List Int) (w : World) (h : RL w v xs) (h' : RL w u ys) :
    Calls Try.prog 60 #[v, u] w fun e w' => e = .returned (.bool (ys.all (hasB xs))) ∧ w = w' := by
  have HR := h
  obtain ⟨a, c, rfl, -⟩ := h
  obtain ⟨a', c', rfl, h1, h2, h3⟩ := h'
  unfold maxLen at h2
  obtain ⟨b, hb⟩ : ∃ b, b = ys.all (hasB xs) := ⟨_, rfl⟩
  rw [← hb]
  have HB := hid hb
  have H3 := hid h3
  clear h3 hb
  go_enter Try.func60, Try.ntmps60
  go_wp2_with fail
  go_loop [5] (fun i => ∃ k : Nat, k ≤ ys.length ∧ i = .int .i64 k ∧ ∀ j, j < k → hasB xs (ys.getD j 0) = true) (fun i => ys.length - (intOf i).toNat)
  case atStart => exact ⟨0, Nat.zero_le _, rfl, fun j hj => by omega⟩
  case round =>
    obtain ⟨k, hk, rfl, hall⟩ := hrel
    by_cases hlt : k < ys.length
    · obtain ⟨b', o, rfl, hbs, hc⟩ := H3.out k hlt
      obtain ⟨x, hx⟩ : ∃ x, x = ys.getD k 0 := ⟨_, rfl⟩
      rw [← hx] at hc
      have HX := hid hx
      have HALL := hid hall
      clear hx hall
      cases hh : hasB xs x
      · have hd : ys.all (hasB xs) = false := all_at_false hlt (by rw [← HX.out]; exact hh)
        have HD := hid hd
        have HH := hid hh
        clear hd hh
        go_wp2_with fail
        refine (has_any _ xs x w HR).mono ?_
        rintro e _ ⟨rfl, rfl⟩
        rw [HH.out]
        go_wp2_with fail
        go_ret
        exact ⟨by rw [HB.out, HD.out]; rfl, rfl⟩
      · have HH := hid hh
        clear hh
        go_wp2_with fail
        refine (has_any _ xs x w HR).mono ?_
        rintro e _ ⟨rfl, rfl⟩
        rw [HH.out]
        go_wp2_with fail
        go_round
        case rel =>
          refine ⟨k + 1, by omega, by go_num, fun j hj => ?_⟩
          by_cases e : j = k
          · subst e; rw [← HX.out]; exact HH.out
          · exact HALL.out j (by omega)
        case measure => simp [intOf]; omega
    · obtain rfl : k = ys.length := by omega
      have HD := hid (all_of hall)
      clear hall
      go_wp2_with fail
      go_ret
      exact ⟨by rw [HB.out, HD.out]; rfl, rfl⟩

set_option maxHeartbeats 1000000 in
/-- The marks of the numbers `pre`. -/
theorem allIn_any (v : Value) (xs pre : List Int) (S : Nat) (s : Nat → Bool) (w : World) (h : RL w v xs) (hsb : SB w S s) (N : Nat) (hN : N ≤ 10) (hs : ∀ x : Nat, x < N → s x = hasB pre x) (hx : ∀ x ∈ xs, 0 ≤ x ∧ x < (N : Int)) :
    Calls Try.prog 64 #[v, .pointer (some ⟨S, 0, none⟩)] w fun e w' => e = .returned (.bool (xs.all (hasB pre))) ∧ w = w' := by
  obtain ⟨a, c, rfl, h1, h2, h3⟩ := h
  unfold maxLen at h2
  obtain ⟨b, hb⟩ : ∃ b, b = xs.all (hasB pre) := ⟨_, rfl⟩
  rw [← hb]
  have HB := hid hb
  have H3 := hid h3
  have HSB := hid hsb
  have HS := hid hs
  have HX0 := hid (show ∀ k, k < xs.length → 0 ≤ xs.getD k 0 ∧ xs.getD k 0 < (N : Int) from fun k hk => hx _ (by
    have e : xs.getD k 0 = xs[k] := by simp [hk]
    rw [e]; exact List.getElem_mem _))
  clear h3 hb hsb hs hx
  go_enter Try.func64, Try.ntmps64
  go_wp2_with fail
  go_loop [9] (fun i => ∃ k : Nat, k ≤ xs.length ∧ i = .int .i64 k ∧ ∀ j, j < k → hasB pre (xs.getD j 0) = true) (fun i => xs.length - (intOf i).toNat)
  case atStart => exact ⟨0, Nat.zero_le _, rfl, fun j hj => by omega⟩
  case round =>
    obtain ⟨k, hk, rfl, hall⟩ := hrel
    by_cases hlt : k < xs.length
    · obtain ⟨b', o, rfl, hbs, hc⟩ := H3.out k hlt
      obtain ⟨q0, q1⟩ := HX0.out k hlt
      obtain ⟨x, hx⟩ := Int.eq_ofNat_of_zero_le q0
      rw [hx] at hc q1
      have hx10 : x < 10 := by omega
      have sc := HSB.out.cell hx10
      rw [HS.out x (by omega)] at sc
      have HX := hid hx
      have HALL := hid hall
      have x0 : (0 : Int) ≤ (x : Int) := by omega
      have q2 : (x : Int) < 10 := by omega
      clear hx hall q0
      cases hh : hasB pre x
      · rw [hh] at sc
        have hd : xs.all (hasB pre) = false := all_at_false hlt (by rw [HX.out]; exact hh)
        have HD := hid hd
        clear hd hh
        go_wp2_with fail
        go_ret
        exact ⟨by rw [HB.out, HD.out]; rfl, rfl⟩
      · rw [hh] at sc
        have HH := hid hh
        clear hh
        go_wp2_with fail
        go_round
        case rel =>
          refine ⟨k + 1, by omega, by go_num, fun j hj => ?_⟩
          by_cases e : j = k
          · subst e; rw [HX.out]; exact HH.out
          · exact HALL.out j (by omega)
        case measure => simp [intOf]; omega
    · obtain rfl : k = xs.length := by omega
      have HD := hid (all_of hall)
      clear hall
      go_wp2_with fail
      go_ret
      exact ⟨by rw [HB.out, HD.out]; rfl, rfl⟩

theorem hasB_snoc (pre : List Int) (x y : Int) : hasB (pre ++ [x]) y = (hasB pre y || decide (y = x)) := by
  rw [Bool.eq_iff_iff, Bool.or_eq_true, hasB_true, hasB_true, decide_eq_true_eq, List.mem_append, List.mem_singleton]
theorem take_int {xs : List Int} {k : Nat} (h : k < xs.length) : xs.take (k + 1) = xs.take k ++ [xs.getD k 0] := by
  rw [List.take_add_one]; simp [h]
theorem stepB_out {ns : List Nd} {pre : List Int} {x : Int} (h : ¬ (0 ≤ x ∧ x < (ns.length : Int))) : stepB ns pre x = false := by
  unfold stepB
  rw [inB_at]
  have : (decide (0 ≤ x) && decide (x < (ns.length : Int))) = false := by
    rw [Bool.and_eq_false_iff, decide_eq_false_iff_not, decide_eq_false_iff_not]; omega
  rw [this]; rfl
theorem stepB_in {ns : List Nd} {pre : List Int} {x : Nat} (h : x < ns.length) : stepB ns pre x = (!hasB pre x && (fsN ns x).all (hasB pre)) := by
  unfold stepB
  rw [inB_at]
  have : (decide (0 ≤ (x : Int)) && decide ((x : Int) < (ns.length : Int))) = true := by simp [h]
  rw [this, Bool.true_and, Int.toNat_natCast]
set_option maxHeartbeats 2000000 in
theorem begins_any (v vo : Value) (ns : List Nd) (order : List Int) (hi : Nat) (w : World) (h : PL w hi v ns) (ho : RL w vo order) (hp : planB ns = true) :
    Calls Try.prog 57 #[v, vo] w fun e w' => e = .returned (.bool (beginsB ns order)) ∧ Mod 0 0 w w' := by
  have hlen := planB_len hp
  have hE := Early.plan hp
  obtain ⟨a, c, rfl, h1, h2, hs, h3⟩ := h
  obtain ⟨ao, co, rfl, h1', h2', h3'⟩ := ho
  unfold maxLen at h2 h2'
  obtain ⟨R, hR⟩ : ∃ R, R = beginsB ns order := ⟨_, rfl⟩
  rw [← hR]
  have HR := hid hR
  have H3 := hid h3
  have H3' := hid h3'
  have HE := hid hE
  have hma := marksA_none
  have HS0 := hid (SB.made w)
  rw [hma] at HS0
  clear hR h3 h3' hE hma hp
  go_enter Try.func57, Try.ntmps57
  go_wp2_with fail
  go_loopw [10] (fun i wr => ∃ (k : Nat) (s : Nat → Bool), k ≤ order.length ∧ i = .int .i64 k ∧ SB wr w.heap.size s ∧ (∀ x : Nat, x < 10 → s x = hasB (order.take k) x) ∧ (∀ j, j < k → stepB ns (order.take j) (order.getD j 0) = true) ∧ Mod 0 0 w wr) (fun i _ => order.length - (intOf i).toNat)
  case atStart => exact ⟨0, _, Nat.zero_le _, rfl, HS0.out, fun x _ => by simp [hasB], fun j hj => by omega, Mod.alloc w _⟩
  case round =>
    clear HS0
    obtain ⟨k, s, hk, rfl, hsb, hsx, hall, hm⟩ := hrel
    by_cases hlt : k < order.length
    · obtain ⟨b', o', rfl, hbs, hc⟩ := H3'.out k hlt
      replace hc := (World.cell?_of_block (a := ⟨b', o' + k, none⟩) (hm.block b' hbs (.inr (Nat.zero_le _)))).trans hc
      have htk := take_int hlt
      obtain ⟨x, hx⟩ : ∃ x, x = order.getD k 0 := ⟨_, rfl⟩
      rw [← hx] at hc htk
      have HX := hid hx
      have HALL := hid hall
      have HSX := hid hsx
      have HSB := hid hsb
      have HTK := hid htk
      clear hx hall hsx hsb htk
      by_cases hin : 0 ≤ x ∧ x < (ns.length : Int)
      · obtain ⟨X, rfl⟩ := Int.eq_ofNat_of_zero_le hin.1
        have hX : X < ns.length := by omega
        have hX10 : X < 10 := by omega
        obtain ⟨b, o, f, r, rfl, hb, c0, c1, c2, hf, hr⟩ := H3.out X hX
        have hk0 := hm.block b (Nat.lt_of_lt_of_le hb hs) (.inr (Nat.zero_le _))
        replace c1 := (World.cell?_of_block (a := ⟨b, o + X * 3 + 1, none⟩) hk0).trans c1
        replace hf := hf.mod hm (.inr (Nat.zero_le _))
        have hst := stepB_in (pre := order.take k) hX
        have hfe : ∀ y ∈ (ns.getD X nd0).fs, 0 ≤ y ∧ y < ((10 : Nat) : Int) := fun y hy => by have := HE.out X hX y hy; omega
        have hfeq : fsN ns X = (ns.getD X nd0).fs := rfl
        rw [hfeq] at hst
        obtain ⟨fs, hfs⟩ : ∃ fs, fs = (ns.getD X nd0).fs := ⟨_, rfl⟩
        rw [← hfs] at hst hfe hf
        obtain ⟨af, cf, rfl, -⟩ := id hf
        have sc := HSB.out.cell hX10
        have sf := HSB.out.frozen X
        rw [HSX.out X hX10] at sc
        have x0 : (0 : Int) ≤ (X : Int) := by omega
        have x1 : (X : Int) < (ns.length : Int) := by omega
        have x2 : (X : Int) < 10 := by omega
        have HFE := hid hfe
        have hd : decide (0 ≤ (X : Int) ∧ (X : Int) < (ns.length : Int)) = true := decide_eq_true ⟨x0, x1⟩
        have HD := hid hd
        clear hk0 c0 c2 hr hfe hfeq hfs hin hd
        cases hh : hasB (order.take k) X
        · rw [hh] at sc hst
          rw [Bool.not_false, Bool.true_and] at hst
          have HH := hid hh
          clear hh
          cases hal : fs.all (hasB (order.take k))
          · rw [hal] at hst
            have HST := hid hst
            have HAL := hid hal
            clear hst hal
            go_wp2_with fail
            refine (isNode_any _ _ _ X wr).mono ?_
            rintro e _ ⟨rfl, rfl⟩
            rw [HD.out]
            go_wp2_with fail
            refine (allIn_any _ fs (order.take k) w.heap.size s wr hf.rl HSB.out 10 (by omega) HSX.out HFE.out).mono ?_
            rintro e _ ⟨rfl, rfl⟩
            rw [HAL.out]
            go_wp2_with fail
            go_ret
            exact ⟨by rw [HR.out, beginsB_false hlt (by rw [← HX.out]; exact HST.out)]; rfl, hm⟩
          · rw [hal] at hst
            have HST := hid hst
            have HAL := hid hal
            clear hst hal
            go_wp2_with fail
            refine (isNode_any _ _ _ X wr).mono ?_
            rintro e _ ⟨rfl, rfl⟩
            rw [HD.out]
            go_wp2_with fail
            refine (allIn_any _ fs (order.take k) w.heap.size s wr hf.rl HSB.out 10 (by omega) HSX.out HFE.out).mono ?_
            rintro e _ ⟨rfl, rfl⟩
            rw [HAL.out]
            go_wp2_with fail
            go_roundw
            case rel =>
              refine ⟨k + 1, _, by omega, by go_num, HSB.out.set hX10, fun y hy => ?_, fun j hj => ?_, hm.then_below' (((Below.refl w.heap.size wr)).setCell (Nat.le_refl _) _) (Nat.le_refl _)⟩
              · rw [HTK.out, hasB_snoc, HSX.out y hy]
                congr 1
                rw [decide_eq_decide]; omega
              · by_cases e : j = k
                · subst e; rw [← HX.out]; exact HST.out
                · exact HALL.out j (by omega)
            case measure => simp [intOf]; omega
        · rw [hh] at sc hst
          rw [Bool.not_true, Bool.false_and] at hst
          have HST := hid hst
          clear hh hst
          go_wp2_with fail
          refine (isNode_any _ _ _ X wr).mono ?_
          rintro e _ ⟨rfl, rfl⟩
          rw [HD.out]
          go_wp2_with fail
          go_ret
          exact ⟨by rw [HR.out, beginsB_false hlt (by rw [← HX.out]; exact HST.out)]; rfl, hm⟩
      · have hst := stepB_out (ns := ns) (pre := order.take k) hin
        have HST := hid hst
        have hd : decide (0 ≤ x ∧ x < (ns.length : Int)) = false := decide_eq_false hin
        have HD := hid hd
        clear hst hin hd
        go_wp2_with fail
        refine (isNode_any _ _ _ x wr).mono ?_
        rintro e _ ⟨rfl, rfl⟩
        rw [HD.out]
        go_wp2_with fail
        go_ret
        exact ⟨by rw [HR.out, beginsB_false hlt (by rw [← HX.out]; exact HST.out)]; rfl, hm⟩
    · obtain rfl : k = order.length := by omega
      have HB := hid (beginsB_true hall)
      clear hall hsx
      go_wp2_with fail
      go_ret
      exact ⟨by rw [HR.out, HB.out]; rfl, hm⟩

set_option maxHeartbeats 1000000 in
theorem iorder_any (v vo : Value) (ns : List Nd) (order : List Int) (hi : Nat) (w : World) (h : PL w hi v ns) (ho : RL w vo order) :
    Calls Try.prog 30 #[v, vo] w fun e w' => e = .returned (.bool (orderB ns order)) ∧ Mod 0 0 w w' := by
  obtain ⟨R, hR⟩ : ∃ R, R = orderB ns order := ⟨_, rfl⟩
  rw [← hR]
  unfold orderB at hR
  obtain ⟨a, c, rfl, -, h2, -⟩ := id h
  obtain ⟨ao, co, rfl, -, h2', -⟩ := id ho
  unfold maxLen at h2 h2'
  by_cases hp : planB ns = true
  · by_cases hl : order.length = ns.length
    · rw [hp, decide_eq_true hl, Bool.true_and, Bool.true_and] at hR
      have hle : ((order.length : Int) == (ns.length : Int)) = true := by rw [natBeq]; exact decide_eq_true hl
      have HR := hid hR
      have HP := hid hp
      clear hR hp hl
      go_enter Try.func30, Try.ntmps30
      go_wp2_with fail
      refine (iplan_any _ ns hi w h).mono ?_
      rintro e w2 ⟨rfl, m2⟩
      rw [HP.out]
      go_wp2_with fail
      refine (begins_any _ _ ns order hi w2 (h.mod m2 (.inr (Nat.zero_le _))) (ho.rr.mod m2 (.inr (Nat.zero_le _))).rl HP.out).mono ?_
      rintro e w3 ⟨rfl, m3⟩
      rw [← HR.out]
      go_wp2_with fail
      go_ret
      exact ⟨rfl, m2.trans m3⟩
    · rw [hp, decide_eq_false hl, Bool.true_and, Bool.false_and] at hR
      have hle : ((order.length : Int) == (ns.length : Int)) = false := by rw [natBeq]; exact decide_eq_false hl
      have HP := hid hp
      subst hR
      clear hp hl
      go_enter Try.func30, Try.ntmps30
      go_wp2_with fail
      refine (iplan_any _ ns hi w h).mono ?_
      rintro e w2 ⟨rfl, m2⟩
      rw [HP.out]
      go_wp2_with fail
      go_ret
      exact ⟨rfl, m2⟩
  · have hp' : planB ns = false := by simpa using hp
    rw [hp', Bool.false_and, Bool.false_and] at hR
    have HP := hid hp'
    subst hR
    clear hp hp'
    go_enter Try.func30, Try.ntmps30
    go_wp2_with fail
    refine (iplan_any _ ns hi w h).mono ?_
    rintro e w2 ⟨rfl, m2⟩
    rw [HP.out]
    go_wp2_with fail
    go_ret
    exact ⟨rfl, m2⟩
end Go.Proofs.Ythdhjlefkdfkkaa
