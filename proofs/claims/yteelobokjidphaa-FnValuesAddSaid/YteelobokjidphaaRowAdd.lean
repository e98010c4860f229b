/- The contracts of the functions that add and multiply rows (the reference's and the program's). No condition. -/
import Derived.Test.YteelobokjidphaaRow
import Derived.Deep.RegionHeld3
namespace Go.Proofs.Yteelobokjidphaa
open Go.RowKit

theorem both_any (v u : Value) (xs ys : List Int) (w : World) (h : RL w v xs) (h' : RL w u ys) :
    Calls Try.prog 113 #[v, u] w fun e w' => e = .returned (.bool (bothB xs ys)) ∧ w = w' := by
  have h0 := h
  have h0' := h'
  obtain ⟨a, c, rfl, h1, h2, -⟩ := h0
  obtain ⟨a', c', rfl, h1', h2', -⟩ := h0'
  unfold maxLen at h2 h2'
  cases hx : rvB xs
  · have HX := hid hx
    clear hx
    go_enter Try.func113, Try.ntmps113
    go_wp2_with fail
    refine (srv_any _ xs _ h).mono ?_
    rintro e w' ⟨rfl, rfl⟩
    rw [HX.out]
    go_wp2_with fail
    go_ret
    exact ⟨by unfold bothB; rw [HX.out]; rfl, rfl⟩
  · cases hy : rvB ys
    · have HX := hid hx
      have HY := hid hy
      clear hx hy
      go_enter Try.func113, Try.ntmps113
      go_wp2_with fail
      refine (srv_any _ xs _ h).mono ?_
      rintro e w' ⟨rfl, rfl⟩
      rw [HX.out]
      go_wp2_with fail
      refine (srv_any _ ys _ h').mono ?_
      rintro e w' ⟨rfl, rfl⟩
      rw [HY.out]
      go_wp2_with fail
      go_ret
      exact ⟨by unfold bothB; rw [HX.out, HY.out]; rfl, rfl⟩
    · have HX := hid hx
      have HY := hid hy
      clear hx hy
      go_enter Try.func113, Try.ntmps113
      go_wp2_with fail
      refine (srv_any _ xs _ h).mono ?_
      rintro e w' ⟨rfl, rfl⟩
      rw [HX.out]
      go_wp2_with fail
      refine (srv_any _ ys _ h').mono ?_
      rintro e w' ⟨rfl, rfl⟩
      rw [HY.out]
      go_wp2_with fail
      go_ret
      exact ⟨by unfold bothB; rw [HX.out, HY.out]; rw [← natBeq]; rfl, rfl⟩

set_option maxHeartbeats 1000000 in
theorem sadd_any (v u : Value) (xs ys : List Int) (w : World) (h : RL w v xs) (h' : RL w u ys) :
    Calls Try.prog 98 #[v, u] w (PostIB w (joinR addF xs ys) (bothB xs ys)) := by
  have h0 := h
  have h0' := h'
  obtain ⟨a, c, rfl, h1, h2, h3⟩ := h0
  obtain ⟨a', c', rfl, h1', h2', h3'⟩ := h0'
  unfold maxLen at h2 h2'
  cases hb : bothB xs ys
  · have HB := hid hb
    clear hb
    go_enter Try.func98, Try.ntmps98
    go_wp2_with (go_at_call 113; refine (both_any _ _ xs ys _ (h.mono ((Below.refl _ _).alloc (Nat.le_refl _) _)) (h'.mono ((Below.refl _ _).alloc (Nat.le_refl _) _))).mono ?_; rintro e w' ⟨rfl, rfl⟩; rw [HB.out])
    go_ret2
    exact ⟨_, rfl, by unfold joinR; rw [HB.out]; exact OI.fresh0 w (Nat.le_refl _), (Below.refl _ _).alloc (Nat.le_refl _) _⟩
  · obtain ⟨hx, hy, hxy⟩ := bothB_parts hb
    have hl := rvB_len hx
    have hbx := fun k (hk : k < xs.length) => rvB_get hx hk
    have hby := fun k (hk : k < ys.length) => rvB_get hy hk
    have HB := hid hb
    have HXY := hid hxy
    have HBX := hid hbx
    have HBY := hid hby
    have H3 := hid h3
    have H3' := hid h3'
    clear hb hx hy hxy hbx hby h3 h3'
    go_enter Try.func98, Try.ntmps98
    go_wp2_with (go_at_call 113; refine (both_any _ _ xs ys _ (h.mono ((Below.refl _ _).alloc (Nat.le_refl _) _)) (h'.mono ((Below.refl _ _).alloc (Nat.le_refl _) _))).mono ?_; rintro e w' ⟨rfl, rfl⟩; rw [HB.out])
    go_loopw [6, 7] (fun o i wr => ∃ k : Nat, k ≤ xs.length ∧ i = .int .i64 k ∧ OI wr w.heap.size o ((List.range k).map fun i => addF (xs.getD i 0) (ys.getD i 0)) ∧ Below w.heap.size w wr)
      (fun _ i _ => xs.length - (intOf i).toNat)
    case atStart => exact ⟨0, Nat.zero_le _, rfl, OI.fresh0 w (Nat.le_refl _), (Below.refl _ _).alloc (Nat.le_refl _) _⟩
    case round =>
      obtain ⟨k, hk, rfl, ho, hbel⟩ := hrel
      by_cases hlt : k < xs.length
      · obtain ⟨b, of, rfl, hbs, hc⟩ := H3.out k hlt
        obtain ⟨b', of', rfl, hbs', hc'⟩ := H3'.out k (by rw [← HXY.out]; exact hlt)
        have hn := HBX.out k hlt
        have hm := HBY.out k (by rw [← HXY.out]; exact hlt)
        obtain ⟨n, hn'⟩ : ∃ n, n = xs.getD k 0 := ⟨_, rfl⟩
        obtain ⟨m, hm'⟩ : ∃ m, m = ys.getD k 0 := ⟨_, rfl⟩
        rw [← hn'] at hc hn
        rw [← hm'] at hc' hm
        have HC := hid hc
        have HC' := hid hc'
        rw [← hbel.cell (p := ⟨b, of + k, none⟩) hbs] at hc
        rw [← hbel.cell (p := ⟨b', of' + k, none⟩) hbs'] at hc'
        have HN := hid hn'
        have HM := hid hm'
        have hly : (k : Int) < (ys.length : Int) := by have := HXY.out; omega
        clear hn' hm'
        obtain ⟨hn1, hn2⟩ := hn
        obtain ⟨hm1, hm2⟩ := hm
        have e1 : IntKind.i64.wrap (n + m) = n + m := IntWalk.i64_in _ (by omega)
        have e2 : (n + m).tmod 1009 = (n + m) % 1009 := Int.tmod_eq_emod_of_nonneg (by omega)
        have hk0 : (0 : Int) ≤ (k : Int) := by omega
        go_wp2
        go_region_held3 (fun w' => w'.cell? ⟨b, of + k, none⟩ = some (.int .i64 n) ∧ w'.cell? ⟨b', of' + k, none⟩ = some (.int .i64 m)) (first | go_keep | (go_split_ands; exact ⟨(hbel'.cell hbs).trans HC.out, (hbel'.cell hbs').trans HC'.out⟩)) ((refine step_app1 rfl _ _ 24 rfl Try.underlying24 w.heap.size _ _ _ ho.drew rfl rfl (by simp; omega) hbel.drew hbel.size ?_; intro v' w' ho' hbel' _))
        go_wp2
        go_roundw
        case rel =>
          refine ⟨k + 1, by omega, by go_num, ?_, hbel'⟩
          rw [range_map_succ, ← HN.out, ← HM.out]
          exact ho'
        case measure => simp [intOf]; omega
      · go_wp2
        go_ret2
        obtain rfl : k = xs.length := by omega
        exact ⟨_, rfl, by unfold joinR; rw [HB.out]; exact ho, hbel⟩

set_option maxHeartbeats 1000000 in
theorem smul_any (v u : Value) (xs ys : List Int) (w : World) (h : RL w v xs) (h' : RL w u ys) :
    Calls Try.prog 99 #[v, u] w (PostIB w (joinR mulF xs ys) (bothB xs ys)) := by
  have h0 := h
  have h0' := h'
  obtain ⟨a, c, rfl, h1, h2, h3⟩ := h0
  obtain ⟨a', c', rfl, h1', h2', h3'⟩ := h0'
  unfold maxLen at h2 h2'
  cases hb : bothB xs ys
  · have HB := hid hb
    clear hb
    go_enter Try.func99, Try.ntmps99
    go_wp2_with (go_at_call 113; refine (both_any _ _ xs ys _ (h.mono ((Below.refl _ _).alloc (Nat.le_refl _) _)) (h'.mono ((Below.refl _ _).alloc (Nat.le_refl _) _))).mono ?_; rintro e w' ⟨rfl, rfl⟩; rw [HB.out])
    go_ret2
    exact ⟨_, rfl, by unfold joinR; rw [HB.out]; exact OI.fresh0 w (Nat.le_refl _), (Below.refl _ _).alloc (Nat.le_refl _) _⟩
  · obtain ⟨hx, hy, hxy⟩ := bothB_parts hb
    have hl := rvB_len hx
    have hbx := fun k (hk : k < xs.length) => rvB_get hx hk
    have hby := fun k (hk : k < ys.length) => rvB_get hy hk
    have HB := hid hb
    have HXY := hid hxy
    have HBX := hid hbx
    have HBY := hid hby
    have H3 := hid h3
    have H3' := hid h3'
    clear hb hx hy hxy hbx hby h3 h3'
    go_enter Try.func99, Try.ntmps99
    go_wp2_with (go_at_call 113; refine (both_any _ _ xs ys _ (h.mono ((Below.refl _ _).alloc (Nat.le_refl _) _)) (h'.mono ((Below.refl _ _).alloc (Nat.le_refl _) _))).mono ?_; rintro e w' ⟨rfl, rfl⟩; rw [HB.out])
    go_loopw [6, 7] (fun o i wr => ∃ k : Nat, k ≤ xs.length ∧ i = .int .i64 k ∧ OI wr w.heap.size o ((List.range k).map fun i => mulF (xs.getD i 0) (ys.getD i 0)) ∧ Below w.heap.size w wr)
      (fun _ i _ => xs.length - (intOf i).toNat)
    case atStart => exact ⟨0, Nat.zero_le _, rfl, OI.fresh0 w (Nat.le_refl _), (Below.refl _ _).alloc (Nat.le_refl _) _⟩
    case round =>
      obtain ⟨k, hk, rfl, ho, hbel⟩ := hrel
      by_cases hlt : k < xs.length
      · obtain ⟨b, of, rfl, hbs, hc⟩ := H3.out k hlt
        obtain ⟨b', of', rfl, hbs', hc'⟩ := H3'.out k (by rw [← HXY.out]; exact hlt)
        have hn := HBX.out k hlt
        have hm := HBY.out k (by rw [← HXY.out]; exact hlt)
        obtain ⟨n, hn'⟩ : ∃ n, n = xs.getD k 0 := ⟨_, rfl⟩
        obtain ⟨m, hm'⟩ : ∃ m, m = ys.getD k 0 := ⟨_, rfl⟩
        rw [← hn'] at hc hn
        rw [← hm'] at hc' hm
        have HC := hid hc
        have HC' := hid hc'
        rw [← hbel.cell (p := ⟨b, of + k, none⟩) hbs] at hc
        rw [← hbel.cell (p := ⟨b', of' + k, none⟩) hbs'] at hc'
        have HN := hid hn'
        have HM := hid hm'
        have hly : (k : Int) < (ys.length : Int) := by have := HXY.out; omega
        clear hn' hm'
        obtain ⟨hn1, hn2⟩ := hn
        obtain ⟨hm1, hm2⟩ := hm
        obtain ⟨hmul1, hmul2⟩ : 0 ≤ n * m ∧ n * m ≤ 1016064 := ⟨Int.mul_nonneg hn1 hm1, by have := Int.mul_le_mul hn2 hm2 hm1 (by omega); omega⟩
        have e1 : IntKind.i64.wrap (n * m) = n * m := IntWalk.i64_in _ (by omega)
        have e2 : (n * m).tmod 1009 = (n * m) % 1009 := Int.tmod_eq_emod_of_nonneg (by omega)
        have hk0 : (0 : Int) ≤ (k : Int) := by omega
        go_wp2
        go_region_held3 (fun w' => w'.cell? ⟨b, of + k, none⟩ = some (.int .i64 n) ∧ w'.cell? ⟨b', of' + k, none⟩ = some (.int .i64 m)) (first | go_keep | (go_split_ands; exact ⟨(hbel'.cell hbs).trans HC.out, (hbel'.cell hbs').trans HC'.out⟩)) ((refine step_app1 rfl _ _ 24 rfl Try.underlying24 w.heap.size _ _ _ ho.drew rfl rfl (by simp; omega) hbel.drew hbel.size ?_; intro v' w' ho' hbel' _))
        go_wp2
        go_roundw
        case rel =>
          refine ⟨k + 1, by omega, by go_num, ?_, hbel'⟩
          rw [range_map_succ, ← HN.out, ← HM.out]
          exact ho'
        case measure => simp [intOf]; omega
      · go_wp2
        go_ret2
        obtain rfl : k = xs.length := by omega
        exact ⟨_, rfl, by unfold joinR; rw [HB.out]; exact ho, hbel⟩
end Go.Proofs.Yteelobokjidphaa
