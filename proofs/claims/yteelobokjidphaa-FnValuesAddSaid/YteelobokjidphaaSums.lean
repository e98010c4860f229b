/- The contracts of the functions that give the sums of a row's beginnings. No condition. -/
import Derived.Test.YteelobokjidphaaRow
namespace Go.Proofs.Yteelobokjidphaa
open Go.RowKit

/-- The sum of the first k values. -/
def psum (xs : List Int) : Nat → Int
  | 0 => 0
  | k + 1 => (psum xs k + xs.getD k 0) % 1009
def sumsR (xs : List Int) : List Int := if rvB xs then (List.range xs.length).map fun i => psum xs (i + 1) else []
theorem sumsR_len (xs : List Int) : (sumsR xs).length ≤ 1048576 := by
  unfold sumsR
  split
  · rename_i h
    have := rvB_len h
    simp; omega
  · simp
theorem psum_range (xs : List Int) (k : Nat) : 0 ≤ psum xs k ∧ psum xs k ≤ 1008 := by
  cases k with
  | zero => simp [psum]
  | succ k => unfold psum; omega

set_option maxHeartbeats 1000000 in
theorem ssums_any (v : Value) (xs : List Int) (w : World) (h : RL w v xs) :
    Calls Try.prog 100 #[v] w (PostIB w (sumsR xs) (rvB xs)) := by
  have h0 := h
  obtain ⟨a, c, rfl, h1, h2, h3⟩ := h0
  unfold maxLen at h2
  cases hb : rvB xs
  · have HB := hid hb
    clear hb
    go_enter Try.func100, Try.ntmps100
    go_wp2_with fail
    refine (srv_any _ xs _ (h.mono ((Below.refl _ _).alloc (Nat.le_refl _) _))).mono ?_
    rintro e w' ⟨rfl, rfl⟩
    rw [HB.out]
    go_wp2_with fail
    go_ret2
    exact ⟨_, rfl, by unfold sumsR; rw [HB.out]; exact OI.fresh0 w (Nat.le_refl _), (Below.refl _ _).alloc (Nat.le_refl _) _⟩
  · have hl := rvB_len hb
    have HBX := hid (fun k (hk : k < xs.length) => rvB_get hb hk)
    have HB := hid hb
    have H3 := hid h3
    clear hb h3
    go_enter Try.func100, Try.ntmps100
    go_wp2_with fail
    refine (srv_any _ xs _ (h.mono ((Below.refl _ _).alloc (Nat.le_refl _) _))).mono ?_
    rintro e w' ⟨rfl, rfl⟩
    rw [HB.out]
    go_wp2_with fail
    go_loopw [4, 5, 6] (fun o n i wr => ∃ k : Nat, k ≤ xs.length ∧ i = .int .i64 (k : Int) ∧ n = .int .i64 (psum xs k) ∧ OI wr w.heap.size o ((List.range k).map fun j => psum xs (j + 1)) ∧ Below w.heap.size w wr)
      (fun _ _ i _ => xs.length - (intOf i).toNat)
    case atStart => exact ⟨0, Nat.zero_le _, rfl, rfl, OI.fresh0 w (Nat.le_refl _), (Below.refl _ _).alloc (Nat.le_refl _) _⟩
    case round =>
      obtain ⟨k, hk, rfl, rfl, ho, hbel⟩ := hrel
      by_cases hlt : k < xs.length
      · obtain ⟨b, of, rfl, hbs, hc⟩ := H3.out k hlt
        obtain ⟨hn1, hn2⟩ := HBX.out k hlt
        obtain ⟨hp1, hp2⟩ := psum_range xs k
        have hps : psum xs (k + 1) = (psum xs k + xs.getD k 0) % 1009 := rfl
        obtain ⟨n, hn'⟩ : ∃ n, n = xs.getD k 0 := ⟨_, rfl⟩
        rw [← hn'] at hc hn1 hn2 hps
        rw [← hbel.cell (p := ⟨b, of + k, none⟩) hbs] at hc
        obtain ⟨p, hp⟩ : ∃ p, p = psum xs k := ⟨_, rfl⟩
        rw [← hp] at hp1 hp2 hps ⊢
        have HPS := hid hps
        clear hps hn' hp
        go_wp2_with (at_builtin; refine app1 rfl _ _ 24 rfl Try.underlying24 w.heap.size _ _ _ ho rfl rfl (by simp; omega) hbel hbel.size ?_; intro v' w' ho' hbel' _)
        go_roundw
        case rel =>
          refine ⟨k + 1, by omega, by go_num, by rw [HPS.out], ?_, hbel'⟩
          rw [range_map_succ, HPS.out]
          exact ho'
        case measure => simp [intOf]; omega
      · obtain rfl : k = xs.length := by omega
        go_wp2
        go_ret2
        exact ⟨_, rfl, by unfold sumsR; rw [HB.out]; exact ho, hbel⟩

set_option maxHeartbeats 1000000 in
theorem sums_any (v : Value) (xs : List Int) (w : World) (h : RL w v xs) (hb : rvB xs = true) :
    Calls Try.prog 107 #[v] w (PostI w ((List.range xs.length).map fun i => psum xs (i + 1))) := by
  obtain ⟨a, c, rfl, h1, h2, h3⟩ := h
  unfold maxLen at h2
  have hl := rvB_len hb
  have HBX := hid (fun k (hk : k < xs.length) => rvB_get hb hk)
  have H3 := hid h3
  clear hb h3
  go_enter Try.func107, Try.ntmps107
  go_wp2_with (at_make; refine mk1 rfl _ _ 99 rfl Try.underlying99 w.heap.size xs.length _ _ rfl rfl rfl rfl (by omega) (Below.refl _ _) (Nat.le_refl _) ?_; intro v' w1 ho rfl hbel _)
  go_loopw [4, 12] (fun s i wr => ∃ k : Nat, k ≤ xs.length ∧ i = .int .i64 (k : Int) ∧ s = .int .i64 (psum xs k) ∧ OI wr w.heap.size (.slice (some ⟨w.heap.size, 0, none⟩) xs.length xs.length) (filled (fun i => psum xs (i + 1)) xs.length k) ∧ Below w.heap.size w wr)
    (fun _ i _ => xs.length - (intOf i).toNat)
  case atStart => exact ⟨0, Nat.zero_le _, rfl, rfl, by rw [filled_zero]; exact ho, hbel⟩
  case round =>
    clear ho hbel
    obtain ⟨k, hk, rfl, rfl, ho, hbel⟩ := hrel
    by_cases hlt : k < xs.length
    · obtain ⟨b, of, rfl, hbs, hc⟩ := H3.out k hlt
      obtain ⟨hn1, hn2⟩ := HBX.out k hlt
      obtain ⟨hp1, hp2⟩ := psum_range xs k
      have hps : psum xs (k + 1) = (psum xs k + xs.getD k 0) % 1009 := rfl
      obtain ⟨n, hn'⟩ : ∃ n, n = xs.getD k 0 := ⟨_, rfl⟩
      rw [← hn'] at hc hn1 hn2 hps
      rw [← hbel.cell (p := ⟨b, of + k, none⟩) hbs] at hc
      obtain ⟨p, hp⟩ : ∃ p, p = psum xs k := ⟨_, rfl⟩
      rw [← hp] at hp1 hp2 hps ⊢
      have hfl := filled_length (fun i => psum xs (i + 1)) hk
      obtain ⟨hcell, hfroz⟩ := OI.cell ho (i := k) (by rw [hfl]; exact hlt)
      have HSET := hid (OI.set ho k ((p + n) % 1009))
      have HPS := hid hps
      clear hps hn' hp hfl
      go_wp2
      go_roundw
      case rel =>
        refine ⟨k + 1, by omega, by go_num, by rw [HPS.out], ?_, hbel.setCell (Nat.le_refl _) _⟩
        rw [← filled_set _ hlt, HPS.out]
        exact HSET.out
      case measure => simp [intOf]; omega
    · obtain rfl : k = xs.length := by omega
      go_wp2
      go_ret
      exact ⟨_, rfl, by rw [filled_all] at ho; exact ho, hbel⟩

theorem isums_any (v : Value) (xs : List Int) (w : World) (h : RL w v xs) :
    Calls Try.prog 93 #[v] w (PostIB w (sumsR xs) (rvB xs)) := by
  cases hb : rvB xs
  · have HB := hid hb
    clear hb
    go_enter Try.func93, Try.ntmps93
    go_wp2_with fail
    refine (ival_any _ xs _ h).mono ?_
    rintro e w' ⟨rfl, rfl⟩
    rw [HB.out]
    go_wp2_with fail
    go_ret2
    exact ⟨_, rfl, by unfold sumsR; rw [HB.out]; exact OI.nil _ _, Below.refl _ _⟩
  · have HB := hid hb
    clear hb
    go_enter Try.func93, Try.ntmps93
    go_wp2_with fail
    refine (ival_any _ xs _ h).mono ?_
    rintro e w' ⟨rfl, rfl⟩
    rw [HB.out]
    go_wp2_with fail
    refine (sums_any _ xs _ h HB.out).mono ?_
    rintro e w' ⟨vo, rfl, ho, hbel⟩
    go_wp2_with fail
    go_ret2
    exact ⟨vo, rfl, by unfold sumsR; rw [HB.out]; exact ho, hbel⟩
end Go.Proofs.Yteelobokjidphaa
