/- The contracts of the functions that turn a row. No condition. -/
import Derived.Test.YteelobokjidphaaRow
import Derived.Test.YteelobokjidphaaAppAll
import Derived.BigRegion
namespace Go.Proofs.Yteelobokjidphaa
open Go.RowKit

def turnR (xs : List Int) : List Int := if rvB xs then xs.reverse else []
theorem turnR_len (xs : List Int) : (turnR xs).length ≤ 1048576 := by
  unfold turnR
  split
  · rename_i h
    have := rvB_len h
    simp; omega
  · simp
theorem rev_eq (xs : List Int) : (List.range xs.length).map (fun j => xs.getD (xs.length - 1 - j) 0) = xs.reverse := by
  refine List.ext_getElem (by simp) fun i h1 h2 => ?_
  have h3 : i < xs.length := by simpa using h1
  rw [List.getElem_reverse]
  simp [show xs.length - 1 - i < xs.length by omega]

theorem rvB_rev {xs : List Int} (h : rvB xs = true) : rvB xs.reverse = true := by
  have hl := rvB_len h
  rw [rvB_of_all (fun j hj => ?_)]
  · exact decide_eq_true (by simpa using hl)
  · have hj' : j < xs.length := by simpa using hj
    have e : xs.reverse.getD j 0 = xs.getD (xs.length - 1 - j) 0 := by
      rw [← rev_eq]; simp [hj']
    rw [e]
    exact inB_true.2 (rvB_get h (by omega))
theorem turnR_of {xs : List Int} (h : rvB xs = true) : turnR xs = xs.reverse := by unfold turnR; rw [if_pos h]
theorem turnR_twice {xs : List Int} (h : rvB xs = true) : turnR xs.reverse = xs := by rw [turnR_of (rvB_rev h), List.reverse_reverse]

set_option maxHeartbeats 1000000 in
theorem sturn_any (v : Value) (xs : List Int) (w : World) (h : RL w v xs) :
    Calls Try.prog 102 #[v] w (PostIB w (turnR xs) (rvB xs)) := by
  have h0 := h
  obtain ⟨a, c, rfl, h1, h2, h3⟩ := h0
  unfold maxLen at h2
  cases hb : rvB xs
  · have HB := hid hb
    clear hb
    go_enter Try.func102, Try.ntmps102
    go_wp2_with fail
    refine (srv_any _ xs _ (h.mono ((Below.refl _ _).alloc (Nat.le_refl _) _))).mono ?_
    rintro e w' ⟨rfl, rfl⟩
    rw [HB.out]
    go_wp2_with fail
    go_ret2
    exact ⟨_, rfl, by unfold turnR; rw [HB.out]; exact OI.fresh0 w (Nat.le_refl _), (Below.refl _ _).alloc (Nat.le_refl _) _⟩
  · have hl := rvB_len hb
    have HB := hid hb
    have H3 := hid h3
    clear hb h3
    go_enter Try.func102, Try.ntmps102
    go_wp2_with fail
    refine (srv_any _ xs _ (h.mono ((Below.refl _ _).alloc (Nat.le_refl _) _))).mono ?_
    rintro e w' ⟨rfl, rfl⟩
    rw [HB.out]
    go_wp2_with fail
    go_loopw [4, 5] (fun o i wr => ∃ k : Nat, k ≤ xs.length ∧ i = .int .i64 ((xs.length : Int) - 1 - (k : Int)) ∧ OI wr w.heap.size o ((List.range k).map fun j => xs.getD (xs.length - 1 - j) 0) ∧ Below w.heap.size w wr)
      (fun _ i _ => (intOf i + 1).toNat)
    case atStart => exact ⟨0, Nat.zero_le _, by simp, OI.fresh0 w (Nat.le_refl _), (Below.refl _ _).alloc (Nat.le_refl _) _⟩
    case round =>
      obtain ⟨k, hk, rfl, ho, hbel⟩ := hrel
      by_cases hlt : k < xs.length
      · obtain ⟨q, hq⟩ : ∃ q : Nat, q + k + 1 = xs.length := ⟨xs.length - 1 - k, by omega⟩
        have eq : (xs.length : Int) - 1 - (k : Int) = (q : Int) := by omega
        rw [eq]
        have hql : q < xs.length := by omega
        obtain ⟨b, of, rfl, hbs, hc⟩ := H3.out q hql
        obtain ⟨n, hn'⟩ : ∃ n, n = xs.getD q 0 := ⟨_, rfl⟩
        rw [← hn'] at hc
        rw [← hbel.cell (p := ⟨b, of + q, none⟩) hbs] at hc
        have HN := hid hn'
        have HQ := hid hq
        clear hn' hq eq
        go_wp2_with (at_builtin; refine app1 rfl _ _ 24 rfl Try.underlying24 w.heap.size _ _ _ ho rfl rfl (by simp; omega) hbel hbel.size ?_; intro v' w' ho' hbel' _)
        go_roundw
        case rel =>
          have := HQ.out
          refine ⟨k + 1, by omega, by go_num, ?_, hbel'⟩
          rw [range_map_succ, show xs.length - 1 - k = q by omega, ← HN.out]
          exact ho'
        case measure => simp [intOf]
      · obtain rfl : k = xs.length := by omega
        go_wp2
        go_ret2
        exact ⟨_, rfl, by unfold turnR; rw [HB.out, ← rev_eq]; exact ho, hbel⟩

/-- The program's library call: a row is reversed where it lies. -/
def swapped (xs : List Int) (k : Nat) : List Int := (List.range xs.length).map fun j => if j < k ∨ xs.length - k ≤ j then xs.getD (xs.length - 1 - j) 0 else xs.getD j 0

theorem swapped_length (xs : List Int) (k : Nat) : (swapped xs k).length = xs.length := by simp [swapped]
theorem swapped_get (xs : List Int) (k : Nat) {j : Nat} (hj : j < xs.length) : (swapped xs k).getD j 0 = if j < k ∨ xs.length - k ≤ j then xs.getD (xs.length - 1 - j) 0 else xs.getD j 0 := by
  simp [swapped, hj]
theorem swapped_zero (xs : List Int) : swapped xs 0 = xs := by
  refine List.ext_getElem (by simp [swapped]) fun j h1 h2 => ?_
  have := swapped_get xs 0 h2
  simp only [List.getD_eq_getElem?_getD, List.getElem?_eq_getElem h1, List.getElem?_eq_getElem h2, Option.getD_some] at this
  rw [this, if_neg (by omega)]
theorem swapped_end (xs : List Int) (k : Nat) (h1 : 2 * k ≤ xs.length) (h2 : ¬ 2 * k + 1 < xs.length) : swapped xs k = xs.reverse := by
  rw [← rev_eq]
  unfold swapped
  refine List.map_congr_left fun j hj => ?_
  have hj := List.mem_range.1 hj
  by_cases e : j < k ∨ xs.length - k ≤ j
  · rw [if_pos e]
  · rw [if_neg e, show xs.length - 1 - j = j by omega]
theorem swapped_step (xs : List Int) (k q : Nat) (hq : q + k + 1 = xs.length) (hk : 2 * k + 1 < xs.length) :
    ((swapped xs k).set k ((swapped xs k).getD q 0)).set q ((swapped xs k).getD k 0) = swapped xs (k + 1) := by
  rw [swapped_get xs k (j := q) (by omega), swapped_get xs k (j := k) (by omega), if_neg (by omega), if_neg (by omega)]
  refine List.ext_getElem (by simp [swapped]) fun j h1 h2 => ?_
  have hj : j < xs.length := by simpa [swapped] using h2
  have e1 := swapped_get xs k hj
  have e2 := swapped_get xs (k + 1) hj
  simp only [List.getD_eq_getElem?_getD, List.getElem?_eq_getElem h2, List.getElem?_eq_getElem (show j < (swapped xs k).length by rw [swapped_length]; exact hj), Option.getD_some] at e1 e2
  rw [e2, List.getElem_set, List.getElem_set]
  by_cases h3 : q = j
  · subst h3
    rw [if_pos rfl, if_pos (by omega), show xs.length - 1 - q = k by omega]
    simp
  · rw [if_neg h3]
    by_cases h4 : k = j
    · subst h4
      rw [if_pos rfl, if_pos (by omega), show xs.length - 1 - k = q by omega]
      simp
    · rw [if_neg h4, e1]
      by_cases h5 : j < k ∨ xs.length - k ≤ j
      · rw [if_pos h5, if_pos (by omega)]
      · rw [if_neg h5, if_neg (by omega)]

set_option maxHeartbeats 2000000 in
theorem rev_any (v : Value) (xs : List Int) (A : Nat) (w : World) (h : OI w A v xs) (hl : xs.length ≤ 1048576) :
    Calls Try.prog 116 #[v] w fun e w' => e = .returned (.tuple #[]) ∧ OI w' A v xs.reverse ∧ w.grownBy w' v.ownBlock := by
  by_cases hx : xs = []
  · subst hx
    obtain ⟨a, c, rfl, -⟩ := OI.rl h
    go_enter Try.func116, Try.ntmps116
    go_wp2
    refine wp_loop_rounds 1 ?_
    rw [rounds_succ]
    go_wp2
    go_end0
    exact ⟨rfl, h, World.grownBy.refl _ _⟩
  · have hpos : 0 < xs.length := List.length_pos_iff.2 hx
    obtain ⟨g, c, rfl, hA, hg, -, -⟩ := OI.at h hpos
    have H := hid h
    clear hx h
    go_enter Try.func116, Try.ntmps116
    go_wp2
    go_loopw [2, 3] (fun p q wr => ∃ k : Nat, 2 * k ≤ xs.length ∧ p = .int .i64 k ∧ q = .int .i64 ((xs.length : Int) - 1 - (k : Int)) ∧ OI wr A (.slice (some ⟨g, 0, none⟩) xs.length c) (swapped xs k) ∧ w.grownBy wr (some g)) (fun p _ _ => xs.length - (intOf p).toNat)
    case atStart => exact ⟨0, by omega, rfl, by simp, by rw [swapped_zero]; exact H.out, World.grownBy.refl _ _⟩
    case round =>
      obtain ⟨k, hk, rfl, rfl, ho, hgr⟩ := hrel
      by_cases hlt : 2 * k + 1 < xs.length
      · obtain ⟨q, hq⟩ : ∃ q : Nat, q + k + 1 = xs.length := ⟨xs.length - 1 - k, by omega⟩
        have eq : (xs.length : Int) - 1 - (k : Int) = (q : Int) := by omega
        rw [eq]
        have hkq : k < q := by omega
        have hql : q < xs.length := by omega
        have hsl : (swapped xs k).length = xs.length := by simp [swapped]
        obtain ⟨c1, f1⟩ := OI.cell ho (i := k) (by omega)
        obtain ⟨c2, f2⟩ := OI.cell ho (i := q) (by omega)
        obtain ⟨n, hn⟩ : ∃ n, n = (swapped xs k).getD k 0 := ⟨_, rfl⟩
        obtain ⟨m, hm⟩ : ∃ m, m = (swapped xs k).getD q 0 := ⟨_, rfl⟩
        rw [← hn] at c1
        rw [← hm] at c2
        have HN := hid hn
        have HM := hid hm
        have HQ := hid hq
        clear hn hm hq eq hsl
        have hk0 : (0 : Int) ≤ (k : Int) := by omega
        have hq0 : (0 : Int) ≤ (q : Int) := by omega
        have hki : (k : Int) < (xs.length : Int) := by omega
        have hqi : (q : Int) < (xs.length : Int) := by omega
        have hne : ¬ k = q := by omega
        have hne' : ¬ q = k := by omega
        go_wp2
        go_region
        go_wp2
        go_roundw
        case rel =>
          have := HQ.out
          refine ⟨k + 1, by omega, by go_num, by go_num, ?_, gdrew (gset (gset hgr _ _) _ _)⟩
          have h2 := ((OI.set ho k m).set q n).drew
          rw [HN.out, HM.out, swapped_step xs k q HQ.out hlt, ← HN.out, ← HM.out] at h2
          exact h2
        case measure => simp [intOf]; omega
      · go_wp2
        go_end0
        exact ⟨rfl, by rw [swapped_end xs k hk hlt] at ho; exact ho, hgr⟩

theorem turned_any (v : Value) (xs : List Int) (w : World) (h : RL w v xs) (hl : xs.length ≤ 1048576) :
    Calls Try.prog 109 #[v] w (PostI w xs.reverse) := by
  have h0 := h
  obtain ⟨a, c, rfl, h1, h2, -⟩ := h0
  go_enter Try.func109, Try.ntmps109
  go_wp2_with (at_builtin; refine appAll rfl _ _ 99 rfl Try.underlying99 w.heap.size _ _ _ _ (OI.nil w _) h rfl rfl (by simp; omega) (Below.refl _ _) (Nat.le_refl _) ?_; intro v' w1 ho hbel _)
  rw [List.nil_append] at ho
  go_wp2_with fail
  refine (rev_any _ xs _ _ ho hl).mono ?_
  rintro e w2 ⟨rfl, ho2, hg⟩
  have hb2 : Below w.heap.size w w2 := hbel.grown hg hbel.size fun k hk => (ho.lt k hk).1
  go_wp2_with fail
  go_ret
  exact ⟨_, rfl, ho2, hb2⟩

theorem iturn_any (v : Value) (xs : List Int) (w : World) (h : RL w v xs) :
    Calls Try.prog 95 #[v] w (PostIB w (turnR xs) (rvB xs)) := by
  cases hb : rvB xs
  · have HB := hid hb
    clear hb
    go_enter Try.func95, Try.ntmps95
    go_wp2_with fail
    refine (ival_any _ xs _ h).mono ?_
    rintro e w' ⟨rfl, rfl⟩
    rw [HB.out]
    go_wp2_with fail
    go_ret2
    exact ⟨_, rfl, by unfold turnR; rw [HB.out]; exact OI.nil _ _, Below.refl _ _⟩
  · have hl := rvB_len hb
    have HB := hid hb
    clear hb
    go_enter Try.func95, Try.ntmps95
    go_wp2_with fail
    refine (ival_any _ xs _ h).mono ?_
    rintro e w' ⟨rfl, rfl⟩
    rw [HB.out]
    go_wp2_with fail
    refine (turned_any _ xs _ h (by omega)).mono ?_
    rintro e w' ⟨vo, rfl, ho, hbel⟩
    go_wp2_with fail
    go_ret2
    exact ⟨vo, rfl, by unfold turnR; rw [HB.out]; exact ho, hbel⟩
end Go.Proofs.Yteelobokjidphaa
