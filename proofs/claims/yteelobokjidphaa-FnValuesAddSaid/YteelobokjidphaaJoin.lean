/- The contracts of the program's functions that put two rows together. No condition. -/
import Derived.Test.YteelobokjidphaaRow
import Derived.StillTailTactics
namespace Go.Proofs.Yteelobokjidphaa
open Go.RowKit

theorem clo_add (x y : Int) (w : World) (h1 : 0 ≤ x) (h2 : x ≤ 1008) (h3 : 0 ≤ y) (h4 : y ≤ 1008) :
    0 ≤ x + y ∧ x + y ≤ 1016064 ∧ Calls Try.prog 105 #[.int .i64 x, .int .i64 y] w (fun e w' => e = .returned (.int .i64 (x + y)) ∧ w = w') := by
  refine ⟨by omega, by omega, ?_⟩
  go_enter Try.func105, Try.ntmps105
  go_wp2_with fail
  go_ret
  exact ⟨rfl, rfl⟩

theorem clo_mul (x y : Int) (w : World) (h1 : 0 ≤ x) (h2 : x ≤ 1008) (h3 : 0 ≤ y) (h4 : y ≤ 1008) :
    0 ≤ x * y ∧ x * y ≤ 1016064 ∧ Calls Try.prog 106 #[.int .i64 x, .int .i64 y] w (fun e w' => e = .returned (.int .i64 (x * y)) ∧ w = w') := by
  have hm1 : 0 ≤ x * y := Int.mul_nonneg h1 h3
  have hm2 : x * y ≤ 1016064 := by have := Int.mul_le_mul h2 h4 h3 (by omega); omega
  refine ⟨hm1, hm2, ?_⟩
  go_enter Try.func106, Try.ntmps106
  go_wp2_with fail
  go_ret
  exact ⟨rfl, rfl⟩

set_option maxHeartbeats 1000000 in
theorem join_add (v u : Value) (xs ys : List Int) (w : World) (h : RL w v xs) (h' : RL w u ys) :
    Calls Try.prog 104 #[v, u, .func (Fn.func 105) #[] #[]] w (PostIB w (joinR addF xs ys) (bothB xs ys)) := by
  have h0 := h
  have h0' := h'
  obtain ⟨a, c, rfl, h1, h2, h3⟩ := h0
  obtain ⟨a', c', rfl, h1', h2', h3'⟩ := h0'
  unfold maxLen at h2 h2'
  cases hx : rvB xs
  · have hb : bothB xs ys = false := by unfold bothB; rw [hx]; rfl
    rw [hb]
    have HX := hid hx
    have HB := hid hb
    clear hx hb
    go_enter Try.func104, Try.ntmps104
    go_wp2_with fail
    refine (ival_any _ xs _ h).mono ?_
    rintro e w' ⟨rfl, rfl⟩
    rw [HX.out]
    go_wp2_with fail
    go_ret2
    exact ⟨_, rfl, by unfold joinR; rw [HB.out]; exact OI.nil _ _, Below.refl _ _⟩
  cases hy : rvB ys
  · have hb : bothB xs ys = false := by unfold bothB; rw [hx, hy]; rfl
    rw [hb]
    have HB := hid hb
    have HX := hid hx
    have HY := hid hy
    clear hx hy hb
    go_enter Try.func104, Try.ntmps104
    go_wp2_with fail
    refine (ival_any _ xs _ h).mono ?_
    rintro e w' ⟨rfl, rfl⟩
    rw [HX.out]
    go_wp2_with fail
    refine (ival_any _ ys _ h').mono ?_
    rintro e w' ⟨rfl, rfl⟩
    rw [HY.out]
    go_wp2_with fail
    go_ret2
    exact ⟨_, rfl, by unfold joinR; rw [HB.out]; exact OI.nil _ _, Below.refl _ _⟩
  by_cases hxy : xs.length = ys.length
  · have hb : bothB xs ys = true := by unfold bothB; rw [hx, hy, decide_eq_true hxy]; rfl
    rw [hb]
    have hl := rvB_len hx
    have hbx := fun k (hk : k < xs.length) => rvB_get hx hk
    have hby := fun k (hk : k < ys.length) => rvB_get hy hk
    have ht : ((xs.length : Int) == (ys.length : Int)) = true := by rw [natBeq]; exact decide_eq_true hxy
    have hn' : ((xs.length : Int) != (ys.length : Int)) = false := by rw [bne, ht]; rfl
    have HB := hid hb
    have HXY := hid hxy
    have HBX := hid hbx
    have HBY := hid hby
    have H3 := hid h3
    have H3' := hid h3'
    have HX := hid hx
    have HY := hid hy
    clear hb hx hy hxy hbx hby h3 h3' ht
    go_enter Try.func104, Try.ntmps104
    go_wp2_with fail
    refine (ival_any _ xs _ h).mono ?_
    rintro e w' ⟨rfl, rfl⟩
    rw [HX.out]
    go_wp2_with fail
    refine (ival_any _ ys _ h').mono ?_
    rintro e w' ⟨rfl, rfl⟩
    rw [HY.out]
    go_wp2_with (at_make; refine mk1 rfl _ _ 99 rfl Try.underlying99 w.heap.size xs.length _ _ rfl rfl rfl rfl (by omega) (Below.refl _ _) (Nat.le_refl _) ?_; intro v' w1 ho rfl hbel _)
    go_loopw [31] (fun i wr => ∃ k : Nat, k ≤ xs.length ∧ i = .int .i64 k ∧ OI wr w.heap.size (.slice (some ⟨w.heap.size, 0, none⟩) xs.length xs.length) (filled (fun i => addF (xs.getD i 0) (ys.getD i 0)) xs.length k) ∧ Below w.heap.size w wr)
      (fun i _ => xs.length - (intOf i).toNat)
    case atStart => exact ⟨0, Nat.zero_le _, rfl, by rw [filled_zero]; exact ho, hbel⟩
    case round =>
      clear ho hbel
      obtain ⟨k, hk, rfl, ho, hbel⟩ := hrel
      by_cases hlt : k < xs.length
      · obtain ⟨b, of, rfl, hbs, hc⟩ := H3.out k hlt
        obtain ⟨b', of', rfl, hbs', hc'⟩ := H3'.out k (by rw [← HXY.out]; exact hlt)
        have hn := HBX.out k hlt
        have hm := HBY.out k (by rw [← HXY.out]; exact hlt)
        obtain ⟨n, hn'⟩ : ∃ n, n = xs.getD k 0 := ⟨_, rfl⟩
        obtain ⟨m, hm'⟩ : ∃ m, m = ys.getD k 0 := ⟨_, rfl⟩
        rw [← hn'] at hc hn
        rw [← hm'] at hc' hm
        rw [← hbel.cell (p := ⟨b, of + k, none⟩) hbs] at hc
        rw [← hbel.cell (p := ⟨b', of' + k, none⟩) hbs'] at hc'
        have HN := hid hn'
        have HM := hid hm'
        have hly : (k : Int) < (ys.length : Int) := by have := HXY.out; omega
        have hfl := filled_length (fun i => addF (xs.getD i 0) (ys.getD i 0)) hk
        obtain ⟨hcell, hfroz⟩ := OI.cell ho (i := k) (by rw [hfl]; exact hlt)
        have hset := OI.set ho k ((n + m) % 1009)
        have HSET := hid hset
        clear hn' hm' hfl hset
        obtain ⟨hn1, hn2⟩ := hn
        obtain ⟨hm1, hm2⟩ := hm
        obtain ⟨ho1, ho2, hcall⟩ := clo_add n m wr hn1 hn2 hm1 hm2
        have HCALL := hid hcall
        clear hcall
        go_wp2_with fail
        refine HCALL.out.mono ?_
        rintro e w' ⟨rfl, rfl⟩
        go_wp2_with fail
        go_roundw
        case rel =>
          refine ⟨k + 1, by omega, by go_num, ?_, hbel.setCell (Nat.le_refl _) _⟩
          rw [← filled_set _ hlt, ← HN.out, ← HM.out]
          exact HSET.out
        case measure => simp [intOf]; omega
      · go_wp2
        go_ret2
        obtain rfl : k = xs.length := by omega
        exact ⟨_, rfl, by unfold joinR; rw [HB.out]; rw [filled_all] at ho; exact ho, hbel⟩
  · have hb : bothB xs ys = false := by unfold bothB; rw [decide_eq_false hxy, Bool.and_false]
    rw [hb]
    have ht : ((xs.length : Int) == (ys.length : Int)) = false := by rw [natBeq]; exact decide_eq_false hxy
    have hn' : ((xs.length : Int) != (ys.length : Int)) = true := by rw [bne, ht]; rfl
    have HX := hid hx
    have HY := hid hy
    have HB := hid hb
    clear hx hy hb hxy ht
    go_enter Try.func104, Try.ntmps104
    go_wp2_with fail
    refine (ival_any _ xs _ h).mono ?_
    rintro e w' ⟨rfl, rfl⟩
    rw [HX.out]
    go_wp2_with fail
    refine (ival_any _ ys _ h').mono ?_
    rintro e w' ⟨rfl, rfl⟩
    rw [HY.out]
    go_wp2_with fail
    go_ret2
    exact ⟨_, rfl, by unfold joinR; rw [HB.out]; exact OI.nil _ _, Below.refl _ _⟩

theorem iadd_any (v u : Value) (xs ys : List Int) (w : World) (h : RL w v xs) (h' : RL w u ys) :
    Calls Try.prog 91 #[v, u] w (PostIB w (joinR addF xs ys) (bothB xs ys)) := by
  go_enter Try.func91, Try.ntmps91
  go_wp2_with fail
  refine (join_add _ _ xs ys _ h h').mono ?_
  rintro e w' ⟨vo, rfl, ho, hb⟩
  go_wp2_with fail
  go_ret2
  exact ⟨vo, rfl, ho, hb⟩

set_option maxHeartbeats 1000000 in
theorem join_mul (v u : Value) (xs ys : List Int) (w : World) (h : RL w v xs) (h' : RL w u ys) :
    Calls Try.prog 104 #[v, u, .func (Fn.func 106) #[] #[]] w (PostIB w (joinR mulF xs ys) (bothB xs ys)) := by
  have h0 := h
  have h0' := h'
  obtain ⟨a, c, rfl, h1, h2, h3⟩ := h0
  obtain ⟨a', c', rfl, h1', h2', h3'⟩ := h0'
  unfold maxLen at h2 h2'
  cases hx : rvB xs
  · have hb : bothB xs ys = false := by unfold bothB; rw [hx]; rfl
    rw [hb]
    have HX := hid hx
    have HB := hid hb
    clear hx hb
    go_enter Try.func104, Try.ntmps104
    go_wp2_with fail
    refine (ival_any _ xs _ h).mono ?_
    rintro e w' ⟨rfl, rfl⟩
    rw [HX.out]
    go_wp2_with fail
    go_ret2
    exact ⟨_, rfl, by unfold joinR; rw [HB.out]; exact OI.nil _ _, Below.refl _ _⟩
  cases hy : rvB ys
  · have hb : bothB xs ys = false := by unfold bothB; rw [hx, hy]; rfl
    rw [hb]
    have HB := hid hb
    have HX := hid hx
    have HY := hid hy
    clear hx hy hb
    go_enter Try.func104, Try.ntmps104
    go_wp2_with fail
    refine (ival_any _ xs _ h).mono ?_
    rintro e w' ⟨rfl, rfl⟩
    rw [HX.out]
    go_wp2_with fail
    refine (ival_any _ ys _ h').mono ?_
    rintro e w' ⟨rfl, rfl⟩
    rw [HY.out]
    go_wp2_with fail
    go_ret2
    exact ⟨_, rfl, by unfold joinR; rw [HB.out]; exact OI.nil _ _, Below.refl _ _⟩
  by_cases hxy : xs.length = ys.length
  · have hb : bothB xs ys = true := by unfold bothB; rw [hx, hy, decide_eq_true hxy]; rfl
    rw [hb]
    have hl := rvB_len hx
    have hbx := fun k (hk : k < xs.length) => rvB_get hx hk
    have hby := fun k (hk : k < ys.length) => rvB_get hy hk
    have ht : ((xs.length : Int) == (ys.length : Int)) = true := by rw [natBeq]; exact decide_eq_true hxy
    have hn' : ((xs.length : Int) != (ys.length : Int)) = false := by rw [bne, ht]; rfl
    have HB := hid hb
    have HXY := hid hxy
    have HBX := hid hbx
    have HBY := hid hby
    have H3 := hid h3
    have H3' := hid h3'
    have HX := hid hx
    have HY := hid hy
    clear hb hx hy hxy hbx hby h3 h3' ht
    go_enter Try.func104, Try.ntmps104
    go_wp2_with fail
    refine (ival_any _ xs _ h).mono ?_
    rintro e w' ⟨rfl, rfl⟩
    rw [HX.out]
    go_wp2_with fail
    refine (ival_any _ ys _ h').mono ?_
    rintro e w' ⟨rfl, rfl⟩
    rw [HY.out]
    go_wp2_with (at_make; refine mk1 rfl _ _ 99 rfl Try.underlying99 w.heap.size xs.length _ _ rfl rfl rfl rfl (by omega) (Below.refl _ _) (Nat.le_refl _) ?_; intro v' w1 ho rfl hbel _)
    go_loopw [31] (fun i wr => ∃ k : Nat, k ≤ xs.length ∧ i = .int .i64 k ∧ OI wr w.heap.size (.slice (some ⟨w.heap.size, 0, none⟩) xs.length xs.length) (filled (fun i => mulF (xs.getD i 0) (ys.getD i 0)) xs.length k) ∧ Below w.heap.size w wr)
      (fun i _ => xs.length - (intOf i).toNat)
    case atStart => exact ⟨0, Nat.zero_le _, rfl, by rw [filled_zero]; exact ho, hbel⟩
    case round =>
      clear ho hbel
      obtain ⟨k, hk, rfl, ho, hbel⟩ := hrel
      by_cases hlt : k < xs.length
      · obtain ⟨b, of, rfl, hbs, hc⟩ := H3.out k hlt
        obtain ⟨b', of', rfl, hbs', hc'⟩ := H3'.out k (by rw [← HXY.out]; exact hlt)
        have hn := HBX.out k hlt
        have hm := HBY.out k (by rw [← HXY.out]; exact hlt)
        obtain ⟨n, hn'⟩ : ∃ n, n = xs.getD k 0 := ⟨_, rfl⟩
        obtain ⟨m, hm'⟩ : ∃ m, m = ys.getD k 0 := ⟨_, rfl⟩
        rw [← hn'] at hc hn
        rw [← hm'] at hc' hm
        rw [← hbel.cell (p := ⟨b, of + k, none⟩) hbs] at hc
        rw [← hbel.cell (p := ⟨b', of' + k, none⟩) hbs'] at hc'
        have HN := hid hn'
        have HM := hid hm'
        have hly : (k : Int) < (ys.length : Int) := by have := HXY.out; omega
        have hfl := filled_length (fun i => mulF (xs.getD i 0) (ys.getD i 0)) hk
        obtain ⟨hcell, hfroz⟩ := OI.cell ho (i := k) (by rw [hfl]; exact hlt)
        have hset := OI.set ho k ((n * m) % 1009)
        have HSET := hid hset
        clear hn' hm' hfl hset
        obtain ⟨hn1, hn2⟩ := hn
        obtain ⟨hm1, hm2⟩ := hm
        obtain ⟨ho1, ho2, hcall⟩ := clo_mul n m wr hn1 hn2 hm1 hm2
        have HCALL := hid hcall
        clear hcall
        go_wp2_with fail
        refine HCALL.out.mono ?_
        rintro e w' ⟨rfl, rfl⟩
        go_wp2_with fail
        go_roundw
        case rel =>
          refine ⟨k + 1, by omega, by go_num, ?_, hbel.setCell (Nat.le_refl _) _⟩
          rw [← filled_set _ hlt, ← HN.out, ← HM.out]
          exact HSET.out
        case measure => simp [intOf]; omega
      · go_wp2
        go_ret2
        obtain rfl : k = xs.length := by omega
        exact ⟨_, rfl, by unfold joinR; rw [HB.out]; rw [filled_all] at ho; exact ho, hbel⟩
  · have hb : bothB xs ys = false := by unfold bothB; rw [decide_eq_false hxy, Bool.and_false]
    rw [hb]
    have ht : ((xs.length : Int) == (ys.length : Int)) = false := by rw [natBeq]; exact decide_eq_false hxy
    have hn' : ((xs.length : Int) != (ys.length : Int)) = true := by rw [bne, ht]; rfl
    have HX := hid hx
    have HY := hid hy
    have HB := hid hb
    clear hx hy hb hxy ht
    go_enter Try.func104, Try.ntmps104
    go_wp2_with fail
    refine (ival_any _ xs _ h).mono ?_
    rintro e w' ⟨rfl, rfl⟩
    rw [HX.out]
    go_wp2_with fail
    refine (ival_any _ ys _ h').mono ?_
    rintro e w' ⟨rfl, rfl⟩
    rw [HY.out]
    go_wp2_with fail
    go_ret2
    exact ⟨_, rfl, by unfold joinR; rw [HB.out]; exact OI.nil _ _, Below.refl _ _⟩

theorem imul_any (v u : Value) (xs ys : List Int) (w : World) (h : RL w v xs) (h' : RL w u ys) :
    Calls Try.prog 92 #[v, u] w (PostIB w (joinR mulF xs ys) (bothB xs ys)) := by
  go_enter Try.func92, Try.ntmps92
  go_wp2_with fail
  refine (join_mul _ _ xs ys _ h h').mono ?_
  rintro e w' ⟨vo, rfl, ho, hb⟩
  go_wp2_with fail
  go_ret2
  exact ⟨vo, rfl, ho, hb⟩

end Go.Proofs.Yteelobokjidphaa
