/- The contracts of the reference's sorting of a row. No condition. -/
import Derived.Test.YteelobokjidphaaRow
import Derived.Test.YteelobokjidphaaPure
namespace Go.Proofs.Yteelobokjidphaa
open Go.RowKit

theorem put_hit {ys : List Int} {n : Int} {k : Nat} (hk : k < ys.length) (h1 : ∀ i, i < k → ys.getD i 0 ≤ n) (h2 : n < ys.getD k 0) : put ys n = (ys.take k ++ [n] ++ [ys.getD k 0]) ++ ys.drop (k + 1) := by
  rw [put_first ys n k (by omega) h1 (fun _ => h2), List.drop_eq_getElem_cons hk]
  simp [hk]
theorem take_succ_getD {ys : List Int} {k : Nat} (hk : k < ys.length) : ys.take (k + 1) = ys.take k ++ [ys.getD k 0] := by
  rw [List.take_succ_eq_append_getElem hk]
  simp [hk]
theorem drop_getD {ys : List Int} {k : Nat} (hk : k < ys.length) : ys.drop k = ys.getD k 0 :: ys.drop (k + 1) := by
  rw [List.drop_eq_getElem_cons hk]
  simp [hk]

/-- What stands in the slots at a round's head. -/
def PutAt (w : World) (ys : List Int) (n : Int) (k : Nat) (o d : Value) (wr : World) : Prop :=
  Below w.heap.size w wr ∧ ((d = .bool false ∧ (∀ i, i < k → ys.getD i 0 ≤ n) ∧ OI wr w.heap.size o (ys.take k)) ∨ (d = .bool true ∧ ∃ L, L.length ≤ k + 1 ∧ put ys n = L ++ ys.drop k ∧ OI wr w.heap.size o L))

set_option maxHeartbeats 4000000 in
theorem put_any (v : Value) (ys : List Int) (n : Int) (w : World) (h : RL w v ys) (hl : ys.length ≤ 100) :
    Calls Try.prog 114 #[v, .int .i64 n] w (PostI w (put ys n)) := by
  obtain ⟨a, c, rfl, h1, h2, h3⟩ := h
  unfold maxLen at h2
  have H3 := hid h3
  clear h3
  go_enter Try.func114, Try.ntmps114
  go_wp2_with fail
  go_loopw [5, 6, 7] (fun o d i wr => ∃ k : Nat, k ≤ ys.length ∧ i = .int .i64 (k : Int) ∧ PutAt w ys n k o d wr) (fun _ _ i _ => ys.length - (intOf i).toNat)
  case atStart => exact ⟨0, Nat.zero_le _, rfl, (Below.refl _ _).alloc (Nat.le_refl _) _, .inl ⟨rfl, by omega, OI.fresh0 w (Nat.le_refl _)⟩⟩
  case round =>
    obtain ⟨k, hk, rfl, hbel, hor⟩ := hrel
    by_cases hlt : k < ys.length
    · obtain ⟨b, of, rfl, hbs, hc⟩ := H3.out k hlt
      rw [← hbel.cell (p := ⟨b, of + k, none⟩) hbs] at hc
      have hcw : ∀ w', Below w.heap.size w w' → w'.cell? ⟨b, of + k, none⟩ = some (.int .i64 (ys.getD k 0)) := fun w' hb => by
        rw [hb.cell (p := ⟨b, of + k, none⟩) hbs, ← hbel.cell (p := ⟨b, of + k, none⟩) hbs]; exact hc
      obtain ⟨y, hy⟩ : ∃ y, y = ys.getD k 0 := ⟨_, rfl⟩
      rw [← hy] at hc hcw
      have HY := hid hy
      have HCW := hid hcw
      clear hy hcw
      rcases hor with ⟨rfl, hle, ho⟩ | ⟨rfl, L, hL, hput, ho⟩
      · have HLE := hid hle
        clear hle
        by_cases hyn : n < y
        · have HP := hid (put_hit hlt HLE.out (by rw [← HY.out]; exact hyn))
          go_wp2_with (at_builtin; first | (refine app1 rfl _ _ 24 rfl Try.underlying24 w.heap.size _ _ _ ho rfl rfl (by simp; omega) hbel hbel.size ?_; intro v1 w1 ho1 hbel1 _; have hc1 := HCW.out w1 hbel1) | (refine app1 rfl _ _ 24 rfl Try.underlying24 w.heap.size _ _ _ ho1 rfl rfl (by simp; omega) hbel1 hbel1.size ?_; intro v2 w2 ho2 hbel2 _))
          go_roundw
          case rel => exact ⟨k + 1, by omega, by go_num, hbel2, .inr ⟨rfl, ys.take k ++ [n] ++ [y], by simp; omega, by rw [HY.out]; exact HP.out, ho2⟩⟩
          case measure => simp [intOf]; omega
        · go_wp2_with (at_builtin; refine app1 rfl _ _ 24 rfl Try.underlying24 w.heap.size _ _ _ ho rfl rfl (by simp; omega) hbel hbel.size ?_; intro v1 w1 ho1 hbel1 _)
          go_roundw
          case rel =>
            refine ⟨k + 1, by omega, by go_num, hbel1, .inl ⟨rfl, fun i hi => ?_, by rw [take_succ_getD hlt, ← HY.out]; exact ho1⟩⟩
            by_cases e : i = k
            · subst e; rw [← HY.out]; omega
            · exact HLE.out i (by omega)
          case measure => simp [intOf]; omega
      · have HP := hid hput
        clear hput
        go_wp2_with (at_builtin; refine app1 rfl _ _ 24 rfl Try.underlying24 w.heap.size _ _ _ ho rfl rfl (by omega) hbel hbel.size ?_; intro v1 w1 ho1 hbel1 _)
        go_roundw
        case rel => exact ⟨k + 1, by omega, by go_num, hbel1, .inr ⟨rfl, _, by simp; omega, by rw [HP.out, drop_getD hlt, ← HY.out]; simp, ho1⟩⟩
        case measure => simp [intOf]; omega
    · obtain rfl : k = ys.length := by omega
      rcases hor with ⟨rfl, hle, ho⟩ | ⟨rfl, L, hL, hput, ho⟩
      · have HP := hid (put_first ys n ys.length (Nat.le_refl _) hle (by omega))
        clear hle
        go_wp2_with (at_builtin; refine app1 rfl _ _ 24 rfl Try.underlying24 w.heap.size _ _ _ ho rfl rfl (by simp; omega) hbel hbel.size ?_; intro v1 w1 ho1 hbel1 _)
        go_ret
        exact ⟨_, rfl, by rw [HP.out]; simpa using ho1, hbel1⟩
      · have HP := hid hput
        clear hput
        go_wp2_with fail
        go_ret
        exact ⟨_, rfl, by rw [HP.out]; simpa using ho, hbel⟩

set_option maxHeartbeats 1000000 in
theorem ssort_any (v : Value) (xs : List Int) (w : World) (h : RL w v xs) :
    Calls Try.prog 101 #[v] w (PostIB w (sortR xs) (rvB xs)) := by
  have h0 := h
  obtain ⟨a, c, rfl, h1, h2, h3⟩ := h0
  unfold maxLen at h2
  cases hb : rvB xs
  · have HB := hid hb
    clear hb
    go_enter Try.func101, Try.ntmps101
    go_wp2_with fail
    refine (srv_any _ xs _ (h.mono ((Below.refl _ _).alloc (Nat.le_refl _) _))).mono ?_
    rintro e w' ⟨rfl, rfl⟩
    rw [HB.out]
    go_wp2_with fail
    go_ret2
    exact ⟨_, rfl, by unfold sortR; rw [HB.out]; exact OI.fresh0 w (Nat.le_refl _), (Below.refl _ _).alloc (Nat.le_refl _) _⟩
  · have hl := rvB_len hb
    have HB := hid hb
    have H3 := hid h3
    clear hb h3
    go_enter Try.func101, Try.ntmps101
    go_wp2_with fail
    refine (srv_any _ xs _ (h.mono ((Below.refl _ _).alloc (Nat.le_refl _) _))).mono ?_
    rintro e w' ⟨rfl, rfl⟩
    rw [HB.out]
    go_wp2_with fail
    go_loopw [4, 5] (fun o i wr => ∃ k : Nat, k ≤ xs.length ∧ i = .int .i64 (k : Int) ∧ OI wr w.heap.size o (sortL (xs.take k)) ∧ Below w.heap.size w wr)
      (fun _ i _ => xs.length - (intOf i).toNat)
    case atStart => exact ⟨0, Nat.zero_le _, rfl, OI.fresh0 w (Nat.le_refl _), (Below.refl _ _).alloc (Nat.le_refl _) _⟩
    case round =>
      obtain ⟨k, hk, rfl, ho, hbel⟩ := hrel
      by_cases hlt : k < xs.length
      · obtain ⟨b, of, rfl, hbs, hc⟩ := H3.out k hlt
        rw [← hbel.cell (p := ⟨b, of + k, none⟩) hbs] at hc
        have HT := hid (sortL_take_succ hlt)
        obtain ⟨y, hy⟩ : ∃ y, y = xs.getD k 0 := ⟨_, rfl⟩
        rw [← hy] at hc HT
        clear hy
        go_wp2_with fail
        refine (put_any _ _ y _ ho.rl (by rw [sortL_length]; simp; omega)).mono ?_
        rintro e w1 ⟨vo, rfl, ho1, hb1⟩
        have hbel1 := hbel.trans (hb1.mono hbel.size)
        have ho1' := ho1.base hbel.size
        clear ho ho1 hb1
        go_wp2_with fail
        go_roundw
        case rel => exact ⟨k + 1, by omega, by go_num, by rw [HT.out]; exact ho1', hbel1⟩
        case measure => simp [intOf]; omega
      · obtain rfl : k = xs.length := by omega
        go_wp2
        go_ret2
        exact ⟨_, rfl, by rw [sortR_of HB.out, ← List.take_length (l := xs)]; exact ho, hbel⟩
end Go.Proofs.Yteelobokjidphaa
