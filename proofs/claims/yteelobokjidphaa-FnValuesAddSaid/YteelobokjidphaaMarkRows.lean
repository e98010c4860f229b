/- The contracts of the statements' own helpers over slices of rows: mark, held, compare. No condition. -/
import Derived.Test.YteelobokjidphaaLawRows
import Derived.Test.YteelobokjidphaaSameRow
namespace Go.Proofs.Yteelobokjidphaa
open Go.RowKit
set_option maxRecDepth 100000

/-- The marks of rows, from k on. -/
def sumS : List (List Int) → Int
  | [] => 0
  | x :: xs => (x.length : Int) + sumS xs
def marksS : Int → List (List Int) → List (List Int)
  | _, [] => []
  | k, x :: xs => marks k x.length :: marksS (k + x.length) xs
theorem sumS_nonneg : ∀ xs : List (List Int), 0 ≤ sumS xs
  | [] => Int.le_refl _
  | x :: xs => by unfold sumS; have := sumS_nonneg xs; omega
theorem marksS_length : ∀ (k : Int) (xs : List (List Int)), (marksS k xs).length = xs.length
  | _, [] => rfl
  | k, x :: xs => by simp [marksS, marksS_length _ xs]
theorem sumS_app : ∀ xs ys : List (List Int), sumS (xs ++ ys) = sumS xs + sumS ys
  | [], ys => by simp [sumS]
  | x :: xs, ys => by simp only [List.cons_append, sumS]; rw [sumS_app xs ys]; omega
theorem marksS_app : ∀ (k : Int) (xs ys : List (List Int)), marksS k (xs ++ ys) = marksS k xs ++ marksS (k + sumS xs) ys
  | k, [], ys => by simp [sumS, marksS]
  | k, x :: xs, ys => by
    simp only [List.cons_append, marksS, sumS]
    rw [marksS_app _ xs ys]
    congr 3
    omega
theorem take_row {xs : List (List Int)} {k : Nat} (h : k < xs.length) : xs.take (k + 1) = xs.take k ++ [xs.getD k []] := by
  rw [List.take_add_one]; simp [h]
theorem drop_row {xs : List (List Int)} {k : Nat} (h : k < xs.length) : xs.drop k = xs.getD k [] :: xs.drop (k + 1) := by
  rw [List.drop_eq_getElem_cons h]; simp [h]
theorem sumS_take {xs : List (List Int)} {k : Nat} (h : k < xs.length) : sumS (xs.take (k + 1)) = sumS (xs.take k) + ((xs.getD k []).length : Int) := by
  rw [take_row h, sumS_app]; simp [sumS]
theorem sumS_le {xs : List (List Int)} (c : Int) (hl : ∀ i, i < xs.length → ((xs.getD i []).length : Int) ≤ c) : ∀ k : Nat, k ≤ xs.length → sumS (xs.take k) ≤ (k : Int) * c
  | 0, _ => by simp [sumS]
  | k + 1, hk => by
    rw [sumS_take (by omega)]
    have := sumS_le c hl k (by omega)
    have := hl k (by omega)
    have e : ((k + 1 : Nat) : Int) * c = (k : Int) * c + c := by rw [Int.natCast_add, Int.add_mul]; omega
    omega
/-- Rows that are marked as far as row j. -/
def markedS (k : Int) (xs : List (List Int)) (j : Nat) : List (List Int) := marksS k (xs.take j) ++ xs.drop j
theorem markedS_zero (k : Int) (xs : List (List Int)) : markedS k xs 0 = xs := by simp [markedS, marksS]
theorem markedS_all (k : Int) (xs : List (List Int)) : markedS k xs xs.length = marksS k xs := by simp [markedS]
theorem markedS_length (k : Int) (xs : List (List Int)) {j : Nat} (h : j ≤ xs.length) : (markedS k xs j).length = xs.length := by simp [markedS, marksS_length]; omega
theorem markedS_get (k : Int) {xs : List (List Int)} {j : Nat} (h : j < xs.length) : (markedS k xs j).getD j [] = xs.getD j [] := by
  have hl : (marksS k (xs.take j)).length = j := by rw [marksS_length, List.length_take]; omega
  unfold markedS
  rw [List.getD, List.getElem?_append_right (by omega), hl, Nat.sub_self, List.getElem?_drop]
  simp [List.getD]
theorem markedS_set (k : Int) {xs : List (List Int)} {j : Nat} (h : j < xs.length) : (markedS k xs j).set j (marks (k + sumS (xs.take j)) (xs.getD j []).length) = markedS k xs (j + 1) := by
  have hl : (marksS k (xs.take j)).length = j := by rw [marksS_length, List.length_take]; omega
  unfold markedS
  rw [List.set_append_right _ _ (by omega), hl, Nat.sub_self, drop_row h, List.set_cons_zero, take_row h, marksS_app, List.append_assoc]
  rfl
theorem marksS_get : ∀ (k : Int) (xs : List (List Int)) (j : Nat), j < xs.length → (marksS k xs).getD j [] = marks (k + sumS (xs.take j)) (xs.getD j []).length
  | _, [], j, h => by simp at h
  | k, x :: xs, 0, _ => by simp [marksS, sumS]
  | k, x :: xs, j + 1, h => by
    have ih := marksS_get (k + x.length) xs j (by simpa using h)
    simp only [marksS, List.getD_cons_succ, List.take_succ_cons, sumS]
    rw [ih]
    have e : k + (x.length : Int) + sumS (xs.take j) = k + ((x.length : Int) + sumS (xs.take j)) := by omega
    rw [e]

theorem ownsRow_blkV {w w' : World} {lo : Nat} {e : TypeId} {size n : Nat} {v : Value} {xs : List Value} (h : w.ownsRow lo e size v n xs) (hb : ∀ k, v.ownBlock = some k → w'.heap[k]? = w.heap[k]?) : w'.ownsRow lo e size v n xs := by
  obtain ⟨h1, h2⟩ := h
  refine ⟨h1, ?_⟩
  rcases h2 with h2 | ⟨g, cap, cur, hv, hg, hh, r⟩
  · exact .inl h2
  · exact .inr ⟨g, cap, cur, hv, hg, by rw [hb g (by rw [hv]; rfl)]; exact hh, r⟩
theorem GridR.shape {w : World} {lo hi : Nat} {o : Value} {xss : List (List Int)} (h : GridR w lo hi o xss) : ∃ a c, o = .slice a xss.length c ∧ xss.length ≤ c ∧ c ≤ maxLen := by
  obtain ⟨vs, h1, ⟨h2, -⟩, -⟩ := h
  rw [← h1]
  exact h2.shape
theorem GridR.at {w : World} {lo hi : Nat} {o : Value} {xss : List (List Int)} (h : GridR w lo hi o xss) {i : Nat} (hi' : i < xss.length) :
    ∃ g c, o = .slice (some ⟨g, 0, none⟩) xss.length c ∧ lo ≤ g ∧ g < hi ∧ xss.length ≤ c ∧ c ≤ maxLen := by
  obtain ⟨vs, h1, ⟨h2, h3⟩, -⟩ := h
  obtain ⟨g, c, rfl, hg1, hg2, hc⟩ := h2.at (i := i) (by omega)
  rw [← h1]
  exact ⟨g, c, rfl, hg1, h3 g rfl, hc⟩
/-- A row of the grid is written. -/
theorem GridR.row {w : World} {lo hi g n c : Nat} {xss : List (List Int)} (h : GridR w lo hi (.slice (some ⟨g, 0, none⟩) n c) xss) {i : Nat} (hi' : i < xss.length) :
    ∃ u, w.cell? ⟨g, i, none⟩ = some u ∧ OR w lo hi u (xss.getD i []) ∧ ∀ w2 ys, OI w2 lo u ys → w.grownBy w2 u.ownBlock → GridR w2 lo hi (.slice (some ⟨g, 0, none⟩) n c) (xss.set i ys) := by
  obtain ⟨vs, h1, ⟨h2, h3⟩, h4, h5⟩ := h
  have hv : i < vs.length := by omega
  refine ⟨vs.getD i undef, (OV.cell h2 hv).1, h4 i hv, fun w2 ys ho hg => ⟨vs, by rw [List.length_set]; exact h1, ⟨?_, h3⟩, fun j hj => ?_, h5⟩⟩
  · refine ownsRow_blkV h2 fun k hk => hg.block k (OV.lt h2 k hk).2 fun e => OV_OI_ne h2 (h4 i hv).1 k e.symm hk
  · by_cases e : i = j
    · subst e
      have e2 : (xss.set i ys).getD i [] = ys := by simp [hi']
      rw [e2]
      exact ⟨ho, Nat.le_trans (h4 i hv).2.1 hg.size, (h4 i hv).2.2⟩
    · have e2 : (xss.set i ys).getD j [] = xss.getD j [] := by simp [e]
      rw [e2]
      exact ⟨(h4 j hj).1.kept hg fun b hb e3 => h5 i j b hv hj e e3 hb, Nat.le_trans (h4 j hj).2.1 hg.size, (h4 j hj).2.2⟩

set_option maxHeartbeats 2000000 in
theorem markRows_r (v : Value) (xss : List (List Int)) (k : Int) (lo hi : Nat) (w : World) (h : GridR w lo hi v xss) (h0 : 0 ≤ k) (h1 : k ≤ 4398046511104) (hn : xss.length ≤ 1048577) (hl : ∀ i, i < xss.length → ((xss.getD i []).length : Int) ≤ 1048576) :
    Calls Try.prog 29 #[v, .int .i64 k] w fun e w' => e = .returned (.int .i64 (k + sumS xss)) ∧ GridR w' lo hi v (marksS k xss) ∧ Mod lo hi w w' := by
  obtain ⟨a, c, rfl, h2, h3⟩ := h.shape
  unfold maxLen at h3
  obtain ⟨R, hR⟩ : ∃ R, R = marksS k xss := ⟨_, rfl⟩
  rw [← hR]
  have hsum := sumS_le 1048576 hl
  have HR := hid hR
  have HL := hid hl
  have HSUM := hid hsum
  have H := hid h
  clear hR hl hsum h
  go_enter Try.func29, Try.ntmps29
  go_wp2_with fail
  go_loopw [1, 5] (fun q i wr => ∃ j : Nat, j ≤ xss.length ∧ i = .int .i64 j ∧ q = .int .i64 (k + sumS (xss.take j)) ∧ GridR wr lo hi (.slice a xss.length c) (markedS k xss j) ∧ Mod lo hi w wr) (fun _ i _ => xss.length - (intOf i).toNat)
  case atStart => exact ⟨0, Nat.zero_le _, rfl, by simp [sumS], by rw [markedS_zero]; exact H.out, Mod.refl _ _ _⟩
  case round =>
    clear H
    obtain ⟨j, hj, rfl, rfl, ho, hm⟩ := hrel
    have hb1 := HSUM.out j hj
    have hb0 := sumS_nonneg (xss.take j)
    by_cases hlt : j < xss.length
    · have hms := markedS_set k hlt
      have hst := sumS_take hlt
      obtain ⟨S, hS⟩ : ∃ S, S = sumS (xss.take j) := ⟨_, rfl⟩
      rw [← hS] at hb0 hb1 hms hst ⊢
      have hml := markedS_length k xss hj
      obtain ⟨g, c', e', hg1, hg2, -, -⟩ := ho.at (i := j) (by rw [hml]; exact hlt)
      simp only [Value.slice.injEq] at e'
      obtain ⟨rfl, -, rfl⟩ := e'
      have hget := markedS_get k hlt
      have hll := HL.out j hlt
      obtain ⟨u, hc, hu, hk⟩ := ho.row (i := j) (by rw [hml]; exact hlt)
      rw [hget] at hu
      obtain ⟨ys, hys⟩ : ∃ ys, ys = xss.getD j [] := ⟨_, rfl⟩
      rw [← hys] at hu hll hms hst
      have HMS := hid hms
      have HST := hid hst
      have HYS := hid hys
      have HSS := hid hS
      have HK := hid hk
      clear hS hys hms hst hget hml hk ho
      go_wp2_with fail
      refine (markInt_any u ys _ lo _ hu.1 (by omega) (by omega) (by omega)).mono ?_
      rintro e w2 ⟨rfl, hf2, hgr2⟩
      have o2 := HK.out w2 _ hf2 hgr2
      rw [HMS.out] at o2
      have hm2 := hu.of_grown hgr2
      have O2 := hid o2
      clear o2 hf2 hgr2
      go_wp2_with fail
      go_roundw
      case rel => exact ⟨j + 1, by omega, by go_num, by rw [HST.out]; congr 1; omega, O2.out, hm.trans hm2⟩
      case measure => simp [intOf]; omega
    · obtain rfl : j = xss.length := by omega
      rw [markedS_all] at ho
      rw [List.take_length] at hb0 hb1 ⊢
      go_wp2_with fail
      go_ret
      exact ⟨rfl, by rw [HR.out]; exact ho, hm⟩
set_option maxHeartbeats 2000000 in
theorem heldRows_any (v : Value) (xss : List (List Int)) (k : Int) (hi : Nat) (w : World) (h : RS w hi v (marksS k xss)) (h0 : 0 ≤ k) (h1 : k ≤ 4398046511104) (hn : xss.length ≤ 1048577) (hl : ∀ i, i < xss.length → ((xss.getD i []).length : Int) ≤ 1048576) :
    Calls Try.prog 30 #[v, .int .i64 k] w fun e w' => e = .returned (.int .i64 (k + sumS xss)) ∧ w = w' := by
  obtain ⟨a, c, rfl, h2, h3, hs, h4⟩ := h
  rw [marksS_length] at h2 h4 ⊢
  unfold maxLen at h3
  have hsum := sumS_le 1048576 hl
  have HL := hid hl
  have HSUM := hid hsum
  have H4 := hid h4
  clear hl hsum h4
  go_enter Try.func30, Try.ntmps30
  go_wp2_with fail
  go_loop [1, 5] (fun q i => ∃ j : Nat, j ≤ xss.length ∧ i = .int .i64 j ∧ q = .int .i64 (k + sumS (xss.take j))) (fun _ i => xss.length - (intOf i).toNat)
  case atStart => exact ⟨0, Nat.zero_le _, rfl, by simp [sumS]⟩
  case round =>
    obtain ⟨j, hj, rfl, rfl⟩ := hrel
    have hb1 := HSUM.out j hj
    have hb0 := sumS_nonneg (xss.take j)
    by_cases hlt : j < xss.length
    · obtain ⟨b, o, u, rfl, hb, c0, hu⟩ := H4.out j hlt
      have hl1 := HL.out j hlt
      have hst := sumS_take hlt
      rw [marksS_get k xss j hlt] at hu
      obtain ⟨S, hS⟩ : ∃ S, S = sumS (xss.take j) := ⟨_, rfl⟩
      rw [← hS] at hb0 hb1 hst hu ⊢
      obtain ⟨m, hm⟩ : ∃ m, m = (xss.getD j []).length := ⟨_, rfl⟩
      rw [← hm] at hl1 hst hu
      have HST := hid hst
      have n1 : ¬ (k + S + (m : Int) < 0) := by omega
      have HSS := hid hS
      have HM := hid hm
      clear hst hS hm
      go_wp2_with fail
      refine (heldInt_any _ (k + S) m _ hu.rl (by omega) (by omega) (by omega)).mono ?_
      rintro e _ ⟨rfl, rfl⟩
      go_wp2_with fail
      go_round
      case rel => exact ⟨j + 1, by omega, by go_num, by rw [HST.out]; congr 1; omega⟩
      case measure => simp [intOf]; omega
    · obtain rfl : j = xss.length := by omega
      rw [List.take_length] at hb0 hb1 ⊢
      go_wp2_with fail
      go_ret
      exact ⟨rfl, rfl⟩

set_option maxHeartbeats 1000000 in
/-- Equal rows are told equal. -/
theorem sameRows_m (v u : Value) (xss : List (List Int)) (hi hi' : Nat) (w : World) (h : RS w hi v xss) (h' : RS w hi' u xss) :
    Calls Try.prog 44 #[v, u] w fun e w' => e = .returned (.bool true) ∧ Mod 0 0 w w' := by
  obtain ⟨a, c, rfl, h1, h2, hs, h3⟩ := h
  obtain ⟨a', c', rfl, h1', h2', hs', h3'⟩ := h'
  unfold maxLen at h2 h2'
  have H3 := hid h3
  have H3' := hid h3'
  clear h3 h3'
  go_enter Try.func44, Try.ntmps44
  go_wp2_with fail
  go_loopw [5] (fun i wr => ∃ k : Nat, k ≤ xss.length ∧ i = .int .i64 k ∧ Mod 0 0 w wr) (fun i _ => xss.length - (intOf i).toNat)
  case atStart => exact ⟨0, Nat.zero_le _, rfl, Mod.refl _ _ _⟩
  case round =>
    obtain ⟨k, hk, rfl, hm⟩ := hrel
    by_cases hlt : k < xss.length
    · obtain ⟨b, o, y, rfl, hb, hc, hr⟩ := H3.out k hlt
      obtain ⟨b', o', y', rfl, hb', hc', hr'⟩ := H3'.out k hlt
      have c1 := World.cell?_of_block (a := ⟨b, o + k, none⟩) (hm.block b (Nat.lt_of_lt_of_le hb hs) (.inr (Nat.zero_le _)))
      have c2 := World.cell?_of_block (a := ⟨b', o' + k, none⟩) (hm.block b' (Nat.lt_of_lt_of_le hb' hs') (.inr (Nat.zero_le _)))
      replace hc := c1.trans hc
      replace hc' := c2.trans hc'
      replace hr := hr.mod hm (.inr (Nat.zero_le _))
      replace hr' := hr'.mod hm (.inr (Nat.zero_le _))
      clear c1 c2
      generalize xss.getD k [] = xs at hr hr'
      have hk0 : (0 : Int) ≤ (k : Int) := by omega
      have hk1 : (k : Int) < (xss.length : Int) := by omega
      have hbs := Nat.lt_of_lt_of_le (Nat.lt_of_lt_of_le hb hs) hm.size
      have hbs' := Nat.lt_of_lt_of_le (Nat.lt_of_lt_of_le hb' hs') hm.size
      go_wp2_with fail
      go_region_held3 (fun w' => w'.cell? ⟨b, o + k, none⟩ = some y ∧ w'.cell? ⟨b', o' + k, none⟩ = some y') (first | go_keep | (go_split_ands; exact ⟨(World.cell?_of_block (a := ⟨b, o + k, none⟩) (hm5.block b hbs (.inr (Nat.zero_le _)))).trans hc, (World.cell?_of_block (a := ⟨b', o' + k, none⟩) (hm5.block b' hbs' (.inr (Nat.zero_le _)))).trans hc'⟩))
        ((go_at_call 46; refine (sameRow_m _ _ xs xs wr.drew hr.rl hr'.rl).mono ?_; rintro e w5 ⟨rfl, hm5⟩; rw [sameB_self]))
      go_wp2_with fail
      go_roundw
      case rel => exact ⟨k + 1, by omega, by go_num, hm.trans ((Mod.drewN _ 1).trans hm5)⟩
      case measure => simp [intOf]; omega
    · go_wp2_with fail
      go_ret
      exact ⟨rfl, hm⟩
end Go.Proofs.Yteelobokjidphaa
