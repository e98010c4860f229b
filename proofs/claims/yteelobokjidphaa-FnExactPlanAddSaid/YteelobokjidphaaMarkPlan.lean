/- The contracts of the statements' own helpers over plans: mark, held. No condition. -/
import Derived.Test.YteelobokjidphaaLawPlan
namespace Go.Proofs.Yteelobokjidphaa
open Go.RowKit
set_option maxRecDepth 100000

set_option maxHeartbeats 2000000 in
theorem markNodes_r (v : Value) (ns : List Nd) (k : Int) (lo hi : Nat) (w : World) (h : PR True w lo hi v ns) (h0 : 0 ≤ k) (h1 : k ≤ 1099511627776) (hn : ns.length ≤ 1048577) (hl : ∀ i, i < ns.length → ((ns.getD i nd0).fs.length : Int) ≤ 1048576 ∧ ((ns.getD i nd0).row.length : Int) ≤ 1048576) :
    Calls Try.prog 23 #[v, .int .i64 k] w fun e w' => e = .returned (.int .i64 (k + sumN ns)) ∧ PR True w' lo hi v (marksN k ns) ∧ Mod lo hi w w' := by
  obtain ⟨a, c, rfl, h2, h3⟩ := h.shape
  unfold maxLen at h3
  obtain ⟨R, hR⟩ : ∃ R, R = marksN k ns := ⟨_, rfl⟩
  rw [← hR]
  have hsum := sumN_le 1048576 hl
  have HR := hid hR
  have HL := hid hl
  have HSUM := hid hsum
  have H := hid h
  clear hR hl hsum h
  go_enter Try.func23, Try.ntmps23
  go_wp2_with fail
  go_loopw [1, 5] (fun q i wr => ∃ j : Nat, j ≤ ns.length ∧ i = .int .i64 j ∧ q = .int .i64 (k + sumN (ns.take j)) ∧ PR True wr lo hi (.slice a ns.length c) (markedN k ns j) ∧ Mod lo hi w wr) (fun _ i _ => ns.length - (intOf i).toNat)
  case atStart => exact ⟨0, Nat.zero_le _, rfl, by simp [sumN], by rw [markedN_zero]; exact H.out, Mod.refl _ _ _⟩
  case round =>
    clear H
    obtain ⟨j, hj, rfl, rfl, ho, hm⟩ := hrel
    have hb1 := HSUM.out j hj
    have hb0 := sumN_nonneg (ns.take j)
    obtain ⟨S, hS⟩ : ∃ S, S = sumN (ns.take j) := ⟨_, rfl⟩
    rw [← hS] at hb0 hb1 ⊢
    by_cases hlt : j < ns.length
    · have hml := markedN_length k ns hj
      obtain ⟨g, c', e', hg1, hg2, -, -⟩ := ho.at (i := j) (by rw [hml]; exact hlt)
      simp only [Value.slice.injEq] at e'
      obtain ⟨rfl, -, rfl⟩ := e'
      have hget := markedN_get k hlt
      obtain ⟨hl1, hl2⟩ := HL.out j hlt
      have hst := sumN_take hlt
      have hms := markedN_set k hlt rfl
      obtain ⟨n, hnd⟩ : ∃ n, n = ns.getD j nd0 := ⟨_, rfl⟩
      rw [← hnd] at hget hl1 hl2 hst
      rw [← hnd] at hms
      obtain ⟨kd, fs, row⟩ := n
      simp only at hl1 hl2 hst hms
      obtain ⟨cur, hcur⟩ : ∃ cur, cur = markedN k ns j := ⟨_, rfl⟩
      rw [← hcur] at ho hml hget
      rw [← hcur] at hms
      obtain ⟨f9, r9, c0, -, -, -, -⟩ := ho.cells (i := j) (by omega)
      have z0 := ho.frozen (j * 3)
      have o1 := ho.kind (i := j) (by omega) (k + S)
      rw [hget] at o1 c0
      simp only at o1 c0
      have hbS : k + S ≤ 4611686018427387904 := by omega
      rw [← hS] at hst hms
      have HMS := hid hms
      have HST := hid hst
      have HGET := hid hget
      have HML := hid hml
      have hmA : Mod lo hi wr (wr.setCell ⟨g, j * 3, none⟩ (.int .i64 (k + S))) := Mod.setCell hg1 hg2 _
      have hl1' : (cur.set j ⟨k + S, fs, row⟩).length = ns.length := by rw [List.length_set]; exact hml
      have hg1' : (cur.set j ⟨k + S, fs, row⟩).getD j nd0 = ⟨k + S, fs, row⟩ := by simp [hml, hlt]
      obtain ⟨f, cf, hf, kf⟩ := o1.openF (i := j) (by omega)
      rw [hg1'] at hf kf
      simp only at hf kf
      replace cf := (World.cell?_setCell_other (w := wr) (a := ⟨g, j * 3, none⟩) (b := ⟨g, j * 3 + 1, none⟩) (v := .int .i64 (k + S)) (by simp)).symm.trans cf
      have O1 := hid o1
      have KF := hid kf
      have HCUR := hid hcur
      have HND := hid hnd
      have HSS := hid hS
      clear hcur hnd hS hget hml hst hms o1 kf ho hl1' hg1'
      go_wp2_with fail
      refine (markInt_any f fs _ lo _ hf.1 (by omega) (by omega) (by omega)).mono ?_
      rintro e w2 ⟨rfl, hf2, hgr2⟩
      have o2 := KF.out w2 _ hf2 hgr2
      rw [List.set_set] at o2
      have hl2' : (cur.set j ⟨k + S, marks (k + S + 1) fs.length, row⟩).length = ns.length := by rw [List.length_set]; exact HML.out
      have hg2' : (cur.set j ⟨k + S, marks (k + S + 1) fs.length, row⟩).getD j nd0 = ⟨k + S, marks (k + S + 1) fs.length, row⟩ := by simp [HML.out, hlt]
      obtain ⟨r, cr, hr, kr⟩ := o2.openR (i := j) (by omega)
      rw [hg2'] at hr kr
      simp only at hr kr
      have hm2 : Mod lo hi (wr.setCell ⟨g, j * 3, none⟩ (.int .i64 (k + S))) w2 := hf.of_grown hgr2
      have KR := hid kr
      clear hf2 hgr2 o2 kr hl2' hg2' cf hf
      go_wp2_with fail
      refine (markInt_any r row _ lo _ hr.1 (by omega) (by omega) (by omega)).mono ?_
      rintro e w3 ⟨rfl, hr3, hgr3⟩
      have o3 := KR.out w3 _ hr3 hgr3
      rw [List.set_set] at o3
      have hm3 : Mod lo hi w2 w3 := hr.of_grown hgr3
      have O3 := hid o3
      clear hr3 hgr3 o3 cr hr
      go_wp2_with fail
      go_roundw
      case rel => exact ⟨j + 1, by omega, by go_num, by rw [HST.out]; congr 1; omega, by rw [← HMS.out]; exact O3.out, hm.trans (hmA.trans (hm2.trans hm3))⟩
      case measure => simp [intOf]; omega
    · obtain rfl : j = ns.length := by omega
      rw [markedN_all] at ho
      rw [List.take_length] at hS
      have HSS := hid hS
      clear hS
      go_wp2_with fail
      go_ret
      exact ⟨by rw [HSS.out]; rfl, by rw [HR.out]; exact ho, hm⟩
theorem marksN_get : ∀ (k : Int) (ns : List Nd) (j : Nat), j < ns.length → (marksN k ns).getD j nd0 = ⟨k + sumN (ns.take j), marks (k + sumN (ns.take j) + 1) (ns.getD j nd0).fs.length, marks (k + sumN (ns.take j) + 1 + (ns.getD j nd0).fs.length) (ns.getD j nd0).row.length⟩
  | _, [], j, h => by simp at h
  | k, n :: ns, 0, _ => by simp [marksN, sumN]
  | k, n :: ns, j + 1, h => by
    have ih := marksN_get (k + 1 + n.fs.length + n.row.length) ns j (by simpa using h)
    simp only [marksN, List.getD_cons_succ, List.take_succ_cons, sumN]
    rw [ih]
    have e : k + 1 + (n.fs.length : Int) + n.row.length + sumN (ns.take j) = k + (1 + (n.fs.length : Int) + n.row.length + sumN (ns.take j)) := by omega
    rw [e]
set_option maxHeartbeats 2000000 in
theorem heldNodes_any (v : Value) (ns : List Nd) (k : Int) (hi : Nat) (w : World) (h : PL w hi v (marksN k ns)) (h0 : 0 ≤ k) (h1 : k ≤ 1099511627776) (hn : ns.length ≤ 1048577) (hl : ∀ i, i < ns.length → ((ns.getD i nd0).fs.length : Int) ≤ 1048576 ∧ ((ns.getD i nd0).row.length : Int) ≤ 1048576) :
    Calls Try.prog 41 #[v, .int .i64 k] w fun e w' => e = .returned (.int .i64 (k + sumN ns)) ∧ w = w' := by
  obtain ⟨a, c, rfl, h2, h3, hs, h4⟩ := h
  rw [marksN_length] at h2 h4 ⊢
  unfold maxLen at h3
  have hsum := sumN_le 1048576 hl
  have HL := hid hl
  have HSUM := hid hsum
  have H4 := hid h4
  clear hl hsum h4
  go_enter Try.func41, Try.ntmps41
  go_wp2_with fail
  go_loop [1, 5] (fun q i => ∃ j : Nat, j ≤ ns.length ∧ i = .int .i64 j ∧ q = .int .i64 (k + sumN (ns.take j))) (fun _ i => ns.length - (intOf i).toNat)
  case atStart => exact ⟨0, Nat.zero_le _, rfl, by simp [sumN]⟩
  case round =>
    obtain ⟨j, hj, rfl, rfl⟩ := hrel
    have hb1 := HSUM.out j hj
    have hb0 := sumN_nonneg (ns.take j)
    obtain ⟨S, hS⟩ : ∃ S, S = sumN (ns.take j) := ⟨_, rfl⟩
    rw [← hS] at hb0 hb1 ⊢
    by_cases hlt : j < ns.length
    · obtain ⟨b, o, f, r, rfl, hb, c0, c1, c2, hf, hr⟩ := H4.out j hlt
      obtain ⟨hl1, hl2⟩ := HL.out j hlt
      have hst := sumN_take hlt
      rw [marksN_get k ns j hlt, ← hS] at c0 hf hr
      obtain ⟨n, hnd⟩ : ∃ n, n = ns.getD j nd0 := ⟨_, rfl⟩
      rw [← hnd] at hl1 hl2 hst c0 hf hr
      obtain ⟨kd, fs, row⟩ := n
      simp only at hl1 hl2 hst c0 hf hr
      rw [← hS] at hst
      have HST := hid hst
      obtain ⟨af, cf, rfl, -⟩ := id hf
      obtain ⟨ar, cr, rfl, -⟩ := id hr
      have hne : (k + S != k + S) = false := by simp
      have n1 : ¬ (k + S + 1 + (fs.length : Int) < 0) := by omega
      have n2 : ¬ (k + S + 1 + (fs.length : Int) + (row.length : Int) < 0) := by omega
      have HSS := hid hS
      clear hst hnd hS
      go_wp2_with fail
      refine (heldInt_any _ (k + S + 1) fs.length _ hf.rl (by omega) (by omega) (by omega)).mono ?_
      rintro e _ ⟨rfl, rfl⟩
      go_wp2_with fail
      refine (heldInt_any _ (k + S + 1 + fs.length) row.length _ hr.rl (by omega) (by omega) (by omega)).mono ?_
      rintro e _ ⟨rfl, rfl⟩
      go_wp2_with fail
      go_round
      case rel => exact ⟨j + 1, by omega, by go_num, by rw [HST.out]; congr 1; omega⟩
      case measure => simp [intOf]; omega
    · obtain rfl : j = ns.length := by omega
      rw [List.take_length] at hS
      have HSS := hid hS
      clear hS
      go_wp2_with fail
      go_ret
      exact ⟨by rw [HSS.out]; rfl, rfl⟩
theorem markNode_r (kd : Int) (vf vr : Value) (fs row : List Int) (k : Int) (lo hi : Nat) (w : World) (hf : OR w lo hi vf fs) (hr : OR w lo hi vr row) (hne : ∀ b, vf.ownBlock = some b → vr.ownBlock ≠ some b) (h0 : 0 ≤ k) (h1 : k ≤ 4398046511104) (hl1 : fs.length ≤ 1048576) (hl2 : row.length ≤ 1048576) :
    Calls Try.prog 40 #[.agg #[.int .i64 kd, vf, vr], .int .i64 k] w fun e w' => e = .returned (.int .i64 (k + fs.length + row.length)) ∧ Mod lo hi w w' := by
  obtain ⟨af, cf, rfl, -⟩ := id hf.rl
  obtain ⟨ar, cr, rfl, -⟩ := id hr.rl
  have mA := Mod.alloc w (.cells #[.int .i64 kd, .slice af fs.length cf, .slice ar row.length cr] 48)
  have hX : (w.alloc (.cells #[.int .i64 kd, .slice af fs.length cf, .slice ar row.length cr] 48)).heap[w.heap.size]? = some (.cells #[.int .i64 kd, .slice af fs.length cf, .slice ar row.length cr] 48 (0, 0)) := heap_alloc_new w _
  have hf1 := hf.mod mA (.inr (Nat.zero_le _))
  have hr1 := hr.mod mA (.inr (Nat.zero_le _))
  have hs := hf.2.1
  have HX := hid hX
  clear hX
  go_enter Try.func40, Try.ntmps40
  go_wp2_with fail
  refine (markInt_any _ fs k lo _ hf1.1 h0 (by omega) hl1).mono ?_
  rintro e w2 ⟨rfl, -, hg2⟩
  have hm2 := hf1.of_grown hg2
  have hr2 := hr1.1.kept hg2 (fun b hb e => hne b e hb)
  have x2 : w2.cell? ⟨w.heap.size, 2, none⟩ = some (.slice ar row.length cr) := by
    rw [cell_of_row w2 w.heap.size 2 _ _ _ ((hm2.block w.heap.size (by simp) (.inr hs)).trans HX.out)]; rfl
  go_wp2_with fail
  refine (markInt_any _ row (k + fs.length) lo _ hr2 (by omega) (by omega) hl2).mono ?_
  rintro e w3 ⟨rfl, -, hg3⟩
  go_wp2_with fail
  go_ret
  refine ⟨rfl, mA.zero.trans (hm2.trans (Mod.of_grown hg3 fun b hb => ⟨(hr2.lt b hb).1, hr.2.2 b hb⟩))⟩
end Go.Proofs.Yteelobokjidphaa
