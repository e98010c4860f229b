/- The contract of the drawing of a plan and a node. No condition. -/
import Derived.Test.YteelobokjidphaaDrawValues
namespace Go.Proofs.Yteelobokjidphaa
open Go.RowKit
set_option maxRecDepth 100000

theorem cell_other3 {w : World} {g i j k b o : Nat} (A B C : Value) (h : ¬ b = g) : (((w.setCell ⟨g, i, none⟩ A).setCell ⟨g, j, none⟩ B).setCell ⟨g, k, none⟩ C).cell? ⟨b, o, none⟩ = w.cell? ⟨b, o, none⟩ :=
  World.cell?_of_block (a := ⟨b, o, none⟩) ((Below.heap_setCell _ _ _ _ (by exact h)).trans ((Below.heap_setCell _ _ _ _ (by exact h)).trans (Below.heap_setCell _ _ _ _ (by exact h))))
theorem BL.mod0 {w w' : World} {v : Value} {xs : List Int} (h : BL w v xs) (hm : Mod 0 0 w w') : BL w' v xs := by
  obtain ⟨a, c, rfl, h1, h2, h3⟩ := h
  refine ⟨a, c, rfl, h1, h2, fun i hi => ?_⟩
  obtain ⟨b, o, e, hb, hc, hx⟩ := h3 i hi
  exact ⟨b, o, e, Nat.lt_of_lt_of_le hb hm.size, (World.cell?_of_block (a := ⟨b, o + i, none⟩) (hm.block b hb (.inr (Nat.zero_le _)))).trans hc, hx⟩

set_option maxHeartbeats 1000000 in
theorem drawAdd_any (v : Value) (xs : List Int) (w : World) (h : BL w v xs) : Calls Try.prog 42 #[v] w (PlanNodeGot w) := by
  obtain ⟨a, c, rfl, -⟩ := id h
  have mA := Mod.alloc w (.cells #[.int .i64 0, .slice none 0 0, .slice none 0 0] 48)
  obtain ⟨X, hX⟩ : ∃ X, X = w.alloc (.cells #[.int .i64 0, .slice none 0 0, .slice none 0 0] 48) := ⟨_, rfl⟩
  rw [← hX] at mA
  have lX : X.heap.size = w.heap.size + 1 := by rw [hX, World.size_alloc]
  have yX : X.heap[w.heap.size]? = some (.cells #[.int .i64 0, .slice none 0 0, .slice none 0 0] 48 (0, 0)) := by rw [hX]; exact heap_alloc_new w _
  have HX := hid hX
  have hXb := h.mod0 mA
  clear hX h
  go_enter Try.func42, Try.ntmps42
  go_wp2_with fail
  rw [← HX.out]
  refine (l6Open_any _ _ _ hXb).mono ?_
  rintro e w1 ⟨rfl, hrd, hb⟩
  have hs1 := hb.size
  have hlt1 := hrd.lt
  have yw1 := (hb.block _ (by omega)).trans yX
  have hbw := mA.below0 (Below.refl w.heap.size w) (Nat.le_refl _)
  replace hbw := hbw.trans (hb.mono (by omega))
  obtain ⟨r, hr⟩ : ∃ r, r = X.heap.size := ⟨_, rfl⟩
  rw [← hr] at hrd lX hlt1 ⊢
  have lr1 : w.heap.size < r := by omega
  have lr2 : r ≤ w.heap.size + 1 := by omega
  rw [← hr] at hs1
  clear hXb yX mA hb hr lX
  go_wp2_with fail
  refine (l91Plan_any _ _ _ _ hrd (by omega)).mono ?_
  rintro e w2 ⟨vo, ns, rfl, hp, hsh, hrd2, hm2⟩
  obtain ⟨wd, hwd⟩ := Int.eq_ofNat_of_zero_le (wideF_nonneg ns)
  have hw4 := wideF_short hsh.2
  have hl11 := hsh.1
  have HSH := hid hsh
  have HWD := hid hwd
  have hs2 := hm2.size
  have hwd4 : wd ≤ 4 := by omega
  obtain ⟨ap, cp, rfl, -⟩ := hp.shape
  have yw2 := (hm2.block _ (by omega) (by omega)).trans yw1
  replace hbw := hm2.below hbw (by omega) hbw.size
  have hpl := hp.pl
  clear hsh hrd hwd hw4 yw1 hm2
  go_wp2_with fail
  refine (swide_any _ ns _ w2 hpl).mono ?_
  rintro e _ ⟨rfl, rfl⟩
  rw [HWD.out]
  go_wp2_with fail
  refine (l91Node_any _ _ _ ns.length wd _ hrd2 (by omega) (by omega) (by omega)).mono ?_
  rintro e w5 ⟨kd, fs, row, vf, vr, rfl, hvf, hvr, hfl, hrl, hrd5, hm5⟩
  obtain ⟨af, cf, rfl, -⟩ := id hvf.rl
  obtain ⟨ar, cr, rfl, -⟩ := id hvr.rl
  have hs5 := hm5.size
  have yw5 := (hm5.block _ (by omega) (by omega)).trans yw2
  replace hbw := hm5.below hbw (by omega) hbw.size
  have hp5 := hp.mod hm5 (.inr (by omega))
  have mB := Mod.alloc w5 (.cells #[.int .i64 kd, .slice af fs.length cf, .slice ar row.length cr] 48)
  obtain ⟨Y, hY⟩ : ∃ Y, Y = w5.alloc (.cells #[.int .i64 kd, .slice af fs.length cf, .slice ar row.length cr] 48) := ⟨_, rfl⟩
  rw [← hY] at mB
  have lY : Y.heap.size = w5.heap.size + 1 := by rw [hY, World.size_alloc]
  have xY : Y.heap[w5.heap.size]? = some (.cells #[.int .i64 kd, .slice af fs.length cf, .slice ar row.length cr] 48 (0, 0)) := by rw [hY]; exact heap_alloc_new w5 _
  have yY := (mB.block _ (by omega) (.inr (Nat.zero_le _))).trans yw5
  have hrdY := hrd5.mod mB (.inr rfl)
  have hpY := hp5.mod mB (.inr (Nat.zero_le _))
  have hfY := hvf.r.mod mB (.inr (Nat.zero_le _))
  have hrY := hvr.r.mod mB (.inr (Nat.zero_le _))
  have hbY := mB.below0 hbw hbw.size
  have lY1 : w5.heap.size < Y.heap.size := by omega
  have HY := hid hY
  clear lY hY mB hp hp5 hpl hvf hvr hrd2 hrd5 hm5 hbw yw5 yw2
  go_wp2_with fail
  rw [← HY.out]
  refine (pick_any _ _ _ 12 _ hrdY (by omega) (by omega)).mono ?_
  rintro e w6 ⟨q6, rfl, -, -, -, hrd6, hm6⟩
  have hs6 := hm6.size
  have y6 := (hm6.block _ (by omega) (by omega)).trans yY
  have x6 := (hm6.block _ (by omega) (by omega)).trans xY
  have hp6 := hpY.mod hm6 (.inr (by omega))
  have hf6 := hfY.mod hm6 (.inr (by omega))
  have hr6 := hrY.mod hm6 (.inr (by omega))
  have hb6 := hm6.below hbY (by omega) hbY.size
  clear hrdY hm6 yY xY hpY hfY hrY hbY
  by_cases h6 : q6 = 0
  · subst h6
    go_wp2_with fail
    refine (pick_any _ _ _ 7 _ hrd6 (by omega) (by omega)).mono ?_
    rintro e w7 ⟨q7, rfl, -, -, -, -, hm7⟩
    have hs7 := hm7.size
    have y7 := (hm7.block _ (by omega) (by omega)).trans y6
    have x7 := (hm7.block _ (by omega) (by omega)).trans x6
    have mS : Mod w5.heap.size (w5.heap.size + 1) w7 (w7.setCell ⟨w5.heap.size, 0, none⟩ (.int .i64 q7)) := Mod.setCell (a := ⟨w5.heap.size, 0, none⟩) (Nat.le_refl _) (Nat.lt_succ_self _) _
    have xS : (w7.setCell ⟨w5.heap.size, 0, none⟩ (.int .i64 q7)).heap[w5.heap.size]? = some (.cells #[.int .i64 q7, .slice af fs.length cf, .slice ar row.length cr] 48 (0, 0)) := setCell_heap _ _ _ _ x7
    have yS := (mS.block w.heap.size (by omega) (by omega)).trans y7
    have c7 : w7.cell? ⟨w5.heap.size, 0, none⟩ = some (.int .i64 kd) := by rw [cell_of_row _ w5.heap.size 0 _ _ _ x7]; rfl
    have g7 : w7.frozen? ⟨w5.heap.size, 0, none⟩ = false := by unfold World.frozen?; simp [x7]
    have hpS := (hp6.mod hm7 (.inr (by omega))).mod mS (.inl (by omega))
    have hfS := (hf6.mod hm7 (.inr (by omega))).mod mS (.inl (Nat.le_refl _))
    have hrS := (hr6.mod hm7 (.inr (by omega))).mod mS (.inl (Nat.le_refl _))
    have hb7 := hm7.below hb6 (by omega) hb6.size
    have hbS := mS.below hb7 (by omega) hb7.size
    obtain ⟨Z, hZ⟩ : ∃ Z, Z = w7.setCell ⟨w5.heap.size, 0, none⟩ (.int .i64 q7) := ⟨_, rfl⟩
    rw [← hZ] at xS yS hpS hfS hrS hbS mS
    have xZ := xS
    have yZ := yS
    have hpZ := hpS
    have hfZ := hfS
    have hrZ := hrS
    have hbZ := hbS
    have hsZ := mS.size
    have HZ := hid hZ
    clear xS yS hpS hfS hrS hbS mS hZ hp6 hf6 hr6 hb6 hb7 hm7 y6 x6 y7 x7 hrd6
    have nb : ¬ w5.heap.size = w.heap.size := by omega
    have y0 : Z.cell? ⟨w.heap.size, 0, none⟩ = some (.int .i64 0) := by rw [cell_of_row _ w.heap.size 0 _ _ _ yZ]; rfl
    have y1 : Z.cell? ⟨w.heap.size, 1, none⟩ = some (.slice none 0 0) := by rw [cell_of_row _ w.heap.size 1 _ _ _ yZ]; rfl
    have y2 : Z.cell? ⟨w.heap.size, 2, none⟩ = some (.slice none 0 0) := by rw [cell_of_row _ w.heap.size 2 _ _ _ yZ]; rfl
    have f0 : Z.frozen? ⟨w.heap.size, 0, none⟩ = false := by unfold World.frozen?; simp [yZ]
    have f1 : Z.frozen? ⟨w.heap.size, 1, none⟩ = false := by unfold World.frozen?; simp [yZ]
    have f2 : Z.frozen? ⟨w.heap.size, 2, none⟩ = false := by unfold World.frozen?; simp [yZ]
    have x0 : Z.cell? ⟨w5.heap.size, 0, none⟩ = some (.int .i64 q7) := by rw [cell_of_row _ w5.heap.size 0 _ _ _ xZ]; rfl
    have x1 : Z.cell? ⟨w5.heap.size, 1, none⟩ = some (.slice af fs.length cf) := by rw [cell_of_row _ w5.heap.size 1 _ _ _ xZ]; rfl
    have x2 : Z.cell? ⟨w5.heap.size, 2, none⟩ = some (.slice ar row.length cr) := by rw [cell_of_row _ w5.heap.size 2 _ _ _ xZ]; rfl
    have k0 : ∀ A B C, (((Z.setCell ⟨w.heap.size, 0, none⟩ A).setCell ⟨w.heap.size, 1, none⟩ B).setCell ⟨w.heap.size, 2, none⟩ C).drew.cell? ⟨w5.heap.size, 0, none⟩ = some (.int .i64 q7) := fun A B C => (cell_other3 (w := Z) A B C nb).trans x0
    have k1 : ∀ A B C, (((Z.setCell ⟨w.heap.size, 0, none⟩ A).setCell ⟨w.heap.size, 1, none⟩ B).setCell ⟨w.heap.size, 2, none⟩ C).drew.cell? ⟨w5.heap.size, 1, none⟩ = some (.slice af fs.length cf) := fun A B C => (cell_other3 (w := Z) A B C nb).trans x1
    have k2 : ∀ A B C, (((Z.setCell ⟨w.heap.size, 0, none⟩ A).setCell ⟨w.heap.size, 1, none⟩ B).setCell ⟨w.heap.size, 2, none⟩ C).drew.cell? ⟨w5.heap.size, 2, none⟩ = some (.slice ar row.length cr) := fun A B C => (cell_other3 (w := Z) A B C nb).trans x2
    have mZ : ∀ A B C, Mod w.heap.size (w.heap.size + 1) Z (((Z.setCell ⟨w.heap.size, 0, none⟩ A).setCell ⟨w.heap.size, 1, none⟩ B).setCell ⟨w.heap.size, 2, none⟩ C).drew := fun A B C =>
      (((Mod.setCell (a := ⟨w.heap.size, 0, none⟩) (Nat.le_refl _) (Nat.lt_succ_self _) A).trans (Mod.setCell (a := ⟨w.heap.size, 1, none⟩) (Nat.le_refl _) (Nat.lt_succ_self _) B)).trans (Mod.setCell (a := ⟨w.heap.size, 2, none⟩) (Nat.le_refl _) (Nat.lt_succ_self _) C)).trans (Mod.drewN _ 1).zero
    have MZ := hid mZ
    have HPZ := hid hpZ
    have HFZ := hid hfZ
    have HRZ := hid hrZ
    have HBZ := hid hbZ
    clear xZ yZ mZ hpZ hfZ hrZ hbZ
    go_wp2_with fail
    rw [← HZ.out]
    go_region_held3 (fun w' => w'.cell? ⟨w5.heap.size, 0, none⟩ = some (.int .i64 q7) ∧ w'.cell? ⟨w5.heap.size, 1, none⟩ = some (.slice af fs.length cf) ∧ w'.cell? ⟨w5.heap.size, 2, none⟩ = some (.slice ar row.length cr))
      (first | go_keep | exact ⟨k0 _ _ _, k1 _ _ _, k2 _ _ _⟩)
      (fail)
    go_wp2_with fail
    refine bodyPost_ret (v := .tuple #[.slice ap ns.length cp, .agg #[.int .i64 q7, .slice af fs.length cf, .slice ar row.length cr]]) ?_ rfl ?_
    · simp [results, Try.results42, go_sem, y0, y1, y2]
    have mz := MZ.out (.int .i64 q7) (.slice af fs.length cf) (.slice ar row.length cr)
    have hz := mz.size
    have hps := HPZ.out.size
    exact ⟨_, ns, _, _, _, fs, row, rfl, (((HPZ.out.mod mz (.inr (by omega))).up (by omega) (Nat.le_refl _)).base (by omega)), HSH.out, (HFZ.out.mod mz (by omega)).rl, (HRZ.out.mod mz (by omega)).rl, hfl, by omega, mz.below HBZ.out (Nat.le_refl _) HBZ.out.size⟩
  · have hz6 : (q6 == 0) = false := by simpa using h6
    have hpZ := hp6
    have hfZ := hf6
    have hrZ := hr6
    have hbZ := hb6
    have xZ := x6
    have yZ := y6
    have HZ : Hid (w6 = w6) := hid rfl
    clear h6 hp6 hf6 hr6 hb6 hrd6 x6 y6
    have nb : ¬ w5.heap.size = w.heap.size := by omega
    have y0 : w6.cell? ⟨w.heap.size, 0, none⟩ = some (.int .i64 0) := by rw [cell_of_row _ w.heap.size 0 _ _ _ yZ]; rfl
    have y1 : w6.cell? ⟨w.heap.size, 1, none⟩ = some (.slice none 0 0) := by rw [cell_of_row _ w.heap.size 1 _ _ _ yZ]; rfl
    have y2 : w6.cell? ⟨w.heap.size, 2, none⟩ = some (.slice none 0 0) := by rw [cell_of_row _ w.heap.size 2 _ _ _ yZ]; rfl
    have f0 : w6.frozen? ⟨w.heap.size, 0, none⟩ = false := by unfold World.frozen?; simp [yZ]
    have f1 : w6.frozen? ⟨w.heap.size, 1, none⟩ = false := by unfold World.frozen?; simp [yZ]
    have f2 : w6.frozen? ⟨w.heap.size, 2, none⟩ = false := by unfold World.frozen?; simp [yZ]
    have x0 : w6.cell? ⟨w5.heap.size, 0, none⟩ = some (.int .i64 kd) := by rw [cell_of_row _ w5.heap.size 0 _ _ _ xZ]; rfl
    have x1 : w6.cell? ⟨w5.heap.size, 1, none⟩ = some (.slice af fs.length cf) := by rw [cell_of_row _ w5.heap.size 1 _ _ _ xZ]; rfl
    have x2 : w6.cell? ⟨w5.heap.size, 2, none⟩ = some (.slice ar row.length cr) := by rw [cell_of_row _ w5.heap.size 2 _ _ _ xZ]; rfl
    have k0 : ∀ A B C, (((w6.setCell ⟨w.heap.size, 0, none⟩ A).setCell ⟨w.heap.size, 1, none⟩ B).setCell ⟨w.heap.size, 2, none⟩ C).drew.cell? ⟨w5.heap.size, 0, none⟩ = some (.int .i64 kd) := fun A B C => (cell_other3 (w := w6) A B C nb).trans x0
    have k1 : ∀ A B C, (((w6.setCell ⟨w.heap.size, 0, none⟩ A).setCell ⟨w.heap.size, 1, none⟩ B).setCell ⟨w.heap.size, 2, none⟩ C).drew.cell? ⟨w5.heap.size, 1, none⟩ = some (.slice af fs.length cf) := fun A B C => (cell_other3 (w := w6) A B C nb).trans x1
    have k2 : ∀ A B C, (((w6.setCell ⟨w.heap.size, 0, none⟩ A).setCell ⟨w.heap.size, 1, none⟩ B).setCell ⟨w.heap.size, 2, none⟩ C).drew.cell? ⟨w5.heap.size, 2, none⟩ = some (.slice ar row.length cr) := fun A B C => (cell_other3 (w := w6) A B C nb).trans x2
    have mZ : ∀ A B C, Mod w.heap.size (w.heap.size + 1) w6 (((w6.setCell ⟨w.heap.size, 0, none⟩ A).setCell ⟨w.heap.size, 1, none⟩ B).setCell ⟨w.heap.size, 2, none⟩ C).drew := fun A B C =>
      (((Mod.setCell (a := ⟨w.heap.size, 0, none⟩) (Nat.le_refl _) (Nat.lt_succ_self _) A).trans (Mod.setCell (a := ⟨w.heap.size, 1, none⟩) (Nat.le_refl _) (Nat.lt_succ_self _) B)).trans (Mod.setCell (a := ⟨w.heap.size, 2, none⟩) (Nat.le_refl _) (Nat.lt_succ_self _) C)).trans (Mod.drewN _ 1).zero
    have MZ := hid mZ
    have HPZ := hid hpZ
    have HFZ := hid hfZ
    have HRZ := hid hrZ
    have HBZ := hid hbZ
    clear xZ yZ mZ hpZ hfZ hrZ hbZ
    go_wp2_with fail
    go_region_held3 (fun w' => w'.cell? ⟨w5.heap.size, 0, none⟩ = some (.int .i64 kd) ∧ w'.cell? ⟨w5.heap.size, 1, none⟩ = some (.slice af fs.length cf) ∧ w'.cell? ⟨w5.heap.size, 2, none⟩ = some (.slice ar row.length cr))
      (first | go_keep | exact ⟨k0 _ _ _, k1 _ _ _, k2 _ _ _⟩)
      (fail)
    go_wp2_with fail
    refine bodyPost_ret (v := .tuple #[.slice ap ns.length cp, .agg #[.int .i64 kd, .slice af fs.length cf, .slice ar row.length cr]]) ?_ rfl ?_
    · simp [results, Try.results42, go_sem, y0, y1, y2]
    have mz := MZ.out (.int .i64 kd) (.slice af fs.length cf) (.slice ar row.length cr)
    have hz := mz.size
    have hps := HPZ.out.size
    exact ⟨_, ns, _, _, _, fs, row, rfl, (((HPZ.out.mod mz (.inr (by omega))).up (by omega) (Nat.le_refl _)).base (by omega)), HSH.out, (HFZ.out.mod mz (by omega)).rl, (HRZ.out.mod mz (by omega)).rl, hfl, by omega, mz.below HBZ.out (Nat.le_refl _) HBZ.out.size⟩
end Go.Proofs.Yteelobokjidphaa
