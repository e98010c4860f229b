/- The contracts of the statements' own helpers over nodes and plans: copy, compare. No condition. -/
import Derived.Test.YteelobokjidphaaLawNode
namespace Go.Proofs.Yteelobokjidphaa
open Go.RowKit
set_option maxRecDepth 100000

theorem setCell_heap' (w : World) (b i : Nat) (u : Value) {cs : Array Value} {t : TypeId} {fr : Nat × Nat} (h : w.heap[b]? = some (.cells cs t fr)) : (w.setCell ⟨b, i, none⟩ u).heap[b]? = some (.cells (cs.setIfInBounds i u) t fr) := by
  simp [World.setCell, Array.getElem?_modify, h]
/-- A node in new memory: its two rows lie apart. -/
def NodeNew (w : World) (kd : Int) (fs row : List Int) (e : Ending) (w' : World) : Prop :=
  ∃ vf vr M, e = .returned (.agg #[.int .i64 kd, vf, vr]) ∧ OI w' w.heap.size vf fs ∧ (∀ b, vf.ownBlock = some b → b < M) ∧ OI w' M vr row ∧ w.heap.size ≤ M ∧ Below w.heap.size w w'

set_option maxHeartbeats 1000000 in
theorem toNode_any (kd : Int) (vf vr : Value) (fs row : List Int) (w : World) (hf : RL w vf fs) (hr : RL w vr row) (hl1 : fs.length ≤ 1048576) (hl2 : row.length ≤ 1048576) :
    Calls Try.prog 37 #[.agg #[.int .i64 kd, vf, vr]] w (NodeNew w kd fs row) := by
  obtain ⟨af, cf, rfl, -⟩ := id hf
  obtain ⟨ar, cr, rfl, -⟩ := id hr
  obtain ⟨X, hX⟩ : ∃ X, X = ((w.alloc (.cells #[.int .i64 kd, .slice af fs.length cf, .slice ar row.length cr] 44)).alloc (.cells #[.int .i64 0, .slice none 0 0, .slice none 0 0] 48)).alloc (.cells #[.int .i64 kd, .slice none 0 0, .slice none 0 0] 48) := ⟨_, rfl⟩
  have hsz : X.heap.size = w.heap.size + 3 := by rw [hX]; simp [World.size_alloc]
  have x0 : X.heap[w.heap.size]? = some (.cells #[.int .i64 kd, .slice af fs.length cf, .slice ar row.length cr] 44 (0, 0)) := by
    rw [hX, heap_alloc_old _ _ (by simp [World.size_alloc]; omega), heap_alloc_old _ _ (by simp [World.size_alloc])]; exact heap_alloc_new w _
  have x1 : X.heap[w.heap.size + 1]? = some (.cells #[.int .i64 0, .slice none 0 0, .slice none 0 0] 48 (0, 0)) := by
    have := heap_alloc_new (w.alloc (.cells #[.int .i64 kd, .slice af fs.length cf, .slice ar row.length cr] 44)) (.cells #[.int .i64 0, .slice none 0 0, .slice none 0 0] 48)
    rw [World.size_alloc] at this
    rw [hX, heap_alloc_old _ _ (by simp [World.size_alloc])]; exact this
  have x2 : X.heap[w.heap.size + 2]? = some (.cells #[.int .i64 kd, .slice none 0 0, .slice none 0 0] 48 (0, 0)) := by
    have := heap_alloc_new ((w.alloc (.cells #[.int .i64 kd, .slice af fs.length cf, .slice ar row.length cr] 44)).alloc (.cells #[.int .i64 0, .slice none 0 0, .slice none 0 0] 48)) (.cells #[.int .i64 kd, .slice none 0 0, .slice none 0 0] 48)
    rw [World.size_alloc, World.size_alloc] at this
    rw [hX]; exact this
  have mX : Mod 0 0 w X := by rw [hX]; exact ((Mod.alloc _ _).trans (Mod.alloc _ _)).trans (Mod.alloc _ _)
  have hbX : Below w.heap.size w X := mX.below0 (Below.refl _ _) (Nat.le_refl _)
  have HX := hid hX
  clear hX
  have hfX := (hf.rr.mod mX (.inr (Nat.zero_le _)))
  have hrX := (hr.rr.mod mX (.inr (Nat.zero_le _)))
  go_enter Try.func37, Try.ntmps37
  go_wp2_with fail
  rw [← HX.out]
  refine (toInt_any _ fs X hfX.rl hl1).mono ?_
  rintro e w2 ⟨vf, rfl, hvf, hb2⟩
  have y0 := (hb2.block _ (by omega : w.heap.size < X.heap.size)).trans x0
  have y1 := (hb2.block _ (by omega : w.heap.size + 1 < X.heap.size)).trans x1
  have y2 := (hb2.block _ (by omega : w.heap.size + 2 < X.heap.size)).trans x2
  replace hrX := hrX.mod (Mod.of_below hb2) (.inr (Nat.zero_le _))
  obtain ⟨a2, c2, rfl, -⟩ := id hvf.rl
  have q1 : w2.cell? ⟨w.heap.size + 1 + 1, 1, none⟩ = some (.slice none 0 0) := by unfold World.cell?; simp [y2]
  have q2 : w2.frozen? ⟨w.heap.size + 1 + 1, 1, none⟩ = false := by unfold World.frozen?; simp [y2]
  have q3 : w2.cell? ⟨w.heap.size, 2, none⟩ = some (.slice ar row.length cr) := by unfold World.cell?; simp [y0]
  have m3 : Mod w.heap.size (w.heap.size + 3) w2 (w2.setCell ⟨w.heap.size + 1 + 1, 1, none⟩ (.slice a2 fs.length c2)) := Mod.setCell (by show w.heap.size ≤ w.heap.size + 1 + 1; omega) (by show w.heap.size + 1 + 1 < w.heap.size + 3; omega) _
  clear x0 x1 x2
  go_wp2_with fail
  obtain ⟨Y, hY⟩ : ∃ Y, Y = w2.setCell ⟨w.heap.size + 1 + 1, 1, none⟩ (.slice a2 fs.length c2) := ⟨_, rfl⟩
  have hYs : Y.heap.size = w2.heap.size := by rw [hY]; simp
  have n0 : Y.heap[w.heap.size]? = some (.cells #[.int .i64 kd, .slice af fs.length cf, .slice ar row.length cr] 44 (0, 0)) := by rw [hY]; exact (Below.heap_setCell _ _ _ _ (by show w.heap.size ≠ w.heap.size + 1 + 1; omega)).trans y0
  have n1 : Y.heap[w.heap.size + 1]? = some (.cells #[.int .i64 0, .slice none 0 0, .slice none 0 0] 48 (0, 0)) := by rw [hY]; exact (Below.heap_setCell _ _ _ _ (by show w.heap.size + 1 ≠ w.heap.size + 1 + 1; omega)).trans y1
  have n2 : Y.heap[w.heap.size + 2]? = some (.cells #[.int .i64 kd, .slice a2 fs.length c2, .slice none 0 0] 48 (0, 0)) := by rw [hY]; exact setCell_heap' _ _ _ _ y2
  rw [← hY] at m3 ⊢
  have HY := hid hY
  clear hY y0 y1 y2 q1 q2 q3
  have hs2 := hb2.size
  replace hrX := hrX.mod m3 (.inl (Nat.le_refl _))
  have hvl : ∀ b, Value.ownBlock (.slice a2 fs.length c2) = some b → b < Y.heap.size := fun b hb => by have := (hvf.lt b hb).2; omega
  replace hvf := hvf.mod m3 (by omega)
  refine (toInt_any _ row Y hrX.rl hl2).mono ?_
  rintro e w3 ⟨vr, rfl, hvr, hb3⟩
  replace n0 := (hb3.block _ (by omega : w.heap.size < Y.heap.size)).trans n0
  replace n1 := (hb3.block _ (by omega : w.heap.size + 1 < Y.heap.size)).trans n1
  replace n2 := (hb3.block _ (by omega : w.heap.size + 2 < Y.heap.size)).trans n2
  replace hvf := hvf.mod (Mod.of_below hb3) (Nat.zero_le _)
  obtain ⟨a3, c3, rfl, -⟩ := id hvr.rl
  have q1 : w3.cell? ⟨w.heap.size + 1 + 1, 2, none⟩ = some (.slice none 0 0) := by unfold World.cell?; simp [n2]
  have q2 : w3.frozen? ⟨w.heap.size + 1 + 1, 2, none⟩ = false := by unfold World.frozen?; simp [n2]
  have q3 : w3.cell? ⟨w.heap.size + 1 + 1, 0, none⟩ = some (.int .i64 kd) := by unfold World.cell?; simp [n2]
  have q4 : w3.cell? ⟨w.heap.size + 1 + 1, 1, none⟩ = some (.slice a2 fs.length c2) := by unfold World.cell?; simp [n2]
  have q5 : w3.cell? ⟨w.heap.size + 1, 0, none⟩ = some (.int .i64 0) := by unfold World.cell?; simp [n1]
  have q6 : w3.cell? ⟨w.heap.size + 1, 1, none⟩ = some (.slice none 0 0) := by unfold World.cell?; simp [n1]
  have q7 : w3.cell? ⟨w.heap.size + 1, 2, none⟩ = some (.slice none 0 0) := by unfold World.cell?; simp [n1]
  have q8 : w3.frozen? ⟨w.heap.size + 1, 0, none⟩ = false := by unfold World.frozen?; simp [n1]
  have q9 : w3.frozen? ⟨w.heap.size + 1, 1, none⟩ = false := by unfold World.frozen?; simp [n1]
  have q10 : w3.frozen? ⟨w.heap.size + 1, 2, none⟩ = false := by unfold World.frozen?; simp [n1]
  have hbY : Below w.heap.size w w3 := (m3.below (hbX.trans (hb2.mono (by omega))) (Nat.le_refl _) (by omega)).trans (hb3.mono (by omega))
  clear n0 n1 n2
  have mZ : Mod w.heap.size (w.heap.size + 3) w3 ((((w3.setCell ⟨w.heap.size + 1 + 1, 2, none⟩ (.slice a3 row.length c3)).setCell ⟨w.heap.size + 1, 0, none⟩ (.int .i64 kd)).setCell ⟨w.heap.size + 1, 1, none⟩ (.slice a2 fs.length c2)).setCell ⟨w.heap.size + 1, 2, none⟩ (.slice a3 row.length c3)) :=
    (((Mod.setCell (by show w.heap.size ≤ w.heap.size + 1 + 1; omega) (by show w.heap.size + 1 + 1 < w.heap.size + 3; omega) _).trans (Mod.setCell (by show w.heap.size ≤ w.heap.size + 1; omega) (by show w.heap.size + 1 < w.heap.size + 3; omega) _)).trans (Mod.setCell (by show w.heap.size ≤ w.heap.size + 1; omega) (by show w.heap.size + 1 < w.heap.size + 3; omega) _)).trans (Mod.setCell (by show w.heap.size ≤ w.heap.size + 1; omega) (by show w.heap.size + 1 < w.heap.size + 3; omega) _)
  go_wp2_with fail
  refine bodyPost_ret (v := .agg #[.int .i64 kd, .slice a2 fs.length c2, .slice a3 row.length c3]) ?_ rfl ?_
  · simp [results, Try.results37, go_sem, q5, q6, q7]
  exact ⟨_, _, Y.heap.size, rfl, (hvf.mod mZ (by omega)).base (by omega), hvl, hvr.mod mZ (by omega), by omega, mZ.below hbY (Nat.le_refl _) hbY.size⟩

set_option maxHeartbeats 1000000 in
theorem eqNode_any (kd : Int) (vf vr vf' vr' : Value) (fs row : List Int) (w : World) (hf : RL w vf fs) (hr : RL w vr row) (hf' : RL w vf' fs) (hr' : RL w vr' row) :
    Calls Try.prog 39 #[.agg #[.int .i64 kd, vf, vr], .agg #[.int .i64 kd, vf', vr']] w fun e w' => e = .returned (.bool true) ∧ Mod 0 0 w w' := by
  have m0 := (Mod.alloc w (.cells #[.int .i64 kd, vf, vr] 48)).trans (Mod.alloc _ (.cells #[.int .i64 kd, vf', vr'] 48))
  have hf1 := hf.rr.mod m0 (.inr (Nat.zero_le _))
  have hr1 := hr.rr.mod m0 (.inr (Nat.zero_le _))
  have hf2 := hf'.rr.mod m0 (.inr (Nat.zero_le _))
  have hr2 := hr'.rr.mod m0 (.inr (Nat.zero_le _))
  obtain ⟨af, cf, rfl, -⟩ := id hf
  obtain ⟨ar, cr, rfl, -⟩ := id hr
  obtain ⟨af', cf', rfl, -⟩ := id hf'
  obtain ⟨ar', cr', rfl, -⟩ := id hr'
  go_enter Try.func39, Try.ntmps39
  go_wp2_with fail
  refine (eqInt_m _ _ fs fs _ hf1.rl hf2.rl).mono ?_
  rintro e w5 ⟨rfl, hm5⟩
  rw [sameB_self]
  have hX : ((w.alloc (.cells #[.int .i64 kd, .slice af fs.length cf, .slice ar row.length cr] 48)).alloc (.cells #[.int .i64 kd, .slice af' fs.length cf', .slice ar' row.length cr'] 48)).heap[w.heap.size]? = some (.cells #[.int .i64 kd, .slice af fs.length cf, .slice ar row.length cr] 48 (0, 0)) := by
    rw [heap_alloc_old _ _ (by rw [World.size_alloc]; omega)]; exact heap_alloc_new w _
  have hY : ((w.alloc (.cells #[.int .i64 kd, .slice af fs.length cf, .slice ar row.length cr] 48)).alloc (.cells #[.int .i64 kd, .slice af' fs.length cf', .slice ar' row.length cr'] 48)).heap[w.heap.size + 1]? = some (.cells #[.int .i64 kd, .slice af' fs.length cf', .slice ar' row.length cr'] 48 (0, 0)) := by
    have := heap_alloc_new (w.alloc (.cells #[.int .i64 kd, .slice af fs.length cf, .slice ar row.length cr] 48)) (.cells #[.int .i64 kd, .slice af' fs.length cf', .slice ar' row.length cr'] 48)
    rw [World.size_alloc] at this
    exact this
  rw [← hm5.block w.heap.size (by simp [World.size_alloc]; omega) (.inr (Nat.zero_le _))] at hX
  rw [← hm5.block (w.heap.size + 1) (by simp [World.size_alloc]) (.inr (Nat.zero_le _))] at hY
  have x2 : w5.cell? ⟨w.heap.size, 2, none⟩ = some (.slice ar row.length cr) := by unfold World.cell?; simp [hX]
  have y2 : w5.cell? ⟨w.heap.size + 1, 2, none⟩ = some (.slice ar' row.length cr') := by unfold World.cell?; simp [hY]
  clear hX hY
  replace hr1 := hr1.mod hm5 (.inr (Nat.zero_le _))
  replace hr2 := hr2.mod hm5 (.inr (Nat.zero_le _))
  go_wp2_with fail
  refine (eqInt_m _ _ row row _ hr1.rl hr2.rl).mono ?_
  rintro e w6 ⟨rfl, hm6⟩
  rw [sameB_self]
  go_wp2_with fail
  go_ret
  exact ⟨rfl, m0.trans (hm5.trans hm6)⟩

set_option maxHeartbeats 1000000 in
/-- Equal plans are told equal. -/
theorem eqNodes_any (v u : Value) (ns : List Nd) (hi hi' : Nat) (w : World) (h : PL w hi v ns) (h' : PL w hi' u ns) :
    Calls Try.prog 22 #[v, u] w fun e w' => e = .returned (.bool true) ∧ Mod 0 0 w w' := by
  obtain ⟨a, c, rfl, h1, h2, hs, h3⟩ := h
  obtain ⟨a', c', rfl, h1', h2', hs', h3'⟩ := h'
  unfold maxLen at h2 h2'
  have H3 := hid h3
  have H3' := hid h3'
  clear h3 h3'
  go_enter Try.func22, Try.ntmps22
  go_wp2_with fail
  go_loopw [5] (fun i wr => ∃ k : Nat, k ≤ ns.length ∧ i = .int .i64 k ∧ Mod 0 0 w wr) (fun i _ => ns.length - (intOf i).toNat)
  case atStart => exact ⟨0, Nat.zero_le _, rfl, Mod.refl _ _ _⟩
  case round =>
    obtain ⟨k, hk, rfl, hm⟩ := hrel
    by_cases hlt : k < ns.length
    · obtain ⟨b, o, f, r, rfl, hb, c0, c1, c2, hf, hr⟩ := H3.out k hlt
      obtain ⟨b', o', f', r', rfl, hb', c0', c1', c2', hf', hr'⟩ := H3'.out k hlt
      have hk0 := hm.block b (Nat.lt_of_lt_of_le hb hs) (.inr (Nat.zero_le _))
      have hk0' := hm.block b' (Nat.lt_of_lt_of_le hb' hs') (.inr (Nat.zero_le _))
      replace c0 := (World.cell?_of_block (a := ⟨b, o + k * 3, none⟩) hk0).trans c0
      replace c1 := (World.cell?_of_block (a := ⟨b, o + k * 3 + 1, none⟩) hk0).trans c1
      replace c2 := (World.cell?_of_block (a := ⟨b, o + k * 3 + 2, none⟩) hk0).trans c2
      replace c0' := (World.cell?_of_block (a := ⟨b', o' + k * 3, none⟩) hk0').trans c0'
      replace c1' := (World.cell?_of_block (a := ⟨b', o' + k * 3 + 1, none⟩) hk0').trans c1'
      replace c2' := (World.cell?_of_block (a := ⟨b', o' + k * 3 + 2, none⟩) hk0').trans c2'
      replace hf := hf.mod hm (.inr (Nat.zero_le _))
      replace hr := hr.mod hm (.inr (Nat.zero_le _))
      replace hf' := hf'.mod hm (.inr (Nat.zero_le _))
      replace hr' := hr'.mod hm (.inr (Nat.zero_le _))
      generalize ns.getD k nd0 = x at c0 c0' hf hr hf' hr'
      obtain ⟨kd, fs, row⟩ := x
      simp only at c0 c0' hf hr hf' hr'
      obtain ⟨af, cf, rfl, -⟩ := id hf
      obtain ⟨ar, cr, rfl, -⟩ := id hr
      obtain ⟨af', cf', rfl, -⟩ := id hf'
      obtain ⟨ar', cr', rfl, -⟩ := id hr'
      have b0 : (0 : Int) ≤ (k : Int) := by omega
      have b1 : (k : Int) < (ns.length : Int) := by omega
      have hbs := Nat.lt_of_lt_of_le (Nat.lt_of_lt_of_le hb hs) hm.size
      have hbs' := Nat.lt_of_lt_of_le (Nat.lt_of_lt_of_le hb' hs') hm.size
      clear hk0 hk0'
      go_wp2_with fail
      go_region_held3 (fun w' => w'.cell? ⟨b, o + k * 3, none⟩ = some (.int .i64 kd) ∧ w'.cell? ⟨b, o + k * 3 + 1, none⟩ = some (.slice af fs.length cf) ∧ w'.cell? ⟨b, o + k * 3 + 2, none⟩ = some (.slice ar row.length cr) ∧
          w'.cell? ⟨b', o' + k * 3, none⟩ = some (.int .i64 kd) ∧ w'.cell? ⟨b', o' + k * 3 + 1, none⟩ = some (.slice af' fs.length cf') ∧ w'.cell? ⟨b', o' + k * 3 + 2, none⟩ = some (.slice ar' row.length cr'))
        (first | go_keep | (go_split_ands; exact ⟨(World.cell?_of_block (a := ⟨b, o + k * 3, none⟩) (hm5.block b hbs (.inr (Nat.zero_le _)))).trans c0, (World.cell?_of_block (a := ⟨b, o + k * 3 + 1, none⟩) (hm5.block b hbs (.inr (Nat.zero_le _)))).trans c1, (World.cell?_of_block (a := ⟨b, o + k * 3 + 2, none⟩) (hm5.block b hbs (.inr (Nat.zero_le _)))).trans c2,
          (World.cell?_of_block (a := ⟨b', o' + k * 3, none⟩) (hm5.block b' hbs' (.inr (Nat.zero_le _)))).trans c0', (World.cell?_of_block (a := ⟨b', o' + k * 3 + 1, none⟩) (hm5.block b' hbs' (.inr (Nat.zero_le _)))).trans c1', (World.cell?_of_block (a := ⟨b', o' + k * 3 + 2, none⟩) (hm5.block b' hbs' (.inr (Nat.zero_le _)))).trans c2'⟩))
        ((go_at_call 39; refine (eqNode_any kd _ _ _ _ fs row wr.drew hf.rl hr.rl hf'.rl hr'.rl).mono ?_; rintro e w5 ⟨rfl, hm5⟩))
      go_wp2_with fail
      go_roundw
      case rel => exact ⟨k + 1, by omega, by go_num, hm.trans ((Mod.drewN _ 1).trans hm5)⟩
      case measure => simp [intOf]; omega
    · go_wp2_with fail
      go_ret
      exact ⟨rfl, hm⟩
end Go.Proofs.Yteelobokjidphaa
