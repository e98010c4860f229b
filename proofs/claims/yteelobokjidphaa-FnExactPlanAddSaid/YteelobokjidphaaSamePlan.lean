/- The contracts of the statements' own comparison of plans. No condition. -/
import Derived.Test.YteelobokjidphaaPlan
import Derived.Test.YteelobokjidphaaSameRow
import Derived.Deep.RegionHeld3
namespace Go.Proofs.Yteelobokjidphaa
open Go.RowKit
set_option maxRecDepth 100000

set_option maxHeartbeats 1000000 in
theorem sameNode_m (kd : Int) (vf vr vf' vr' : Value) (fs row : List Int) (w : World) (hf : RL w vf fs) (hr : RL w vr row) (hf' : RL w vf' fs) (hr' : RL w vr' row) :
    Calls Try.prog 52 #[.agg #[.int .i64 kd, vf, vr], .agg #[.int .i64 kd, vf', vr']] w fun e w' => e = .returned (.bool true) ∧ Mod 0 0 w w' := by
  have m0 := (Mod.alloc w (.cells #[.int .i64 kd, vf, vr] 48)).trans (Mod.alloc _ (.cells #[.int .i64 kd, vf', vr'] 48))
  have hf1 := hf.rr.mod m0 (.inr (Nat.zero_le _))
  have hr1 := hr.rr.mod m0 (.inr (Nat.zero_le _))
  have hf2 := hf'.rr.mod m0 (.inr (Nat.zero_le _))
  have hr2 := hr'.rr.mod m0 (.inr (Nat.zero_le _))
  obtain ⟨af, cf, rfl, -⟩ := id hf
  obtain ⟨ar, cr, rfl, -⟩ := id hr
  obtain ⟨af', cf', rfl, -⟩ := id hf'
  obtain ⟨ar', cr', rfl, -⟩ := id hr'
  go_enter Try.func52, Try.ntmps52
  go_wp2_with fail
  refine (sameRow_m _ _ fs fs _ hf1.rl hf2.rl).mono ?_
  rintro e w5 ⟨rfl, hm5⟩
  rw [sameB_self]
  have hX : ((w.alloc (.cells #[.int .i64 kd, .slice af fs.length cf, .slice ar row.length cr] 48)).alloc (.cells #[.int .i64 kd, .slice af' fs.length cf', .slice ar' row.length cr'] 48)).heap[w.heap.size]? = some (.cells #[.int .i64 kd, .slice af fs.length cf, .slice ar row.length cr] 48 (0, 0)) := by
    rw [heap_alloc_old _ _ (by rw [World.size_alloc]; omega)]; exact heap_alloc_new w _
  have hY : ((w.alloc (.cells #[.int .i64 kd, .slice af fs.length cf, .slice ar row.length cr] 48)).alloc (.cells #[.int .i64 kd, .slice af' fs.length cf', .slice ar' row.length cr'] 48)).heap[w.heap.size + 1]? = some (.cells #[.int .i64 kd, .slice af' fs.length cf', .slice ar' row.length cr'] 48 (0, 0)) := by
    have := heap_alloc_new (w.alloc (.cells #[.int .i64 kd, .slice af fs.length cf, .slice ar row.length cr] 48)) (.cells #[.int .i64 kd, .slice af' fs.length cf', .slice ar' row.length cr'] 48)
    rw [World.size_alloc] at this
    exact this
  rw [← hm5.block w.heap.size (by simp [World.size_alloc]; omega) (.inr (Nat.zero_le _))] at hX
  rw [← hm5.block (w.heap.size + 1) (by simp [World.size_alloc]) (.inr (Nat.zero_le _))] at hY
  have x2 : w5.cell? ⟨w.heap.size, 2, none⟩ = some (.slice ar row.length cr) := by unfold World.cell?; simp [hX]
  have y2 : w5.cell? ⟨w.heap.size + 1, 2, none⟩ = some (.slice ar' row.length cr') := by unfold World.cell?; simp [hY]
  clear hX hY
  replace hr1 := hr1.mod hm5 (.inr (Nat.zero_le _))
  replace hr2 := hr2.mod hm5 (.inr (Nat.zero_le _))
  go_wp2_with fail
  refine (sameRow_m _ _ row row _ hr1.rl hr2.rl).mono ?_
  rintro e w6 ⟨rfl, hm6⟩
  rw [sameB_self]
  go_wp2_with fail
  go_ret
  exact ⟨rfl, m0.trans (hm5.trans hm6)⟩

set_option maxHeartbeats 1000000 in
/-- Equal plans are told equal. -/
theorem samePlan_m (v u : Value) (ns : List Nd) (hi hi' : Nat) (w : World) (h : PL w hi v ns) (h' : PL w hi' u ns) :
    Calls Try.prog 43 #[v, u] w fun e w' => e = .returned (.bool true) ∧ Mod 0 0 w w' := by
  obtain ⟨a, c, rfl, h1, h2, hs, h3⟩ := h
  obtain ⟨a', c', rfl, h1', h2', hs', h3'⟩ := h'
  unfold maxLen at h2 h2'
  have H3 := hid h3
  have H3' := hid h3'
  clear h3 h3'
  go_enter Try.func43, Try.ntmps43
  go_wp2_with fail
  go_loopw [5] (fun i wr => ∃ k : Nat, k ≤ ns.length ∧ i = .int .i64 k ∧ Mod 0 0 w wr) (fun i _ => ns.length - (intOf i).toNat)
  case atStart => exact ⟨0, Nat.zero_le _, rfl, Mod.refl _ _ _⟩
  case round =>
    obtain ⟨k, hk, rfl, hm⟩ := hrel
    by_cases hlt : k < ns.length
    · obtain ⟨b, o, f, r, rfl, hb, c0, c1, c2, hf, hr⟩ := H3.out k hlt
      obtain ⟨b', o', f', r', rfl, hb', c0', c1', c2', hf', hr'⟩ := H3'.out k hlt
      have hk0 := hm.block b (Nat.lt_of_lt_of_le hb hs) (.inr (Nat.zero_le _))
      have hk0' := hm.block b' (Nat.lt_of_lt_of_le hb' hs') (.inr (Nat.zero_le _))
      replace c0 := (World.cell?_of_block (a := ⟨b, o + k * 3, none⟩) hk0).trans c0
      replace c1 := (World.cell?_of_block (a := ⟨b, o + k * 3 + 1, none⟩) hk0).trans c1
      replace c2 := (World.cell?_of_block (a := ⟨b, o + k * 3 + 2, none⟩) hk0).trans c2
      replace c0' := (World.cell?_of_block (a := ⟨b', o' + k * 3, none⟩) hk0').trans c0'
      replace c1' := (World.cell?_of_block (a := ⟨b', o' + k * 3 + 1, none⟩) hk0').trans c1'
      replace c2' := (World.cell?_of_block (a := ⟨b', o' + k * 3 + 2, none⟩) hk0').trans c2'
      replace hf := hf.mod hm (.inr (Nat.zero_le _))
      replace hr := hr.mod hm (.inr (Nat.zero_le _))
      replace hf' := hf'.mod hm (.inr (Nat.zero_le _))
      replace hr' := hr'.mod hm (.inr (Nat.zero_le _))
      generalize ns.getD k nd0 = x at c0 c0' hf hr hf' hr'
      obtain ⟨kd, fs, row⟩ := x
      simp only at c0 c0' hf hr hf' hr'
      obtain ⟨af, cf, rfl, -⟩ := id hf
      obtain ⟨ar, cr, rfl, -⟩ := id hr
      obtain ⟨af', cf', rfl, -⟩ := id hf'
      obtain ⟨ar', cr', rfl, -⟩ := id hr'
      have b0 : (0 : Int) ≤ (k : Int) := by omega
      have b1 : (k : Int) < (ns.length : Int) := by omega
      have hbs := Nat.lt_of_lt_of_le (Nat.lt_of_lt_of_le hb hs) hm.size
      have hbs' := Nat.lt_of_lt_of_le (Nat.lt_of_lt_of_le hb' hs') hm.size
      clear hk0 hk0'
      go_wp2_with fail
      go_region_held3 (fun w' => w'.cell? ⟨b, o + k * 3, none⟩ = some (.int .i64 kd) ∧ w'.cell? ⟨b, o + k * 3 + 1, none⟩ = some (.slice af fs.length cf) ∧ w'.cell? ⟨b, o + k * 3 + 2, none⟩ = some (.slice ar row.length cr) ∧
          w'.cell? ⟨b', o' + k * 3, none⟩ = some (.int .i64 kd) ∧ w'.cell? ⟨b', o' + k * 3 + 1, none⟩ = some (.slice af' fs.length cf') ∧ w'.cell? ⟨b', o' + k * 3 + 2, none⟩ = some (.slice ar' row.length cr'))
        (first | go_keep | (go_split_ands; exact ⟨(World.cell?_of_block (a := ⟨b, o + k * 3, none⟩) (hm5.block b hbs (.inr (Nat.zero_le _)))).trans c0, (World.cell?_of_block (a := ⟨b, o + k * 3 + 1, none⟩) (hm5.block b hbs (.inr (Nat.zero_le _)))).trans c1, (World.cell?_of_block (a := ⟨b, o + k * 3 + 2, none⟩) (hm5.block b hbs (.inr (Nat.zero_le _)))).trans c2,
          (World.cell?_of_block (a := ⟨b', o' + k * 3, none⟩) (hm5.block b' hbs' (.inr (Nat.zero_le _)))).trans c0', (World.cell?_of_block (a := ⟨b', o' + k * 3 + 1, none⟩) (hm5.block b' hbs' (.inr (Nat.zero_le _)))).trans c1', (World.cell?_of_block (a := ⟨b', o' + k * 3 + 2, none⟩) (hm5.block b' hbs' (.inr (Nat.zero_le _)))).trans c2'⟩))
        ((go_at_call 52; refine (sameNode_m kd _ _ _ _ fs row wr.drew hf.rl hr.rl hf'.rl hr'.rl).mono ?_; rintro e w5 ⟨rfl, hm5⟩))
      go_wp2_with fail
      go_roundw
      case rel => exact ⟨k + 1, by omega, by go_num, hm.trans ((Mod.drewN _ 1).trans hm5)⟩
      case measure => simp [intOf]; omega
    · go_wp2_with fail
      go_ret
      exact ⟨rfl, hm⟩
end Go.Proofs.Yteelobokjidphaa
