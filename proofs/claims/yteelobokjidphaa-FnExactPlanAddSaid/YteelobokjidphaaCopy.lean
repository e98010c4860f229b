/- The program's copies of lists, of nodes. No condition. -/
import Derived.Test.YteelobokjidphaaLawPlan
import Derived.Test.YteelobokjidphaaAppAll
import Derived.Deep.RegionHeld3
namespace Go.Proofs.Yteelobokjidphaa
open Go.RowKit
set_option maxRecDepth 100000

theorem copyInts_any (v : Value) (xs : List Int) (w : World) (h : RL w v xs) (hlen : xs.length < 1099511627776) :
    Calls Try.prog 63 #[v] w (PostI w xs) := by
  obtain ⟨a, c, rfl, -⟩ := id h
  go_enter Try.func63, Try.ntmps63
  go_wp2_with (at_builtin; refine appAll rfl _ _ 24 rfl Try.underlying24 w.heap.size _ _ _ xs (OI.nil _ _) h rfl rfl (by simpa using hlen) (Below.refl _ _) (Nat.le_refl _) ?_; intro v' w' ho' hbel' _)
  go_ret
  exact ⟨_, rfl, by simpa using ho', hbel'⟩

/-- A node in new memory: its two rows lie in blocks of their own. -/
def NodeCopied (w : World) (kd : Int) (fs row : List Int) (e : Ending) (w' : World) : Prop :=
  ∃ vf vr, e = .returned (.agg #[.int .i64 kd, vf, vr]) ∧ OI w' w.heap.size vf fs ∧ OI w' w.heap.size vr row ∧ (∀ b, vf.ownBlock = some b → vr.ownBlock ≠ some b) ∧ Below w.heap.size w w'

set_option maxHeartbeats 4000000 in
theorem copyNode_any (kd : Int) (vf vr : Value) (fs row : List Int) (w : World) (hf : RL w vf fs) (hr : RL w vr row) (hl1 : fs.length < 1099511627776) (hl2 : row.length < 1099511627776) :
    Calls Try.prog 72 #[.agg #[.int .i64 kd, vf, vr]] w (NodeCopied w kd fs row) := by
  obtain ⟨af, cf, rfl, -⟩ := id hf
  obtain ⟨ar, cr, rfl, -⟩ := id hr
  obtain ⟨X, hX⟩ : ∃ X, X = (w.alloc (.cells #[.int .i64 kd, .slice af fs.length cf, .slice ar row.length cr] 48)).alloc (.cells #[.int .i64 0, .slice none 0 0, .slice none 0 0] 48) := ⟨_, rfl⟩
  have hsz : X.heap.size = w.heap.size + 2 := by rw [hX]; simp [World.size_alloc]
  have x0 : X.heap[w.heap.size]? = some (.cells #[.int .i64 kd, .slice af fs.length cf, .slice ar row.length cr] 48 (0, 0)) := by
    rw [hX, heap_alloc_old _ _ (by simp [World.size_alloc])]; exact heap_alloc_new w _
  have x1 : X.heap[w.heap.size + 1]? = some (.cells #[.int .i64 0, .slice none 0 0, .slice none 0 0] 48 (0, 0)) := by
    have := heap_alloc_new (w.alloc (.cells #[.int .i64 kd, .slice af fs.length cf, .slice ar row.length cr] 48)) (.cells #[.int .i64 0, .slice none 0 0, .slice none 0 0] 48)
    rw [World.size_alloc] at this
    rw [hX]; exact this
  have mX : Mod 0 0 w X := by rw [hX]; exact (Mod.alloc _ _).trans (Mod.alloc _ _)
  have HX := hid hX
  clear hX
  have hfX : RL X.drew (.slice af fs.length cf) fs := (hf.rr.mod (mX.trans (Mod.drewN _ 1)) (.inr (Nat.zero_le _))).rl
  have hrX : RL X.drew (.slice ar row.length cr) row := (hr.rr.mod (mX.trans (Mod.drewN _ 1)) (.inr (Nat.zero_le _))).rl
  have X0 := hid x0
  have X1 := hid x1
  have c0 : X.cell? ⟨w.heap.size, 0, none⟩ = some (.int .i64 kd) := by unfold World.cell?; simp [x0]
  have c1 : X.cell? ⟨w.heap.size, 1, none⟩ = some (.slice af fs.length cf) := by unfold World.cell?; simp [x0]
  have c2 : X.cell? ⟨w.heap.size, 2, none⟩ = some (.slice ar row.length cr) := by unfold World.cell?; simp [x0]
  have d0 : X.cell? ⟨w.heap.size + 1, 0, none⟩ = some (.int .i64 0) := by unfold World.cell?; simp [x1]
  have d1 : X.cell? ⟨w.heap.size + 1, 1, none⟩ = some (.slice none 0 0) := by unfold World.cell?; simp [x1]
  have d2 : X.cell? ⟨w.heap.size + 1, 2, none⟩ = some (.slice none 0 0) := by unfold World.cell?; simp [x1]
  have e0 : X.frozen? ⟨w.heap.size + 1, 0, none⟩ = false := by unfold World.frozen?; simp [x1]
  have e1 : X.frozen? ⟨w.heap.size + 1, 1, none⟩ = false := by unfold World.frozen?; simp [x1]
  have e2 : X.frozen? ⟨w.heap.size + 1, 2, none⟩ = false := by unfold World.frozen?; simp [x1]
  have l0 : w.heap.size < X.heap.size := by omega
  have l1 : w.heap.size + 1 < X.heap.size := by omega
  have HSZ := hid hsz
  clear x0 x1 hsz
  go_enter Try.func72, Try.ntmps72
  go_wp2_with fail
  rw [← HX.out]
  go_region_held3 (fun w' => w'.cell? ⟨w.heap.size, 0, none⟩ = some (.int .i64 kd) ∧ w'.cell? ⟨w.heap.size, 1, none⟩ = some (.slice af fs.length cf) ∧ w'.cell? ⟨w.heap.size, 2, none⟩ = some (.slice ar row.length cr))
    (go_keep)
    (first
      | ((go_at_call 63; refine (copyInts_any (.slice af fs.length cf) fs X.drew hfX hl1).mono ?_; rintro e w5 ⟨vf, rfl, hvf, hb5⟩
          obtain ⟨a5, c5, rfl, -⟩ := id hvf.rl
          have hc5 : ∀ b o, b < X.heap.size → w5.cell? ⟨b, o, none⟩ = X.cell? ⟨b, o, none⟩ := fun b o h => hb5.cell (p := ⟨b, o, none⟩) h
          have hz5 : ∀ b o, b < X.heap.size → w5.frozen? ⟨b, o, none⟩ = X.frozen? ⟨b, o, none⟩ := fun b o h => hb5.frozen (p := ⟨b, o, none⟩) h))
      | ((go_at_call 63; refine (copyInts_any (.slice ar row.length cr) row w5 ((hrX.rr.mod (Mod.of_below hb5) (.inr (Nat.zero_le _))).rl) hl2).mono ?_; rintro e w6 ⟨vr, rfl, hvr, hb6⟩
          obtain ⟨a6, c6, rfl, -⟩ := id hvr.rl
          have hc6 : ∀ b o, b < X.heap.size → w6.cell? ⟨b, o, none⟩ = X.cell? ⟨b, o, none⟩ := fun b o h => (hb6.cell (p := ⟨b, o, none⟩) (Nat.lt_of_lt_of_le h hb5.size)).trans (hb5.cell (p := ⟨b, o, none⟩) h)
          have hz6 : ∀ b o, b < X.heap.size → w6.frozen? ⟨b, o, none⟩ = X.frozen? ⟨b, o, none⟩ := fun b o h => (hb6.frozen (p := ⟨b, o, none⟩) (Nat.lt_of_lt_of_le h hb5.size)).trans (hb5.frozen (p := ⟨b, o, none⟩) h))))
  have mZ : Mod w.heap.size (w.heap.size + 2) w6 (((w6.setCell ⟨w.heap.size + 1, 0, none⟩ (.int .i64 kd)).setCell ⟨w.heap.size + 1, 1, none⟩ (.slice a5 fs.length c5)).setCell ⟨w.heap.size + 1, 2, none⟩ (.slice a6 row.length c6)) :=
    ((Mod.setCell (by show w.heap.size ≤ w.heap.size + 1; omega) (by show w.heap.size + 1 < w.heap.size + 2; omega) _).trans (Mod.setCell (by show w.heap.size ≤ w.heap.size + 1; omega) (by show w.heap.size + 1 < w.heap.size + 2; omega) _)).trans (Mod.setCell (by show w.heap.size ≤ w.heap.size + 1; omega) (by show w.heap.size + 1 < w.heap.size + 2; omega) _)
  have hs5 : X.heap.size ≤ w5.heap.size := hb5.size
  have hs6 := hb6.size
  have hb : Below w.heap.size w w6 := (((mX.trans (Mod.drewN X 1)).trans (Mod.of_below hb5)).trans (Mod.of_below hb6)).below0 (Below.refl _ _) (Nat.le_refl _)
  have hdist : ∀ b, (Value.slice a5 fs.length c5).ownBlock = some b → (Value.slice a6 row.length c6).ownBlock ≠ some b := fun b h1 h2 => by
    have := (hvf.lt b h1).2
    have := (hvr.lt b h2).1
    omega
  have hvf6 := (hvf.mod (Mod.of_below hb6) (Nat.zero_le _)).mod mZ (by show w.heap.size + 2 ≤ X.heap.size; rw [HSZ.out]; exact Nat.le_refl _)
  have hvr6 := hvr.mod mZ (by have := HSZ.out; omega)
  have hb7 := mZ.below hb (Nat.le_refl _) hb.size
  have HD := hid hdist
  have HVF := hid (hvf6.base (show w.heap.size ≤ X.drew.heap.size by show w.heap.size ≤ X.heap.size; omega))
  have HVR := hid (hvr6.base (show w.heap.size ≤ w5.heap.size by omega))
  have g0 := (hc6 (w.heap.size + 1) 0 l1).trans d0
  have g1 := (hc6 (w.heap.size + 1) 1 l1).trans d1
  have g2 := (hc6 (w.heap.size + 1) 2 l1).trans d2
  clear hc5 hz5 hc6 hz6 hvf hvr hvf6 hvr6 hdist
  go_wp2_with fail
  refine bodyPost_ret (v := .agg #[.int .i64 kd, .slice a5 fs.length c5, .slice a6 row.length c6]) ?_ rfl ?_
  · simp [results, Try.results72, go_sem, g0, g1, g2]
  exact ⟨_, _, rfl, HVF.out, HVR.out, HD.out, hb7⟩

set_option maxHeartbeats 2000000 in
theorem copyPlan_any (v : Value) (ns : List Nd) (hi : Nat) (w : World) (h : PL w hi v ns) (hlen : ns.length ≤ 1048576) (hl : ∀ i, i < ns.length → (ns.getD i nd0).fs.length < 1099511627776 ∧ (ns.getD i nd0).row.length < 1099511627776) :
    Calls Try.prog 71 #[v] w (fun e w' => ∃ vo, e = .returned vo ∧ PR True w' w.heap.size w'.heap.size vo ns ∧ Below w.heap.size w w') := by
  obtain ⟨a, c, rfl, h1, h2, hs, h3⟩ := h
  unfold maxLen at h2
  have H3 := hid h3
  clear h3
  go_enter Try.func71, Try.ntmps71
  go_wp2_with (at_make; refine mkN rfl _ _ 27 rfl Try.underlying27 w.heap.size ns.length _ _ rfl rfl rfl rfl (by omega) (Below.refl _ _) (Nat.le_refl _) ?_; intro v' w1 ho rfl hbel _)
  go_loopw [11] (fun i wr => ∃ k : Nat, k ≤ ns.length ∧ i = .int .i64 k ∧ PR True wr w.heap.size wr.heap.size (.slice (some ⟨w.heap.size, 0, none⟩) ns.length ns.length) (partN ns k) ∧ Below w.heap.size w wr)
    (fun i _ => ns.length - (intOf i).toNat)
  case atStart => exact ⟨0, Nat.zero_le _, rfl, by rw [partN_zero]; exact ho, hbel⟩
  case round =>
    clear ho hbel
    obtain ⟨k, hk, rfl, ho, hbel⟩ := hrel
    by_cases hlt : k < ns.length
    · obtain ⟨b, o, f, r, rfl, hb, c0, c1, c2, hf, hr⟩ := H3.out k hlt
      have hm := Mod.of_below hbel
      have hk0 := hm.block b (Nat.lt_of_lt_of_le hb hs) (.inr (Nat.zero_le _))
      replace c0 := (World.cell?_of_block (a := ⟨b, o + k * 3, none⟩) hk0).trans c0
      replace c1 := (World.cell?_of_block (a := ⟨b, o + k * 3 + 1, none⟩) hk0).trans c1
      replace c2 := (World.cell?_of_block (a := ⟨b, o + k * 3 + 2, none⟩) hk0).trans c2
      replace hf := hf.mod hm (.inr (Nat.zero_le _))
      replace hr := hr.mod hm (.inr (Nat.zero_le _))
      obtain ⟨hlf, hlr⟩ := hl k hlt
      have HSET := hid (partN_set ns k)
      obtain ⟨n, hn⟩ : ∃ n, n = ns.getD k nd0 := ⟨_, rfl⟩
      rw [← hn] at c0 hf hr hlf hlr HSET
      obtain ⟨kd, fs, row⟩ := n
      simp only at c0 hf hr hlf hlr
      obtain ⟨af, cf, rfl, -⟩ := id hf
      obtain ⟨ar, cr, rfl, -⟩ := id hr
      have mA := Mod.alloc wr (.cells #[.int .i64 kd, .slice af fs.length cf, .slice ar row.length cr] 48)
      replace hf := hf.mod mA (.inr (Nat.zero_le _))
      replace hr := hr.mod mA (.inr (Nat.zero_le _))
      have HO := hid ho
      clear hn hk0 ho
      go_wp2_with fail
      refine (copyNode_any kd _ _ fs row _ hf.rl hr.rl hlf hlr).mono ?_
      rintro e w2 ⟨vf, vr, rfl, hvf, hvr, hdist, hb2⟩
      have m2 := mA.trans (Mod.of_below hb2)
      have hsz := m2.size
      have ho2 := HO.out.mod m2 (.inr (Nat.zero_le _))
      have hkl : k < (partN ns k).length := by rw [partN_length]; exact hlt
      have hA : wr.heap.size ≤ (wr.alloc (.cells #[.int .i64 kd, .slice af fs.length cf, .slice ar row.length cr] 48)).heap.size := mA.size
      have HP := hid (ho2.put hkl (hvf.base (Nat.le_trans hbel.size hA)) (hvr.base (Nat.le_trans hbel.size hA)) (fun _ => ⟨fun b hb => Nat.le_trans hA (hvf.lt b hb).1, fun b hb => Nat.le_trans hA (hvr.lt b hb).1, hdist⟩) kd)
      obtain ⟨f0, r0, d0, d1, d2, -, -⟩ := ho2.cells hkl
      have z0 := ho2.frozen (k * 3)
      have z1 := ho2.frozen (k * 3 + 1)
      have z2 := ho2.frozen (k * 3 + 2)
      obtain ⟨af', cf', rfl, -⟩ := id hvf.rl
      obtain ⟨ar', cr', rfl, -⟩ := id hvr.rl
      have hbw := m2.below0 hbel hbel.size
      clear hkl ho2 c0 c1 c2 hdist hA
      go_wp2_with fail
      go_roundw
      case rel =>
        refine ⟨k + 1, by omega, by go_num, ?_, ((hbw.setCell (Nat.le_refl _) _).setCell (Nat.le_refl _) _).setCell (Nat.le_refl _) _⟩
        have hp := HP.out
        rw [HSET.out] at hp
        exact hp.up (by simp) (by simp)
      case measure => simp [intOf]; omega
    · go_wp2_with fail
      go_ret
      obtain rfl : k = ns.length := by omega
      exact ⟨_, rfl, by rw [partN_all] at ho; exact ho, hbel⟩
end Go.Proofs.Yteelobokjidphaa
