/- The program's nodeFits. No condition. -/
import Derived.Test.YteelobokjidphaaPlan
namespace Go.Proofs.Yteelobokjidphaa
open Go.RowKit
set_option maxRecDepth 100000

def fitsB (n : Nd) (at_ : Int) : Bool :=
  kvB n.kind && decide ((n.fs.length : Int) = knI n.kind) && fsB n.fs at_ && (if n.kind = 0 then rvB n.row else decide (n.row.length = 0))
theorem inB_at (f at_ : Int) : inB f 0 (at_ - 1) = (decide (0 ≤ f) && decide (f < at_)) := by
  unfold inB
  congr 1
  rw [decide_eq_decide]
  omega

set_option maxHeartbeats 4000000 in
theorem fits_any (kd : Int) (vf vr : Value) (fs row : List Int) (at_ : Int) (w : World) (hf : RL w vf fs) (hr : RL w vr row) :
    Calls Try.prog 96 #[.agg #[.int .i64 kd, vf, vr], .int .i64 at_] w fun e w' => e = .returned (.bool (fitsB ⟨kd, fs, row⟩ at_)) ∧ Mod 0 0 w w' := by
  have m0 := Mod.alloc w (.cells #[.int .i64 kd, vf, vr] 48)
  have hf1 := (hf.rr.mod m0 (.inr (Nat.zero_le _))).rl
  have hr1 := (hr.rr.mod m0 (.inr (Nat.zero_le _))).rl
  obtain ⟨af, cf, rfl, h1, h2, h3⟩ := id hf1
  obtain ⟨ar, cr, rfl, -⟩ := id hr1
  unfold maxLen at h2
  have H3 := hid h3
  clear h3
  cases hkv : kvB kd
  · have hB : fitsB ⟨kd, fs, row⟩ at_ = false := by unfold fitsB; simp [hkv]
    rw [hB]
    have HKV := hid hkv
    clear hB hkv
    go_enter Try.func96, Try.ntmps96
    go_wp2_with fail
    go_quiet ((go_at_call 110; exact quiet_r (HKV.out ▸ ikv_any kd _)))
    go_wp2_with fail
    go_ret
    exact ⟨rfl, m0.trans (Mod.drewN _ _)⟩
  · have HKV := hid hkv
    clear hkv
    by_cases hkn : (fs.length : Int) = knI kd
    · have hne : ((fs.length : Int) != knI kd) = false := by simp [hkn]
      have HKN := hid hkn
      obtain ⟨X, hX⟩ : ∃ X, X = w.alloc (.cells #[.int .i64 kd, .slice af fs.length cf, .slice ar row.length cr] 48) := ⟨_, rfl⟩
      have hX0 : w.heap.size < X.heap.size := by rw [hX, World.size_alloc]; omega
      have HX := hid hX
      clear hkn hX
      go_enter Try.func96, Try.ntmps96
      go_wp2_with fail
      rw [← HX.out] at hf1 hr1 H3 m0 ⊢
      have c0 : X.cell? ⟨w.heap.size, 0, none⟩ = some (.int .i64 kd) := by rw [HX.out]; simp
      have c1 : X.cell? ⟨w.heap.size, 1, none⟩ = some (.slice af fs.length cf) := by rw [HX.out]; simp
      have c2 : X.cell? ⟨w.heap.size, 2, none⟩ = some (.slice ar row.length cr) := by rw [HX.out]; simp
      go_region_held3 (fun w' => w'.cell? ⟨w.heap.size, 0, none⟩ = some (.int .i64 kd) ∧ w'.cell? ⟨w.heap.size, 1, none⟩ = some (.slice af fs.length cf) ∧ w'.cell? ⟨w.heap.size, 2, none⟩ = some (.slice ar row.length cr))
        (first | go_keep | (go_split_ands; exact ⟨(World.cell?_of_block (a := ⟨w.heap.size, 0, none⟩) (hm5.block _ hX0 (.inr (Nat.zero_le _)))).trans c0, (World.cell?_of_block (a := ⟨w.heap.size, 1, none⟩) (hm5.block _ hX0 (.inr (Nat.zero_le _)))).trans c1, (World.cell?_of_block (a := ⟨w.heap.size, 2, none⟩) (hm5.block _ hX0 (.inr (Nat.zero_le _)))).trans c2⟩))
        (first
          | ((go_at_call 110; refine (ikv_any kd _).mono ?_; rintro e _ ⟨rfl, rfl⟩; rw [HKV.out]))
          | ((go_at_call 111; refine (ikn_any kd X.drew).mono ?_; rintro e w5 ⟨rfl, hm5⟩)))
      have hmX : Mod 0 0 X w5 := (Mod.drewN X 1).trans hm5
      clear hm5
      go_wp2_with fail
      replace c0 := (World.cell?_of_block (a := ⟨w.heap.size, 0, none⟩) (hmX.block _ hX0 (.inr (Nat.zero_le _)))).trans c0
      replace c1 := (World.cell?_of_block (a := ⟨w.heap.size, 1, none⟩) (hmX.block _ hX0 (.inr (Nat.zero_le _)))).trans c1
      replace c2 := (World.cell?_of_block (a := ⟨w.heap.size, 2, none⟩) (hmX.block _ hX0 (.inr (Nat.zero_le _)))).trans c2
      replace hf1 := (hf1.rr.mod hmX (.inr (Nat.zero_le _))).rl
      replace hr1 := (hr1.rr.mod hmX (.inr (Nat.zero_le _))).rl
      replace m0 := m0.trans hmX
      obtain ⟨_, _, e', -, -, h3⟩ := id hf1
      cases e'
      replace H3 := hid h3
      clear h3 hmX hf1
      go_wp2_with fail
      go_loopw [23] (fun i wr => ∃ k : Nat, k ≤ fs.length ∧ i = .int .i64 k ∧ (∀ j, j < k → inB (fs.getD j 0) 0 (at_ - 1) = true) ∧ wr = w5) (fun i _ => fs.length - (intOf i).toNat)
      case atStart => exact ⟨0, Nat.zero_le _, rfl, fun j hj => by omega, rfl⟩
      case round =>
        obtain ⟨k, hk, rfl, hall, rfl⟩ := hrel
        by_cases hlt : k < fs.length
        · obtain ⟨b, o, rfl, hb, hc⟩ := H3.out k hlt
          obtain ⟨n, hn⟩ : ∃ n, n = fs.getD k 0 := ⟨_, rfl⟩
          rw [← hn] at hc
          have HN := hid hn
          have HALL := hid hall
          clear hn hall
          by_cases hin : 0 ≤ n ∧ n < at_
          · have hin2 : inB n 0 (at_ - 1) = true := by rw [inB_at]; simp [hin]
            have HIN := hid hin2
            obtain ⟨hin3, hin4⟩ := hin
            clear hin2
            go_wp2_with fail
            go_roundw
            case rel =>
              refine ⟨k + 1, by omega, by go_num, fun j hj => ?_, by first | trivial | rfl⟩
              by_cases e : j = k
              · subst e; rw [← HN.out]; exact HIN.out
              · exact HALL.out j (by omega)
            case measure => simp [intOf]; omega
          · have hfb : fsB fs at_ = false := fsB_false hlt (by rw [← HN.out, inB_at]; simp; omega)
            have hB : fitsB ⟨kd, fs, row⟩ at_ = false := by unfold fitsB; simp [hfb]
            have HB := hid hB
            clear hfb hB
            by_cases hn0 : n < 0
            · clear hin
              go_wp2_with fail
              go_ret
              exact ⟨by rw [HB.out]; rfl, m0⟩
            · have hge : at_ ≤ n := by omega
              clear hin
              go_wp2_with fail
              go_ret
              exact ⟨by rw [HB.out]; rfl, m0⟩
        · obtain rfl : k = fs.length := by omega
          have hfb : fsB fs at_ = true := fsB_true hall
          have HFB := hid hfb
          clear hfb hall
          by_cases hz : kd = 0
          · have hB : fitsB ⟨kd, fs, row⟩ at_ = rvB row := by unfold fitsB; simp [hz, HFB.out, ← HKV.out]; simp [← hz, HKV.out, HKN.out]
            have HB := hid hB
            subst hz
            clear hB
            go_wp2_with fail
            refine (irv_any _ row _ hr1).mono ?_
            rintro e _ ⟨rfl, rfl⟩
            go_wp2_with fail
            go_ret
            exact ⟨by rw [HB.out]; rfl, m0⟩
          · have hB : fitsB ⟨kd, fs, row⟩ at_ = decide (row.length = 0) := by unfold fitsB; simp [hz, HFB.out, HKV.out, HKN.out]
            have HB := hid hB
            have hz' : (kd == 0) = false := by simpa using hz
            clear hB hz
            go_wp2_with fail
            go_ret
            exact ⟨by rw [HB.out]; simp [BEq.beq], m0⟩
    · have hB : fitsB ⟨kd, fs, row⟩ at_ = false := by unfold fitsB; simp [hkn]
      rw [hB]
      have hne : ((fs.length : Int) != knI kd) = true := by simpa using hkn
      obtain ⟨X, hX⟩ : ∃ X, X = w.alloc (.cells #[.int .i64 kd, .slice af fs.length cf, .slice ar row.length cr] 48) := ⟨_, rfl⟩
      have hX0 : w.heap.size < X.heap.size := by rw [hX, World.size_alloc]; omega
      have HX := hid hX
      clear hkn hX hB
      go_enter Try.func96, Try.ntmps96
      go_wp2_with fail
      rw [← HX.out] at hf1 hr1 H3 m0 ⊢
      have c0 : X.cell? ⟨w.heap.size, 0, none⟩ = some (.int .i64 kd) := by rw [HX.out]; simp
      have c1 : X.cell? ⟨w.heap.size, 1, none⟩ = some (.slice af fs.length cf) := by rw [HX.out]; simp
      have c2 : X.cell? ⟨w.heap.size, 2, none⟩ = some (.slice ar row.length cr) := by rw [HX.out]; simp
      go_region_held3 (fun w' => w'.cell? ⟨w.heap.size, 0, none⟩ = some (.int .i64 kd) ∧ w'.cell? ⟨w.heap.size, 1, none⟩ = some (.slice af fs.length cf) ∧ w'.cell? ⟨w.heap.size, 2, none⟩ = some (.slice ar row.length cr))
        (first | go_keep | (go_split_ands; exact ⟨(World.cell?_of_block (a := ⟨w.heap.size, 0, none⟩) (hm5.block _ hX0 (.inr (Nat.zero_le _)))).trans c0, (World.cell?_of_block (a := ⟨w.heap.size, 1, none⟩) (hm5.block _ hX0 (.inr (Nat.zero_le _)))).trans c1, (World.cell?_of_block (a := ⟨w.heap.size, 2, none⟩) (hm5.block _ hX0 (.inr (Nat.zero_le _)))).trans c2⟩))
        (first
          | ((go_at_call 110; refine (ikv_any kd _).mono ?_; rintro e _ ⟨rfl, rfl⟩; rw [HKV.out]))
          | ((go_at_call 111; refine (ikn_any kd X.drew).mono ?_; rintro e w5 ⟨rfl, hm5⟩)))
      go_wp2_with fail
      go_ret
      exact ⟨rfl, m0.trans ((Mod.drewN X 1).trans hm5)⟩
end Go.Proofs.Yteelobokjidphaa
