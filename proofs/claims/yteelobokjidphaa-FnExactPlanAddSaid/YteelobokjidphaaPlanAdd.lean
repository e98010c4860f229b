/- The program's PlanAdd. No condition. -/
import Derived.Test.YteelobokjidphaaCopy
import Derived.Test.YteelobokjidphaaGraphOf
namespace Go.Proofs.Yteelobokjidphaa
open Go.RowKit
set_option maxRecDepth 100000

/-- What PlanAdd hands back: the plan with one node more, in new memory; or nothing. -/
def addL (ns : List Nd) (n : Nd) : List Nd := if planB ns = true ∧ planB (ns ++ [n]) = true then ns ++ [n] else []
def addB (ns : List Nd) (n : Nd) : Bool := planB ns && planB (ns ++ [n])
def Added (w : World) (ns : List Nd) (n : Nd) (e : Ending) (w' : World) : Prop :=
  ∃ vo, e = .returned (.tuple #[vo, .bool (addB ns n)]) ∧ PR True w' w.heap.size w'.heap.size vo (addL ns n) ∧ Below w.heap.size w w'

set_option maxHeartbeats 4000000 in
theorem ipadd_any (v vf vr : Value) (ns : List Nd) (kd : Int) (fs row : List Int) (hi : Nat) (w : World) (h : PL w hi v ns) (hf : RL w vf fs) (hr : RL w vr row)
    (hl : ∀ i, i < ns.length → (ns.getD i nd0).fs.length < 1099511627776 ∧ (ns.getD i nd0).row.length < 1099511627776) (hl1 : fs.length < 1099511627776) (hl2 : row.length < 1099511627776) :
    Calls Try.prog 38 #[v, .agg #[.int .i64 kd, vf, vr]] w (Added w ns ⟨kd, fs, row⟩) := by
  obtain ⟨L, hL⟩ : ∃ L, L = addL ns ⟨kd, fs, row⟩ := ⟨_, rfl⟩
  obtain ⟨B, hB⟩ : ∃ B, B = addB ns ⟨kd, fs, row⟩ := ⟨_, rfl⟩
  unfold Added
  rw [← hL, ← hB]
  have HL := hid hL
  have HB := hid hB
  have HLN := hid hl
  obtain ⟨a, c, rfl, -⟩ := id h
  obtain ⟨af, cf, rfl, -⟩ := id hf
  obtain ⟨ar, cr, rfl, -⟩ := id hr
  have mA := Mod.alloc w (.cells #[.int .i64 kd, .slice af fs.length cf, .slice ar row.length cr] 48)
  obtain ⟨X, hX⟩ : ∃ X, X = w.alloc (.cells #[.int .i64 kd, .slice af fs.length cf, .slice ar row.length cr] 48) := ⟨_, rfl⟩
  rw [← hX] at mA
  have x0 : X.heap[w.heap.size]? = some (.cells #[.int .i64 kd, .slice af fs.length cf, .slice ar row.length cr] 48 (0, 0)) := by rw [hX]; exact heap_alloc_new w _
  have l0 : w.heap.size < X.heap.size := by rw [hX]; simp
  have HX := hid hX
  clear hl hL hB hX
  go_enter Try.func38, Try.ntmps38
  go_wp2_with fail
  rw [← HX.out]
  refine (iplan_any _ ns hi X (h.mod mA (.inr (Nat.zero_le _)))).mono ?_
  rintro e w2 ⟨rfl, m2⟩
  have m02 := mA.trans m2
  have hb2 := m02.below0 (Below.refl w.heap.size w) (Nat.le_refl _)
  by_cases hp : planB ns = true
  · rw [hp]
    have hlen := planB_len hp
    have HP := hid hp
    replace x0 := (m2.block _ l0 (.inr (Nat.zero_le _))).trans x0
    have l2 := Nat.lt_of_lt_of_le l0 m2.size
    have c0 : w2.cell? ⟨w.heap.size, 0, none⟩ = some (.int .i64 kd) := by unfold World.cell?; simp [x0]
    have c1 : w2.cell? ⟨w.heap.size, 1, none⟩ = some (.slice af fs.length cf) := by unfold World.cell?; simp [x0]
    have c2 : w2.cell? ⟨w.heap.size, 2, none⟩ = some (.slice ar row.length cr) := by unfold World.cell?; simp [x0]
    have h2 : PL w2.drew hi (.slice a ns.length c) ns := h.mod (m02.trans (Mod.drewN w2 1)) (.inr (Nat.zero_le _))
    have hf2 := hf.rr.mod (m02.trans (Mod.drewN w2 1)) (.inr (Nat.zero_le _))
    have hr2 := hr.rr.mod (m02.trans (Mod.drewN w2 1)) (.inr (Nat.zero_le _))
    have hb2d : Below w.heap.size w w2.drew := (Mod.drewN w2 1).below0 hb2 hb2.size
    clear hp x0
    go_wp2_with fail
    go_region_held3 (fun w' => w'.cell? ⟨w.heap.size, 0, none⟩ = some (.int .i64 kd) ∧ w'.cell? ⟨w.heap.size, 1, none⟩ = some (.slice af fs.length cf) ∧ w'.cell? ⟨w.heap.size, 2, none⟩ = some (.slice ar row.length cr))
      (go_keep)
      (first
        | ((refine step_appN1 rfl _ _ 27 rfl Try.underlying27 (w.heap.size + 1) w5.heap.size _ ns kd _ _ fs row hv6 hvf6 hvr6 hap rfl rfl (by omega) (Below.refl _ _) l6 ?_; intro v' w7 hv7 hb7 _
            have hc7 : ∀ o, w7.cell? ⟨w.heap.size, o, none⟩ = w2.cell? ⟨w.heap.size, o, none⟩ := fun o => (hb7.cell (p := ⟨w.heap.size, o, none⟩) (Nat.lt_succ_self _)).trans (hc6 _ o l2)))
        | ((go_at_call 71; refine (copyPlan_any _ ns hi w2.drew h2 (by omega) HLN.out).mono ?_; rintro e w5 ⟨v5, rfl, hv5, hb5⟩
            obtain ⟨a5, c5, rfl, -⟩ := hv5.shape
            have hc5 : ∀ b o, b < w2.heap.size → w5.cell? ⟨b, o, none⟩ = w2.cell? ⟨b, o, none⟩ := fun b o h => hb5.cell (p := ⟨b, o, none⟩) h
            have hb5w := (Mod.of_below hb5).below0 hb2d hb2d.size))
        | ((go_at_call 72; refine (copyNode_any kd _ _ fs row w5 (hf2.mod (Mod.of_below hb5) (.inr (Nat.zero_le _))).rl (hr2.mod (Mod.of_below hb5) (.inr (Nat.zero_le _))).rl hl1 hl2).mono ?_; rintro e w6 ⟨vf6, vr6, rfl, hvf6', hvr6', hdist, hb6'⟩
            have hb6 := (Mod.of_below hb6').below0 hb5w hb5w.size
            have hv6 := (hv5.base (show w.heap.size + 1 ≤ w2.drew.heap.size from l2)).mod (Mod.of_below hb6') (.inr (Nat.zero_le _))
            have hap : Apart True w5.heap.size vf6 vr6 := fun _ => ⟨fun b hb => (hvf6'.lt b hb).1, fun b hb => (hvr6'.lt b hb).1, hdist⟩
            have l6 : w.heap.size + 1 ≤ w6.heap.size := Nat.le_trans (Nat.le_trans l2 hb5.size) hb6'.size
            have hvf6 := hvf6'.base (Nat.le_trans l2 hb5.size)
            have hvr6 := hvr6'.base (Nat.le_trans l2 hb5.size)
            obtain ⟨af6, cf6, rfl, -⟩ := id hvf6.rl
            obtain ⟨ar6, cr6, rfl, -⟩ := id hvr6.rl
            have hc6 : ∀ b o, b < w2.heap.size → w6.cell? ⟨b, o, none⟩ = w2.cell? ⟨b, o, none⟩ := fun b o h => (hb6'.cell (p := ⟨b, o, none⟩) (Nat.lt_of_lt_of_le h hb5.size)).trans (hb5.cell (p := ⟨b, o, none⟩) h))))
    have hb7w := hb6.trans (hb7.mono (Nat.le_succ w.heap.size))
    have HV7 := hid hv7
    clear hc5 hc6 hc7 hv5 hv6 hvf6' hvf6 hvr6' hvr6 hdist hap hv7 h2 hf2 hr2 c0 c1 c2
    obtain ⟨a7, c7, e7, -⟩ := id HV7.out.shape
    rw [show (ns ++ [(⟨kd, fs, row⟩ : Nd)]).length = ns.length + 1 by simp] at e7
    subst e7
    go_wp2_with fail
    refine (iplan_any _ (ns ++ [⟨kd, fs, row⟩]) _ w7 HV7.out.pl).mono ?_
    rintro e w8 ⟨rfl, m8⟩
    have hb8 := m8.below0 hb7w hb7w.size
    by_cases hq : planB (ns ++ [⟨kd, fs, row⟩]) = true
    · rw [hq]
      have eL : L = ns ++ [⟨kd, fs, row⟩] := by rw [HL.out]; unfold addL; rw [if_pos ⟨HP.out, hq⟩]
      have eB : B = true := by rw [HB.out]; unfold addB; rw [HP.out, hq]; rfl
      subst eB
      have HQ := hid eL
      clear hq eL
      go_wp2_with fail
      go_ret2
      refine ⟨_, rfl, ?_, hb8⟩
      rw [HQ.out]
      exact ((HV7.out.mod m8 (.inr (Nat.zero_le _))).up m8.size (Nat.le_refl _)).base (Nat.le_succ _)
    · have hq' : planB (ns ++ [⟨kd, fs, row⟩]) = false := by simpa using hq
      rw [hq']
      have eL : L = [] := by rw [HL.out]; unfold addL; rw [if_neg (fun h => hq h.2)]
      have eB : B = false := by rw [HB.out]; unfold addB; rw [hq', Bool.and_false]
      subst eB
      subst eL
      clear hq hq'
      go_wp2_with fail
      go_ret2
      exact ⟨_, rfl, PR.nil _ _ _ (Nat.le_refl _), hb8⟩
  · have hp' : planB ns = false := by simpa using hp
    rw [hp']
    have eL : L = [] := by rw [HL.out]; unfold addL; rw [if_neg (fun h => hp h.1)]
    have eB : B = false := by rw [HB.out]; unfold addB; rw [hp', Bool.false_and]
    subst eB
    subst eL
    clear hp hp' x0
    go_wp2_with fail
    go_ret2
    exact ⟨_, rfl, PR.nil _ _ _ (Nat.le_refl _), hb2⟩
end Go.Proofs.Yteelobokjidphaa
