/- Each node needs earlier ones. No condition. -/
import Derived.Test.YtpcakoaepmeakaaRows
import Derived.Test.YtpcakoaepmeakaaArgs
import Derived.Test.YtpcakoaepmeakaaDrawPlans
import Derived.Test.YtpcakoaepmeakaaSameRow
import Derived.Test.YtpcakoaepmeakaaPlanLaw
import Derived.Test.YtpcakoaepmeakaaPlanValid
import Derived.Test.YtpcakoaepmeakaaKind
namespace Go.Proofs.Ytpcakoaepmeakaa.fnPlanNodes
open Go.ChangeShapes Go.WideShapes Go.ChangeAt Go.RowKit

set_option maxRecDepth 50000 in
set_option maxHeartbeats 4000000 in
theorem walk (v0 : Value) (x0 : List Int) (w : World) (w0 : BL w v0 x0) :
    Calls Try.prog 7 #[v0] w fun e w' => e = .returned (.bool true) ∧ Below w.heap.size w w' := by
  obtain ⟨a0, c0, rfl, -⟩ := id w0
  by_cases hl0 : 1048576 < x0.length
  · go_enter Try.func7, Try.ntmps7
    go_wp2_with fail
    go_ret
    exact ⟨rfl, Below.refl _ _⟩
  have hl0' : x0.length ≤ 1048576 := by omega
  clear hl0
  go_enter Try.func7, Try.ntmps7
  go_wp2_with fail
  refine (drawValidP_any _ x0 w w0).mono ?_
  rintro e w1 ⟨vp, ns, rfl, hp, hsh, bt⟩
  obtain ⟨ap, cp, rfl, hpl1, hpl2⟩ := hp.shape
  unfold maxLen at hpl2
  have A := hp.pl
  have hl11 := hsh.1
  have s1 := bt.size
  clear hp w0
  go_wp2_with fail
  refine (iplan_any _ ns _ _ A).mono ?_
  rintro e w2 ⟨rfl, m2⟩
  replace A := A.mod m2 (by omega)
  have s2 := m2.size
  replace bt := m2.below0 bt bt.size
  go_wp2_with fail
  refine (splan_any _ ns _ _ A (by omega)).mono ?_
  rintro e w3 ⟨rfl, m3⟩
  replace A := A.mod m3 (by omega)
  have s3 := m3.size
  replace bt := m3.below0 bt bt.size
  cases hpb : planB ns
  · have HPB := hid hpb
    clear hpb
    go_wp2_with fail
    go_ret
    exact ⟨rfl, bt⟩
  · obtain ⟨W, hW⟩ : ∃ W, W = wideF ns := ⟨_, rfl⟩
    have hW0 : 0 ≤ W := by rw [hW]; exact wideF_nonneg ns
    have HN := hid (fun (k : Nat) (hk : k < ns.length) => node_needs hpb hk)
    have HF := hid (fun (k : Nat) (hk : k < ns.length) (q : Nat) (hq : q < (ns.getD k nd0).fs.length) => node_from hpb hk hq)
    have HW := hid (fun (k : Nat) (hk : k < ns.length) (h0 : (ns.getD k nd0).kind = 0) => (node_wide hpb hk h0).trans hW.symm)
    have H1 := hid (fun (hk : 0 < ns.length) => node_first hpb hk)
    obtain ⟨X, hX⟩ : ∃ X : World, X = w3 := ⟨_, rfl⟩
    rw [← hX] at A bt ⊢
    have HA := hid A
    have HBT := hid bt
    clear hpb hW hsh A bt hX
    go_wp2_with fail
    go_loopw [6, 7] (fun wd i wr => ∃ k : Nat, k ≤ ns.length ∧ i = .int .i64 k ∧ ((k = 0 ∧ wd = .int .i64 (-1)) ∨ (0 < k ∧ wd = .int .i64 W)) ∧ Mod 0 0 X wr) (fun _ i _ => ns.length - (intOf i).toNat)
    case atStart => exact ⟨0, Nat.zero_le _, rfl, .inl ⟨rfl, rfl⟩, Mod.refl _ _ _⟩
    case round =>
      obtain ⟨k, hk, rfl, hwd, mx⟩ := hrel
      have A' := HA.out.mod mx (.inr (Nat.zero_le _))
      by_cases hlt : k < ns.length
      · obtain ⟨ap', cp', e1, -, -, hsz, hnd⟩ := A'
        simp only [Value.slice.injEq] at e1
        obtain ⟨rfl, -, rfl⟩ := e1
        obtain ⟨b, o, f, r, rfl, hb, c0, c1, c2, hf, hr⟩ := hnd k hlt
        have hbs := Nat.lt_of_lt_of_le hb hsz
        have hn := HN.out k hlt
        have hfq := HF.out k hlt
        have hwq := HW.out k hlt
        have hk1 := fun (h : k = 0) => H1.out (by omega)
        have hkk : k = 0 → (ns.getD k nd0).kind = 0 := fun h => by subst h; exact hk1 rfl
        obtain ⟨n, hnn⟩ : ∃ n, n = ns.getD k nd0 := ⟨_, rfl⟩
        rw [← hnn] at c0 hf hr hn hfq hwq hkk
        obtain ⟨kd, fs, row⟩ := n
        simp only at c0 hf hr hn hfq hwq hkk
        obtain ⟨af, cf, rfl, hf1, hf2, hf3, hf4⟩ := id hf
        obtain ⟨ar, cr, rfl, -⟩ := id hr
        unfold maxLen at hf2
        have HFQ := hid hfq
        have HWQ := hid hwq
        have HKK := hid hkk
        have HF4 := hid hf4
        have k0 : (0 : Int) ≤ (k : Int) := by omega
        have k1 : (k : Int) < (ns.length : Int) := by omega
        have HNE := hid (show ((fs.length : Int) != knI kd) = false by simp [hn])
        have HWD := hid hwd
        clear hnd hnn hn hfq hwq hkk hk1 hf4 hwd
        go_wp2_with fail
        go_region_held3 (fun w' => w'.cell? ⟨b, o + k * 3, none⟩ = some (.int .i64 kd) ∧ w'.cell? ⟨b, o + k * 3 + 1, none⟩ = some (.slice af fs.length cf) ∧ w'.cell? ⟨b, o + k * 3 + 2, none⟩ = some (.slice ar row.length cr))
          (first | go_keep | (go_split_ands; exact ⟨(World.cell?_of_block (a := ⟨b, o + k * 3, none⟩) (hm5.block b hbs (.inr (Nat.zero_le _)))).trans c0, (World.cell?_of_block (a := ⟨b, o + k * 3 + 1, none⟩) (hm5.block b hbs (.inr (Nat.zero_le _)))).trans c1, (World.cell?_of_block (a := ⟨b, o + k * 3 + 2, none⟩) (hm5.block b hbs (.inr (Nat.zero_le _)))).trans c2⟩))
          (first
            | ((go_at_call 21; refine (ikn_any kd wr.drew).mono ?_; rintro e w5 ⟨rfl, hm5⟩))
            | fail)
        have d0 := (World.cell?_of_block (a := ⟨b, o + k * 3, none⟩) (hm5.block b hbs (.inr (Nat.zero_le _)))).trans c0
        have d1 := (World.cell?_of_block (a := ⟨b, o + k * 3 + 1, none⟩) (hm5.block b hbs (.inr (Nat.zero_le _)))).trans c1
        have d2 := (World.cell?_of_block (a := ⟨b, o + k * 3 + 2, none⟩) (hm5.block b hbs (.inr (Nat.zero_le _)))).trans c2
        have m05 := (Mod.drewN wr 1).trans hm5
        have mx5 := mx.trans m05
        have hne := HNE.out
        obtain ⟨af', cf', e6, -, -, -, hf5⟩ := hf.mod m05 (.inr (Nat.zero_le _))
        simp only [Value.slice.injEq] at e6
        obtain ⟨rfl, -, rfl⟩ := e6
        have HF5 := hid hf5
        clear hf5 HF4
        clear c0 c1 c2 hr hf
        go_wp2_with fail
        go_loopw [8] (fun i w' => ∃ q : Nat, q ≤ fs.length ∧ i = .int .i64 q ∧ w' = w5) (fun i _ => fs.length - (intOf i).toNat)
        case atStart => exact ⟨0, Nat.zero_le _, rfl, rfl⟩
        case round =>
          obtain ⟨q, hq, rfl, rfl⟩ := hrel
          by_cases hqt : q < fs.length
          · obtain ⟨b', o', rfl, -, hcf⟩ := HF5.out q hqt
            obtain ⟨q0, q1⟩ := HFQ.out q hqt
            generalize fs.getD q 0 = x at hcf q0 q1
            have e0 : ¬ (x < 0) := by omega
            have e1 : decide ((k : Int) ≤ x) = false := decide_eq_false (by omega)
            go_wp2_with fail
            go_roundw
            case rel => exact ⟨q + 1, by omega, by go_num, by trivial⟩
            case measure => simp [intOf]; omega
          · obtain rfl : q = fs.length := by omega
            by_cases hz : kd = 0
            · have hrw := HWQ.out hz
              subst hz
              have HRW := hid hrw
              have hrn : ((row.length : Int) != W) = false := by simp [hrw]
              clear hrw
              rcases HWD.out with ⟨hk0, rfl⟩ | ⟨hk0, rfl⟩
              · clear hk0
                go_wp2_with fail
                go_roundw
                case rel => exact ⟨k + 1, by omega, by go_num, .inr ⟨by omega, by rw [HRW.out]⟩, mx5⟩
                case measure => simp [intOf]; omega
              · go_wp2_with fail
                go_roundw
                case rel => exact ⟨k + 1, by omega, by go_num, .inr ⟨by omega, by rw [HRW.out]⟩, mx5⟩
                case measure => simp [intOf]; omega
            · have hkz : (kd == 0) = false := by simpa using hz
              have hk0 : 0 < k := by
                rcases Nat.eq_zero_or_pos k with h | h
                · exact absurd (HKK.out h) hz
                · exact h
              rcases HWD.out with ⟨h, _⟩ | ⟨_, rfl⟩
              · omega
              · clear hz
                go_wp2_with fail
                go_roundw
                case rel => exact ⟨k + 1, by omega, by go_num, .inr ⟨by omega, rfl⟩, mx5⟩
                case measure => simp [intOf]; omega
      · obtain rfl : k = ns.length := by omega
        have HBX := hid (mx.below0 HBT.out HBT.out.size)
        rcases hwd with ⟨h0, rfl⟩ | ⟨h0, rfl⟩
        · have hz : ((ns.length : Int) == 0) = true := by simp [h0]
          clear h0
          go_wp2_with fail
          go_ret
          exact ⟨rfl, HBX.out⟩
        · have hz : ((ns.length : Int) == 0) = false := by rw [beq_eq_false_iff_ne]; omega
          go_wp2_with fail
          go_ret
          exact ⟨by simp; try omega, HBX.out⟩

theorem own : ownKnob Try.prog.godebug = none := by kernel_rfl
theorem laidOut : laidOutB Try.prog = true := by kernel_rfl
set_option maxRecDepth 100000 in
theorem lifted (os : Os) (started : os.Started) (H : Type) (enc : TypeId × Value → H) :
    ReturnsInHanded {} Try.checked os 7 .any (Rows.fnPlanNodesSpec.pre6 enc Try.prog Try.f7 Rows.fnPlanNodesRow.domain false) (Rows.fnPlanNodesSpec.post enc Try.prog Try.f7 false true false false) := by
  refine returnsInHanded_of_change (C := Try.checked) own started (by kernel_rfl) Try.func7
    (ChangeSpec.witness6 (enc := enc) (C := Try.checked) false ⟨#[], #[.slice none 0 0], []⟩ 8 (by kernel_rfl) (by kernel_rfl) (by kernel_rfl) (by kernel_rfl)) ?_
  intro W base args ds gs before hval0 hW _ _
  have hval : ∀ (j : Nat) t v, Try.f7.params[j]? = some t → args[j]? = some v → Value.okWide Try.prog W .any base t v := hval0
  have hW' := hW
  obtain ⟨p, q, hA0, hV, rfl, _, _⟩ := hW
  have hA : DataW.TrodAll enc Try.prog W 0 (fun _ => true) true Try.f7.params.toList args.toList ds p := hA0
  rw [Try.params7] at hA hval
  obtain ⟨v0, vs0, d0, ds0, p0, q0, hargs, rfl, rfl, h0, r0⟩ := trodAll_cons hA
  obtain ⟨rfl, rfl, rfl⟩ := trodAll_nil r0
  obtain rfl : args = #[v0] := by cases args; simp_all
  obtain ⟨rfl, rfl⟩ := trodVars_none hV
  have k0 := h0
  have lt0 : ∀ x ∈ p0, x.block < W.heap.size := by obtain ⟨m, hm⟩ := k0; exact DataW.trod_lt m _ _ _ hm
  obtain ⟨x0, w0⟩ := open_bl (hval 0 22 v0 rfl rfl) h0
  clear hA0 hval0
  refine (walk v0 x0 W w0).mono fun e W' ⟨he, bel⟩ => ?_
  subst he
  exact ⟨_, rfl, _, _, _, [], _, [], hW', trodAll_mk1 (shut_bool Try.underlying4 _), (trodAll_cons_mk (Below.trod laidOut (by kernel_rfl) (of_decide_eq_true (by kernel_rfl)) k0 bel lt0) trodAll_mk0), rfl, bel.frame _, fun h => by cases h⟩

theorem over : Rows.fnPlanNodesRow.holds Try.pinned (OpenSpec.ofChange Rows.fnPlanNodesSpec) :=
  OpenClaim.holds_of_wide 7 Try.f7 rfl rfl rfl rfl rfl rfl rfl ⟨rfl, rfl, rfl, rfl, rfl⟩ rfl rfl rfl rfl rfl (by kernel_rfl) Try.func7 (by kernel_rfl)
    (of_decide_eq_true (by kernel_rfl)) (by unfold Func.isWrapper; first | (rw [if_pos (by decide +kernel)]; kernel_rfl) | (rw [if_neg (by decide +kernel)]; exact ⟨rfl, rfl⟩))
    (fun os started H enc _ => lifted os started H enc)

theorem proved : Rows.FnPlanNodesSaid := over
end Go.Proofs.Ytpcakoaepmeakaa.fnPlanNodes
