/- What is ready needs what is done. No condition. -/
import Derived.Test.YthdhjlefkdfkkaaRows
import Derived.Test.YthdhjlefkdfkkaaArgs
import Derived.Test.YthdhjlefkdfkkaaDrawPlans
import Derived.Test.YthdhjlefkdfkkaaSameRow
import Derived.Test.YthdhjlefkdfkkaaPlanLaw
import Derived.Test.YthdhjlefkdfkkaaUse
import Derived.Test.YthdhjlefkdfkkaaOrder
import Derived.Test.YthdhjlefkdfkkaaDrawOrder
import Derived.Test.YthdhjlefkdfkkaaOrderLaw
namespace Go.Proofs.Ythdhjlefkdfkkaa.fnReady
open Go.ChangeShapes Go.WideShapes Go.ChangeAt Go.RowKit

set_option maxRecDepth 50000 in
set_option maxHeartbeats 4000000 in
theorem walk (v0 : Value) (x0 : List Int) (w : World) (w0 : BL w v0 x0) :
    Calls Try.prog 12 #[v0] w fun e w' => e = .returned (.bool true) ∧ Below w.heap.size w w' := by
  obtain ⟨a0, c0, rfl, -⟩ := id w0
  by_cases hl0 : 1048576 < x0.length
  · go_enter Try.func12, Try.ntmps12
    go_wp2_with fail
    go_ret
    exact ⟨rfl, Below.refl _ _⟩
  have hl0' : x0.length ≤ 1048576 := by omega
  clear hl0
  go_enter Try.func12, Try.ntmps12
  go_wp2_with fail
  refine (drawReadyOf_any _ x0 w w0).mono ?_
  rintro e w1 ⟨vp, vd, ns, done, rfl, hp, hsh, hd0, hdl, bt⟩
  obtain ⟨ap, cp, rfl, hpl1, hpl2⟩ := hp.shape
  unfold maxLen at hpl2
  have A := hp.pl
  have D := hd0.rr
  obtain ⟨ad, cd, rfl, -, hdc, -⟩ := id hd0
  unfold maxLen at hdc
  have hl11 := hsh.1
  have s1 := bt.size
  clear hp w0 hd0
  go_wp2_with fail
  refine (iready_any _ _ ns done _ _ A D.rl).mono ?_
  rintro e w2 ⟨vo, rfl, O, b0⟩
  have m2 := Mod.of_below b0
  replace O := O.r
  replace A := A.mod m2 (by omega)
  replace D := D.mod m2 (by omega)
  have s2 := m2.size
  replace bt := m2.below0 bt bt.size
  clear b0
  go_wp2_with fail
  refine (sready_any _ _ ns done _ _ A D.rl (by omega)).mono ?_
  rintro e w3 ⟨vw, rfl, W, b0⟩
  have m3 := Mod.of_below b0
  replace W := W.r
  replace A := A.mod m3 (by omega)
  replace D := D.mod m3 (by omega)
  replace O := O.mod m3 (by omega)
  have s3 := m3.size
  replace bt := m3.below0 bt bt.size
  clear b0
  go_wp2_with fail
  refine (sameRow_m _ _ _ _ _ O.rl W.rl).mono ?_
  rintro e w4 ⟨rfl, m4⟩
  replace A := A.mod m4 (by omega)
  replace D := D.mod m4 (by omega)
  replace O := O.mod m4 (by omega)
  replace W := W.mod m4 (by omega)
  have s4 := m4.size
  replace bt := m4.below0 bt bt.size
  rw [sameB_self]
  go_wp2_with fail
  refine (splan_any _ ns _ _ A (by omega)).mono ?_
  rintro e w5 ⟨rfl, m5⟩
  replace A := A.mod m5 (by omega)
  replace D := D.mod m5 (by omega)
  replace O := O.mod m5 (by omega)
  replace W := W.mod m5 (by omega)
  have s5 := m5.size
  replace bt := m5.below0 bt bt.size
  cases hpb : planB ns
  · have HPB := hid hpb
    clear hpb
    go_wp2_with fail
    refine (sameRow_m _ _ _ _ _ O.rl W.rl).mono ?_
    rintro e w6 ⟨rfl, m6⟩
    replace A := A.mod m6 (by omega)
    replace D := D.mod m6 (by omega)
    replace O := O.mod m6 (by omega)
    replace W := W.mod m6 (by omega)
    have s6 := m6.size
    replace bt := m6.below0 bt bt.size
    rw [sameB_self]
    go_wp2_with fail
    go_ret
    exact ⟨rfl, bt⟩
  · have hur : readyR ns done = numL (readyN ns done ns.length) := by unfold readyR; rw [if_pos hpb]
    rw [hur] at O
    obtain ⟨ao, co, e', ho1, ho2, ho3⟩ := O.rl
    rw [numL_length] at e' ho1 ho3
    subst e'
    unfold maxLen at ho2
    obtain ⟨X, hX⟩ : ∃ X : World, X = w5 := ⟨_, rfl⟩
    rw [← hX] at A D bt ho3 ⊢
    have HA := hid A
    have HD := hid D
    have HO3 := hid ho3
    have HBT := hid bt
    clear hpb hur O W A D ho3 bt hX hsh
    go_wp2_with fail
    go_loopw [7, 8] (fun q i wr => ∃ k : Nat, k ≤ ns.length ∧ i = .int .i64 (k : Int) ∧ q = .int .i64 ((readyN ns done k).length : Nat) ∧ wr = X) (fun _ i _ => ns.length - (intOf i).toNat)
    case atStart => exact ⟨0, Nat.zero_le _, rfl, rfl, rfl⟩
    case round =>
      obtain ⟨k, hk, rfl, rfl, rfl⟩ := hrel
      by_cases hlt : k < ns.length
      · obtain ⟨ap', cp', e1, -, -, -, hnd⟩ := id HA.out
        simp only [Value.slice.injEq] at e1
        obtain ⟨rfl, -, rfl⟩ := e1
        obtain ⟨b, o, f, r, rfl, hb, c0, c1, c2, hf, hr⟩ := hnd k hlt
        obtain ⟨fs, hfs⟩ : ∃ fs, fs = fsN ns k := ⟨_, rfl⟩
        have hfs' : fs = (ns.getD k nd0).fs := hfs
        rw [← hfs'] at hf
        obtain ⟨af, cf, rfl, hf1, hf2, -, hf3⟩ := id hf
        unfold maxLen at hf2
        have hsu := readyN_succ ns done k
        have hul := readyN_length ns done k
        have hrb : readyB ns done k = (!hasB done k && fs.all (hasB done)) := by unfold readyB; rw [hfs]
        have k0 : (0 : Int) ≤ (k : Int) := by omega
        have k1 : (k : Int) < (ns.length : Int) := by omega
        have HSU := hid hsu
        have HRB := hid hrb
        have HFS := hid hf3
        obtain ⟨s0, hs0⟩ : ∃ s0, s0 = hasB done (k : Int) := ⟨_, rfl⟩
        have HS0 := hid hs0
        clear hnd c0 c2 hr hfs' hsu hrb hfs hs0 hf3
        go_wp2_with fail
        refine (hasInt_any _ done k wr HD.out.rl).mono ?_
        rintro e _ ⟨rfl, rfl⟩
        rw [← HS0.out]
        go_wp2_with fail
        go_loopw [9, 10] (fun s q wr' => ∃ j : Nat, j ≤ fs.length ∧ q = .int .i64 (j : Int) ∧ s = .bool (!s0 && (fs.take j).all (hasB done)) ∧ wr' = wr) (fun _ q _ => fs.length - (intOf q).toNat)
        case atStart => exact ⟨0, Nat.zero_le _, rfl, by simp, rfl⟩
        case round =>
          obtain ⟨j, hj, rfl, rfl, rfl⟩ := hrel
          by_cases hjt : j < fs.length
          · obtain ⟨bf, of, rfl, hbf, hcf⟩ := HFS.out j hjt
            have HAT := hid (all_take (f := hasB done) hjt)
            generalize fs.getD j 0 = x at hcf HAT
            obtain ⟨s, hs⟩ : ∃ s, s = (!s0 && (fs.take j).all (hasB done)) := ⟨_, rfl⟩
            rw [← hs]
            have HS := hid hs
            have j0 : (0 : Int) ≤ (j : Int) := by omega
            have j1 : (j : Int) < (fs.length : Int) := by omega
            clear hs
            cases s
            · go_wp2_with fail
              go_roundw
              case rel => exact ⟨j + 1, by omega, by go_num, by rw [HAT.out, ← Bool.and_assoc, ← HS.out]; rfl, by trivial⟩
              case measure => simp [intOf]; omega
            · obtain ⟨bb, hbb⟩ : ∃ bb, bb = hasB done x := ⟨_, rfl⟩
              have HB := hid hbb
              clear hbb
              go_wp2_with fail
              refine (hasInt_any _ done x _ HD.out.rl).mono ?_
              rintro e _ ⟨rfl, rfl⟩
              rw [← HB.out]
              go_wp2_with fail
              go_roundw
              case rel => exact ⟨j + 1, by omega, by go_num, by rw [HAT.out, ← Bool.and_assoc, ← HS.out, ← HB.out]; rfl, by trivial⟩
              case measure => simp [intOf]; omega
          · obtain rfl : j = fs.length := by omega
            rw [List.take_length, HS0.out, ← HRB.out]
            cases hh : readyB ns done k
            · have hsu := HSU.out
              rw [hh, if_neg (by simp), List.append_nil] at hsu
              have HSV := hid hsu
              clear hsu hh
              go_wp2_with fail
              go_roundw
              case rel => exact ⟨k + 1, by omega, by go_num, by rw [HSV.out], by trivial⟩
              case measure => simp [intOf]; omega
            · obtain ⟨hq1, hq2⟩ := filter_at (p := readyB ns done) hh hlt
              change (readyN ns done k).length < (readyN ns done ns.length).length at hq1
              change (readyN ns done ns.length).getD (readyN ns done k).length 0 = k at hq2
              obtain ⟨bo, oo, rfl, hbo, hco⟩ := HO3.out _ hq1
              rw [numL_getD hq1, hq2] at hco
              have hsu := HSU.out
              rw [hh, if_pos rfl] at hsu
              have hsl : (readyN ns done (k + 1)).length = (readyN ns done k).length + 1 := by rw [hsu]; simp
              have HSL := hid hsl
              have q0 : ¬ ((readyN ns done ns.length).length : Int) ≤ ((readyN ns done k).length : Int) := by omega
              have q1 : decide ((readyN ns done ns.length).length ≤ (readyN ns done k).length) = false := decide_eq_false (by omega)
              clear hsu hh hq2 hsl
              go_wp2_with fail
              go_roundw
              case rel => exact ⟨k + 1, by omega, by go_num, by rw [HSL.out]; go_num, by trivial⟩
              case measure => simp [intOf]; omega
      · obtain rfl : k = ns.length := by omega
        go_wp2_with fail
        go_ret
        exact ⟨by simp, HBT.out⟩

theorem own : ownKnob Try.prog.godebug = none := by kernel_rfl
theorem laidOut : laidOutB Try.prog = true := by kernel_rfl
set_option maxRecDepth 100000 in
theorem lifted (os : Os) (started : os.Started) (H : Type) (enc : TypeId × Value → H) :
    ReturnsInHanded {} Try.checked os 12 .any (Rows.fnReadySpec.pre6 enc Try.prog Try.f12 Rows.fnReadyRow.domain false) (Rows.fnReadySpec.post enc Try.prog Try.f12 false true false false) := by
  refine returnsInHanded_of_change (C := Try.checked) own started (by kernel_rfl) Try.func12
    (ChangeSpec.witness6 (enc := enc) (C := Try.checked) false ⟨#[], #[.slice none 0 0], []⟩ 8 (by kernel_rfl) (by kernel_rfl) (by kernel_rfl) (by kernel_rfl)) ?_
  intro W base args ds gs before hval0 hW _ _
  have hval : ∀ (j : Nat) t v, Try.f12.params[j]? = some t → args[j]? = some v → Value.okWide Try.prog W .any base t v := hval0
  have hW' := hW
  obtain ⟨p, q, hA0, hV, rfl, _, _⟩ := hW
  have hA : DataW.TrodAll enc Try.prog W 0 (fun _ => true) true Try.f12.params.toList args.toList ds p := hA0
  rw [Try.params12] at hA hval
  obtain ⟨v0, vs0, d0, ds0, p0, q0, hargs, rfl, rfl, h0, r0⟩ := trodAll_cons hA
  obtain ⟨rfl, rfl, rfl⟩ := trodAll_nil r0
  obtain rfl : args = #[v0] := by cases args; simp_all
  obtain ⟨rfl, rfl⟩ := trodVars_none hV
  have k0 := h0
  have lt0 : ∀ x ∈ p0, x.block < W.heap.size := by obtain ⟨m, hm⟩ := k0; exact DataW.trod_lt m _ _ _ hm
  obtain ⟨x0, w0⟩ := open_bl (hval 0 22 v0 rfl rfl) h0
  clear hA0 hval0
  refine (walk v0 x0 W w0).mono fun e W' ⟨he, bel⟩ => ?_
  subst he
  exact ⟨_, rfl, _, _, _, [], _, [], hW', trodAll_mk1 (shut_bool Try.underlying4 _), (trodAll_cons_mk (Below.trod laidOut (by kernel_rfl) (of_decide_eq_true (by kernel_rfl)) k0 bel lt0) trodAll_mk0), rfl, bel.frame _, fun h => by cases h⟩

theorem over : Rows.fnReadyRow.holds Try.pinned (OpenSpec.ofChange Rows.fnReadySpec) :=
  OpenClaim.holds_of_wide 12 Try.f12 rfl rfl rfl rfl rfl rfl rfl ⟨rfl, rfl, rfl, rfl, rfl⟩ rfl rfl rfl rfl rfl (by kernel_rfl) Try.func12 (by kernel_rfl)
    (of_decide_eq_true (by kernel_rfl)) (by unfold Func.isWrapper; first | (rw [if_pos (by decide +kernel)]; kernel_rfl) | (rw [if_neg (by decide +kernel)]; exact ⟨rfl, rfl⟩))
    (fun os started H enc _ => lifted os started H enc)

theorem proved : Rows.FnReadySaid := over
end Go.Proofs.Ythdhjlefkdfkkaa.fnReady
