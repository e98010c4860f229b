/- Rows are added place by place. No condition. -/
import Derived.Test.YtpemhahingoocaaRows
import Derived.Test.YtpemhahingoocaaArgs
import Derived.Test.YtpemhahingoocaaDrawTwo
import Derived.Test.YtpemhahingoocaaRowAdd
import Derived.Test.YtpemhahingoocaaJoin
import Derived.Test.YtpemhahingoocaaSameRow
import Derived.Test.YtpemhahingoocaaPureRow
namespace Go.Proofs.Ytpemhahingoocaa.fnAdd
open Go.ChangeShapes Go.WideShapes Go.ChangeAt Go.RowKit

set_option maxHeartbeats 4000000 in
theorem walk (v0 : Value) (x0 : List Int) (w : World) (w0 : BL w v0 x0) :
    Calls Try.prog 10 #[v0] w fun e w' => e = .returned (.bool true) ∧ Below w.heap.size w w' := by
  obtain ⟨a0, c0, rfl, -⟩ := id w0
  by_cases hl0 : 1048576 < x0.length
  · go_enter Try.func10, Try.ntmps10
    go_wp2_with fail
    go_ret
    exact ⟨rfl, Below.refl _ _⟩
  have hl0' : x0.length ≤ 1048576 := by omega
  clear hl0
  go_enter Try.func10, Try.ntmps10
  go_wp2_with fail
  refine (drawAdd_any _ x0 w w0).mono ?_
  rintro e w1 ⟨va, vb, xs, ys, rfl, A, B, hxl, hyl, bt⟩
  obtain ⟨aa, ca, rfl, -⟩ := id A
  obtain ⟨ab, cb, rfl, -⟩ := id B
  replace A := A.rr
  replace B := B.rr
  have s1 := bt.size
  cases hok : bothB xs ys
  · have OK := hid hok
    clear hok
    go_wp2_with fail
    refine (iadd_any _ _ xs ys _ A.rl B.rl).mono ?_
    rintro e w2 ⟨vo, rfl, O, b0⟩
    have m2 := Mod.of_below b0
    replace O := O.r
    replace A := A.mod m2 (by omega)
    replace B := B.mod m2 (by omega)
    have s2 := m2.size
    replace bt := m2.below0 bt bt.size
    clear b0
    rw [OK.out]
    go_wp2_with fail
    refine (sadd_any _ _ xs ys _ A.rl B.rl).mono ?_
    rintro e w3 ⟨vw, rfl, W, b0⟩
    have m3 := Mod.of_below b0
    replace W := W.r
    replace A := A.mod m3 (by omega)
    replace B := B.mod m3 (by omega)
    replace O := O.mod m3 (by omega)
    have s3 := m3.size
    replace bt := m3.below0 bt bt.size
    clear b0
    rw [OK.out]
    go_wp2_with fail
    refine (sameRow_m _ _ _ _ _ O.rl W.rl).mono ?_
    rintro e w4 ⟨rfl, m4⟩
    replace A := A.mod m4 (by omega)
    replace B := B.mod m4 (by omega)
    replace O := O.mod m4 (by omega)
    replace W := W.mod m4 (by omega)
    have s4 := m4.size
    replace bt := m4.below0 bt bt.size
    rw [sameB_self]
    go_wp2_with fail
    refine (sameRow_m _ _ _ _ _ O.rl W.rl).mono ?_
    rintro e w5 ⟨rfl, m5⟩
    replace A := A.mod m5 (by omega)
    replace B := B.mod m5 (by omega)
    replace O := O.mod m5 (by omega)
    replace W := W.mod m5 (by omega)
    have s5 := m5.size
    replace bt := m5.below0 bt bt.size
    rw [sameB_self]
    go_wp2_with fail
    go_ret
    exact ⟨rfl, bt⟩
  · obtain ⟨hvx, hvy, hxy⟩ := bothB_parts hok
    have OK := hid hok
    have VX := hid hvx
    have VY := hid hvy
    have XY := hid hxy
    have hx6 := rvB_len hvx
    clear hok hvx hvy hxy
    go_wp2_with fail
    refine (iadd_any _ _ xs ys _ A.rl B.rl).mono ?_
    rintro e w2 ⟨vo, rfl, O, b0⟩
    have m2 := Mod.of_below b0
    replace O := O.r
    replace A := A.mod m2 (by omega)
    replace B := B.mod m2 (by omega)
    have s2 := m2.size
    replace bt := m2.below0 bt bt.size
    clear b0
    rw [OK.out]
    go_wp2_with fail
    refine (sadd_any _ _ xs ys _ A.rl B.rl).mono ?_
    rintro e w3 ⟨vw, rfl, W, b0⟩
    have m3 := Mod.of_below b0
    replace W := W.r
    replace A := A.mod m3 (by omega)
    replace B := B.mod m3 (by omega)
    replace O := O.mod m3 (by omega)
    have s3 := m3.size
    replace bt := m3.below0 bt bt.size
    clear b0
    rw [OK.out]
    go_wp2_with fail
    refine (sameRow_m _ _ _ _ _ O.rl W.rl).mono ?_
    rintro e w4 ⟨rfl, m4⟩
    replace A := A.mod m4 (by omega)
    replace B := B.mod m4 (by omega)
    replace O := O.mod m4 (by omega)
    replace W := W.mod m4 (by omega)
    have s4 := m4.size
    replace bt := m4.below0 bt bt.size
    rw [sameB_self]
    have HG := hid (fun i (hi : i < xs.length) => joinR_get (f := addF) OK.out hi)
    have HL := hid (joinR_length (f := addF) OK.out)
    have HV := hid (add_valid OK.out)
    have HBX := hid (fun k (hk : k < xs.length) => rvB_get VX.out hk)
    have HBY := hid (fun k (hk : k < ys.length) => rvB_get VY.out hk)
    obtain ⟨_, _, hv1, _, _, _, h3⟩ := id A
    obtain ⟨_, _, hv2, _, _, _, h3'⟩ := id B
    simp only [Value.slice.injEq, true_and] at hv1 hv2
    obtain ⟨rfl, rfl⟩ := hv1
    obtain ⟨rfl, rfl⟩ := hv2
    obtain ⟨ao, co, hvo, _, _, h4⟩ := id O.rl
    subst hvo
    have H3 := hid h3
    have H3' := hid h3'
    have H4 := hid h4
    clear h3 h3' h4
    go_wp2_with fail
    have W0 := bt
    go_loopw [9] (fun i wr => ∃ k : Nat, k ≤ xs.length ∧ i = .int .i64 (k : Int) ∧ ∃ n, wr = w4.drewN n) (fun i _ => xs.length - (intOf i).toNat)
    case atStart => exact ⟨0, Nat.zero_le _, rfl, 0, rfl⟩
    case round =>
      obtain ⟨k, hk, rfl, nd, rfl⟩ := hrel
      by_cases hlt : k < xs.length
      · obtain ⟨b, of, rfl, -, hc⟩ := H3.out k hlt
        obtain ⟨b', of', rfl, -, hc'⟩ := H3'.out k (by rw [← XY.out]; exact hlt)
        obtain ⟨bo, oo, rfl, -, hco⟩ := H4.out k (by rw [HL.out]; exact hlt)
        rw [HG.out k hlt] at hco
        obtain ⟨hn1, hn2⟩ := HBX.out k hlt
        obtain ⟨hm1, hm2⟩ := HBY.out k (by rw [← XY.out]; exact hlt)
        obtain ⟨n, hn'⟩ : ∃ n, n = xs.getD k 0 := ⟨_, rfl⟩
        obtain ⟨m, hm'⟩ : ∃ m, m = ys.getD k 0 := ⟨_, rfl⟩
        rw [← hn'] at hc hco hn1 hn2
        rw [← hm'] at hc' hco hm1 hm2
        unfold addF at hco
        have hly : (k : Int) < (ys.length : Int) := by have := XY.out; omega
        have hlo : (k : Int) < ((joinR addF xs ys).length : Int) := by have := HL.out; omega
        have hk0 : (0 : Int) ≤ (k : Int) := by omega
        have e1 : IntKind.i64.wrap (n + m) = n + m := IntWalk.i64_in _ (by omega)
        clear hn' hm'
        by_cases hge : 1009 ≤ n + m
        · have e2 : (n + m) % 1009 = n + m - 1009 := by omega
          rw [e2] at hco
          clear e2
          go_wp2
          go_quiet (fail)
          go_wp2
          go_roundw
          case rel => exact ⟨k + 1, by omega, by go_num, _, by first | rfl | exact World.drewN_drewN _ _ _⟩
          case measure => simp [intOf]; omega
        · have e2 : (n + m) % 1009 = n + m := by omega
          rw [e2] at hco
          clear e2
          go_wp2
          go_quiet (fail)
          go_wp2
          go_roundw
          case rel => exact ⟨k + 1, by omega, by go_num, _, by first | rfl | exact World.drewN_drewN _ _ _⟩
          case measure => simp [intOf]; omega
      · obtain rfl : k = xs.length := by omega
        go_wp2_with fail
        refine (irv_any _ _ (w4.drewN nd) O.rl).mono ?_
        rintro e _ ⟨rfl, rfl⟩
        rw [HV.out]
        have hle : ((joinR addF xs ys).length : Int) == (xs.length : Int) := by rw [HL.out]; simp
        go_wp2_with fail
        go_ret
        exact ⟨rfl, ⟨bt.os, bt.tape, bt.output, bt.size, bt.block⟩⟩

theorem own : ownKnob Try.prog.godebug = none := by kernel_rfl
theorem laidOut : laidOutB Try.prog = true := by kernel_rfl
set_option maxRecDepth 100000 in
theorem lifted (os : Os) (started : os.Started) (H : Type) (enc : TypeId × Value → H) :
    ReturnsInHanded {} Try.checked os 10 .any (Rows.fnAddSpec.pre6 enc Try.prog Try.f10 Rows.fnAddRow.domain false) (Rows.fnAddSpec.post enc Try.prog Try.f10 false true false false) := by
  refine returnsInHanded_of_change (C := Try.checked) own started (by kernel_rfl) Try.func10
    (ChangeSpec.witness6 (enc := enc) (C := Try.checked) false ⟨#[], #[.slice none 0 0], []⟩ 8 (by kernel_rfl) (by kernel_rfl) (by kernel_rfl) (by kernel_rfl)) ?_
  intro W base args ds gs before hval0 hW _ _
  have hval : ∀ (j : Nat) t v, Try.f10.params[j]? = some t → args[j]? = some v → Value.okWide Try.prog W .any base t v := hval0
  have hW' := hW
  obtain ⟨p, q, hA0, hV, rfl, _, _⟩ := hW
  have hA : DataW.TrodAll enc Try.prog W 0 (fun _ => true) true Try.f10.params.toList args.toList ds p := hA0
  rw [Try.params10] at hA hval
  obtain ⟨v0, vs0, d0, ds0, p0, q0, hargs, rfl, rfl, h0, r0⟩ := trodAll_cons hA
  obtain ⟨rfl, rfl, rfl⟩ := trodAll_nil r0
  obtain rfl : args = #[v0] := by cases args; simp_all
  obtain ⟨rfl, rfl⟩ := trodVars_none hV
  have k0 := h0
  have lt0 : ∀ x ∈ p0, x.block < W.heap.size := by obtain ⟨m, hm⟩ := k0; exact DataW.trod_lt m _ _ _ hm
  obtain ⟨x0, w0⟩ := open_bl (hval 0 29 v0 rfl rfl) h0
  clear hA0 hval0
  refine (walk v0 x0 W w0).mono fun e W' ⟨he, bel⟩ => ?_
  subst he
  exact ⟨_, rfl, _, _, _, [], _, [], hW', trodAll_mk1 (shut_bool Try.underlying4 _), (trodAll_cons_mk (Below.trod laidOut (by kernel_rfl) (of_decide_eq_true (by kernel_rfl)) k0 bel lt0) trodAll_mk0), rfl, bel.frame _, fun h => by cases h⟩

theorem over : Rows.fnAddRow.holds Try.pinned (OpenSpec.ofChange Rows.fnAddSpec) :=
  OpenClaim.holds_of_wide 10 Try.f10 rfl rfl rfl rfl rfl rfl rfl ⟨rfl, rfl, rfl, rfl, rfl⟩ rfl rfl rfl rfl rfl (by kernel_rfl) Try.func10 (by kernel_rfl)
    (of_decide_eq_true (by kernel_rfl)) (by unfold Func.isWrapper; first | (rw [if_pos (by decide +kernel)]; kernel_rfl) | (rw [if_neg (by decide +kernel)]; exact ⟨rfl, rfl⟩))
    (fun os started H enc _ => lifted os started H enc)

theorem proved : Rows.FnAddSaid := over
end Go.Proofs.Ytpemhahingoocaa.fnAdd
