/- Rows that may be exchanged lead to the same. No condition. -/
import Derived.Test.YtpcakoaepmeakaaRows
import Derived.Test.YtpcakoaepmeakaaArgs
import Derived.Test.YtpcakoaepmeakaaRunHelp
namespace Go.Proofs.Ytpcakoaepmeakaa.fnKindRunSwap
open Go.ChangeShapes Go.WideShapes Go.ChangeAt Go.RowKit

set_option maxHeartbeats 4000000 in
theorem walk (v0 : Value) (x0 : List Int) (w : World) (w0 : BL w v0 x0) :
    Calls Try.prog 3 #[v0] w fun e w' => e = .returned (.bool true) ∧ Below w.heap.size w w' := by
  obtain ⟨a0, c0, rfl, -⟩ := id w0
  by_cases hl0 : 1048576 < x0.length
  · go_enter Try.func3, Try.ntmps3
    go_wp2_with fail
    go_ret
    exact ⟨rfl, Below.refl _ _⟩
  have hl0' : x0.length ≤ 1048576 := by omega
  clear hl0
  go_enter Try.func3, Try.ntmps3
  go_wp2_with fail
  refine (drawRun_any _ x0 w w0).mono ?_
  rintro e w1 ⟨k, va, xss, rfl, A, hxl, hk0, hk5, bt⟩
  obtain ⟨aa, ca, rfl, hca, -⟩ := id A
  have s1 := bt.size
  cases hok : krB k xss
  · have OK := hid hok
    clear hok
    go_wp2_with fail
    refine (ikr_any k _ _ xss _ A).mono ?_
    rintro e w2 ⟨vo, rfl, O, b0⟩
    have m2 := Mod.of_below b0
    replace O := O.r
    replace A := A.mod m2 (by omega)
    have s2 := m2.size
    replace bt := m2.below0 bt bt.size
    clear b0
    rw [OK.out]
    go_wp2_with fail
    refine (skr_any k _ _ xss _ A).mono ?_
    rintro e w3 ⟨vw, rfl, W, b0⟩
    have m3 := Mod.of_below b0
    replace W := W.r
    replace A := A.mod m3 (by omega)
    replace O := O.mod m3 (by omega)
    have s3 := m3.size
    replace bt := m3.below0 bt bt.size
    clear b0
    rw [OK.out]
    go_wp2_with fail
    refine (sameRow_m _ _ _ _ _ O.rl W.rl).mono ?_
    rintro e w4 ⟨rfl, m4⟩
    replace A := A.mod m4 (by omega)
    replace O := O.mod m4 (by omega)
    replace W := W.mod m4 (by omega)
    have s4 := m4.size
    replace bt := m4.below0 bt bt.size
    rw [sameB_self]
    go_wp2_with fail
    refine (sameRow_m _ _ _ _ _ O.rl W.rl).mono ?_
    rintro e w5 ⟨rfl, m5⟩
    replace A := A.mod m5 (by omega)
    replace O := O.mod m5 (by omega)
    replace W := W.mod m5 (by omega)
    have s5 := m5.size
    replace bt := m5.below0 bt bt.size
    rw [sameB_self]
    go_wp2_with fail
    go_ret
    exact ⟨rfl, bt⟩
  rcases krB_true hok with ⟨xa, xb, rfl, hb, hk⟩ | ⟨xa, rfl, hb, hk⟩
  · have OK := hid hok
    have HB := hid hb
    clear hok hb
    go_wp2_with fail
    refine (ikr_any k _ _ _ _ A).mono ?_
    rintro e w2 ⟨vo, rfl, O, b0⟩
    have m2 := Mod.of_below b0
    replace O := O.r
    replace A := A.mod m2 (by omega)
    have s2 := m2.size
    replace bt := m2.below0 bt bt.size
    clear b0
    rw [OK.out]
    go_wp2_with fail
    refine (skr_any k _ _ _ _ A).mono ?_
    rintro e w3 ⟨vw, rfl, W, b0⟩
    have m3 := Mod.of_below b0
    replace W := W.r
    replace A := A.mod m3 (by omega)
    replace O := O.mod m3 (by omega)
    have s3 := m3.size
    replace bt := m3.below0 bt bt.size
    clear b0
    rw [OK.out]
    go_wp2_with fail
    refine (sameRow_m _ _ _ _ _ O.rl W.rl).mono ?_
    rintro e w4 ⟨rfl, m4⟩
    replace A := A.mod m4 (by omega)
    replace O := O.mod m4 (by omega)
    replace W := W.mod m4 (by omega)
    have s4 := m4.size
    replace bt := m4.below0 bt bt.size
    rw [sameB_self]
    go_wp2_with fail
    refine (iks_any _ _).mono ?_
    rintro e w5 ⟨rfl, m5⟩
    replace A := A.mod m5 (by omega)
    replace O := O.mod m5 (by omega)
    have s5 := m5.size
    replace bt := m5.below0 bt bt.size
    have hs : ksB k = true := by rcases hk with rfl | rfl <;> rfl
    rw [hs]
    obtain ⟨_, _, e', h1, h2, h3, h4⟩ := id A
    cases e'
    obtain ⟨b, o, u, rfl, hb, hc, hr⟩ := h4 0 (by simp)
    rw [Nat.add_zero] at hc
    obtain ⟨b', o', u', e', hb', hc', hr'⟩ := h4 1 (by simp)
    simp only [Option.some.injEq, Addr.mk.injEq, and_true] at e'
    obtain ⟨rfl, rfl⟩ := e'
    have b0 : 0 < ([xa, xb] : List (List Int)).length := by simp
    have b1 : (0 : Int) < (([xa, xb] : List (List Int)).length : Int) := by simp
    have b2 : (1 : Int) < (([xa, xb] : List (List Int)).length : Int) := by simp
    clear h4
    simp only [List.getD_cons_zero, List.getD_cons_succ] at hr hc hr' hc'
    obtain ⟨au, cu, rfl, -⟩ := id hr
    obtain ⟨au', cu', rfl, -⟩ := id hr'
    have hbs : b < w5.heap.size := by omega
    go_wp2_with fail
    set_option maxRecDepth 50000 in
    go_region_held3 (fun w' => w'.cell? ⟨b, o, none⟩ = some (.slice au xa.length cu) ∧ w'.cell? ⟨b, o + 1, none⟩ = some (.slice au' xb.length cu')) (first | go_keep | (go_split_ands; exact ⟨(World.cell?_of_block (a := ⟨b, o, none⟩) (mx.block b hbs (.inr (Nat.zero_le _)))).trans hc, (World.cell?_of_block (a := ⟨b, o + 1, none⟩) (mx.block b hbs (.inr (Nat.zero_le _)))).trans hc'⟩))
      ((go_at_call 16; refine (ikr_any k _ _ _ _ (RS.two w5.drew _ _ xb xa (hr'.up h3 (Nat.le_refl _)) (hr.up h3 (Nat.le_refl _)))).mono ?_; rintro e wx ⟨vx, rfl, X, b0⟩; have mx : Mod 0 0 w5 wx := ((Mod.drewN _ 1).trans (Mod.alloc _ _)).trans (Mod.of_below b0)))
    replace X := X.r
    replace O := O.mod mx (by omega)
    replace bt := mx.below0 bt bt.size
    clear b0
    rw [krB_two hk, bothB_comm, HB.out]
    have hx : krL k [xb, xa] = krL k [xa, xb] := by
      rcases hk with rfl | rfl
      · rw [krL_two_add, krL_two_add, joinR_comm addF_comm]
      · rw [krL_two_mul, krL_two_mul, joinR_comm mulF_comm]
    rw [hx] at X
    generalize krL k [xa, xb] = zs at X O
    go_wp2_with fail
    refine (sameRow_m _ _ _ _ _ X.rl O.rl).mono ?_
    rintro e w6 ⟨rfl, m6⟩
    replace O := O.mod m6 (by omega)
    have s6 := m6.size
    replace bt := m6.below0 bt bt.size
    rw [sameB_self]
    go_wp2_with fail
    go_ret
    exact ⟨rfl, bt⟩
  · have OK := hid hok
    have HB := hid hb
    clear hok hb
    go_wp2_with fail
    refine (ikr_any k _ _ _ _ A).mono ?_
    rintro e w2 ⟨vo, rfl, O, b0⟩
    have m2 := Mod.of_below b0
    replace O := O.r
    replace A := A.mod m2 (by omega)
    have s2 := m2.size
    replace bt := m2.below0 bt bt.size
    clear b0
    rw [OK.out]
    go_wp2_with fail
    refine (skr_any k _ _ _ _ A).mono ?_
    rintro e w3 ⟨vw, rfl, W, b0⟩
    have m3 := Mod.of_below b0
    replace W := W.r
    replace A := A.mod m3 (by omega)
    replace O := O.mod m3 (by omega)
    have s3 := m3.size
    replace bt := m3.below0 bt bt.size
    clear b0
    rw [OK.out]
    go_wp2_with fail
    refine (sameRow_m _ _ _ _ _ O.rl W.rl).mono ?_
    rintro e w4 ⟨rfl, m4⟩
    replace A := A.mod m4 (by omega)
    replace O := O.mod m4 (by omega)
    replace W := W.mod m4 (by omega)
    have s4 := m4.size
    replace bt := m4.below0 bt bt.size
    rw [sameB_self]
    go_wp2_with fail
    refine (iks_any _ _).mono ?_
    rintro e w5 ⟨rfl, m5⟩
    replace A := A.mod m5 (by omega)
    replace O := O.mod m5 (by omega)
    have s5 := m5.size
    replace bt := m5.below0 bt bt.size
    have hs : ksB k = false := by rcases hk with rfl | rfl | rfl <;> rfl
    rw [hs]
    go_wp2_with fail
    go_ret
    exact ⟨rfl, bt⟩

theorem own : ownKnob Try.prog.godebug = none := by kernel_rfl
theorem laidOut : laidOutB Try.prog = true := by kernel_rfl
set_option maxRecDepth 100000 in
theorem lifted (os : Os) (started : os.Started) (H : Type) (enc : TypeId × Value → H) :
    ReturnsInHanded {} Try.checked os 3 .any (Rows.fnKindRunSwapSpec.pre6 enc Try.prog Try.f3 Rows.fnKindRunSwapRow.domain false) (Rows.fnKindRunSwapSpec.post enc Try.prog Try.f3 false true false false) := by
  refine returnsInHanded_of_change (C := Try.checked) own started (by kernel_rfl) Try.func3
    (ChangeSpec.witness6 (enc := enc) (C := Try.checked) false ⟨#[], #[.slice none 0 0], []⟩ 8 (by kernel_rfl) (by kernel_rfl) (by kernel_rfl) (by kernel_rfl)) ?_
  intro W base args ds gs before hval0 hW _ _
  have hval : ∀ (j : Nat) t v, Try.f3.params[j]? = some t → args[j]? = some v → Value.okWide Try.prog W .any base t v := hval0
  have hW' := hW
  obtain ⟨p, q, hA0, hV, rfl, _, _⟩ := hW
  have hA : DataW.TrodAll enc Try.prog W 0 (fun _ => true) true Try.f3.params.toList args.toList ds p := hA0
  rw [Try.params3] at hA hval
  obtain ⟨v0, vs0, d0, ds0, p0, q0, hargs, rfl, rfl, h0, r0⟩ := trodAll_cons hA
  obtain ⟨rfl, rfl, rfl⟩ := trodAll_nil r0
  obtain rfl : args = #[v0] := by cases args; simp_all
  obtain ⟨rfl, rfl⟩ := trodVars_none hV
  have k0 := h0
  have lt0 : ∀ x ∈ p0, x.block < W.heap.size := by obtain ⟨m, hm⟩ := k0; exact DataW.trod_lt m _ _ _ hm
  obtain ⟨x0, w0⟩ := open_bl (hval 0 22 v0 rfl rfl) h0
  clear hA0 hval0
  refine (walk v0 x0 W w0).mono fun e W' ⟨he, bel⟩ => ?_
  subst he
  exact ⟨_, rfl, _, _, _, [], _, [], hW', trodAll_mk1 (shut_bool Try.underlying4 _), (trodAll_cons_mk (Below.trod laidOut (by kernel_rfl) (of_decide_eq_true (by kernel_rfl)) k0 bel lt0) trodAll_mk0), rfl, bel.frame _, fun h => by cases h⟩

theorem over : Rows.fnKindRunSwapRow.holds Try.pinned (OpenSpec.ofChange Rows.fnKindRunSwapSpec) :=
  OpenClaim.holds_of_wide 3 Try.f3 rfl rfl rfl rfl rfl rfl rfl ⟨rfl, rfl, rfl, rfl, rfl⟩ rfl rfl rfl rfl rfl (by kernel_rfl) Try.func3 (by kernel_rfl)
    (of_decide_eq_true (by kernel_rfl)) (by unfold Func.isWrapper; first | (rw [if_pos (by decide +kernel)]; kernel_rfl) | (rw [if_neg (by decide +kernel)]; exact ⟨rfl, rfl⟩))
    (fun os started H enc _ => lifted os started H enc)

theorem proved : Rows.FnKindRunSwapSaid := over
end Go.Proofs.Ytpcakoaepmeakaa.fnKindRunSwap
