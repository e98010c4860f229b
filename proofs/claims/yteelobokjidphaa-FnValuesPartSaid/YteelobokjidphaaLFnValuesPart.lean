/- Later nodes do not change rows. No condition. -/
import Derived.Test.YteelobokjidphaaRows
import Derived.Test.YteelobokjidphaaArgs
import Derived.Test.YteelobokjidphaaDrawPlans
import Derived.Test.YteelobokjidphaaSameRow
import Derived.Test.YteelobokjidphaaValueStep
import Derived.Test.YteelobokjidphaaValuesLaw
import Derived.Test.YteelobokjidphaaMarkRows
namespace Go.Proofs.Yteelobokjidphaa.fnValuesPart
open Go.ChangeShapes Go.WideShapes Go.ChangeAt Go.RowKit

set_option maxRecDepth 50000 in
set_option maxHeartbeats 4000000 in
theorem walk (v0 : Value) (x0 : List Int) (v1 : Value) (x1 : List Int) (w : World) (w0 : BL w v0 x0) (w1 : BL w v1 x1) :
    Calls Try.prog 10 #[v0, v1] w fun e w' => e = .returned (.bool true) ∧ Below w.heap.size w w' := by
  obtain ⟨a0, c0, rfl, -⟩ := id w0
  obtain ⟨a1, c1, rfl, -⟩ := id w1
  by_cases hl0 : 1048576 < x0.length
  · go_enter Try.func10, Try.ntmps10
    go_wp2_with fail
    go_ret
    exact ⟨rfl, Below.refl _ _⟩
  have hl0' : x0.length ≤ 1048576 := by omega
  by_cases hl1 : 1048576 < x1.length
  · clear hl0
    go_enter Try.func10, Try.ntmps10
    go_wp2_with fail
    go_ret
    exact ⟨rfl, Below.refl _ _⟩
  have hl1' : x1.length ≤ 1048576 := by omega
  clear hl0 hl1
  go_enter Try.func10, Try.ntmps10
  go_wp2_with fail
  refine (drawValues_any _ x0 w w0).mono ?_
  rintro e W1 ⟨vp, ns, rfl, hp, hsh, bt⟩
  obtain ⟨ap, cp, rfl, hpl1, hpl2⟩ := hp.shape
  unfold maxLen at hpl2
  have A := hp.pl
  have hl11 := hsh.1
  have s1 := bt.size
  clear hp w0 w1
  go_wp2_with fail
  refine (ivalues_any _ ns _ _ A).mono ?_
  rintro e w2 ⟨vo, rfl, O, b0⟩
  have m2 := Mod.of_below b0
  replace O := O.grid.rs
  replace A := A.mod m2 (by omega)
  have s2 := m2.size
  replace bt := m2.below0 bt bt.size
  clear b0
  go_wp2_with fail
  refine (svalues_any _ ns _ _ A (by omega)).mono ?_
  rintro e w3 ⟨vw, rfl, W, b0⟩
  have m3 := Mod.of_below b0
  replace W := W.rs
  replace A := A.mod m3 (by omega)
  replace O := O.mod m3 (by omega)
  have s3 := m3.size
  replace bt := m3.below0 bt bt.size
  clear b0
  go_wp2_with fail
  refine (sameRows_m _ _ (valsR ns) _ _ _ O W).mono ?_
  rintro e w4 ⟨rfl, m4⟩
  replace A := A.mod m4 (by omega)
  replace O := O.mod m4 (by omega)
  replace W := W.mod m4 (by omega)
  have s4 := m4.size
  replace bt := m4.below0 bt bt.size
  cases hpb : planB ns
  · have HPB := hid hpb
    clear hpb
    go_wp2_with fail
    refine (sameRows_m _ _ (valsR ns) _ _ _ O W).mono ?_
    rintro e w5 ⟨rfl, m5⟩
    replace A := A.mod m5 (by omega)
    replace O := O.mod m5 (by omega)
    replace W := W.mod m5 (by omega)
    have s5 := m5.size
    replace bt := m5.below0 bt bt.size
    go_wp2_with fail
    go_ret
    exact ⟨rfl, bt⟩
  · obtain ⟨V, hV⟩ : ∃ V, V = valsN ns ns.length := ⟨_, rfl⟩
    have hVl : V.length = ns.length := by rw [hV, valsN_length]
    have hVR : valsR ns = V := by rw [hV, valsR_of hpb]
    rw [hVR] at O
    have HPB := hid hpb
    have HVR := hid hVR
    have HVL := hid hVl
    have HV := hid hV
    obtain ⟨ao, co, rfl, ho1, ho2⟩ := O.shape
    rw [hVl] at O ho1 ⊢
    obtain ⟨K, hK⟩ : ∃ K, K = x1.length % (ns.length + 1) := ⟨_, rfl⟩
    have hK1 : K ≤ ns.length := by have : x1.length % (ns.length + 1) < ns.length + 1 := Nat.mod_lt _ (by omega); omega
    have eK : (x1.length : Int) % ((ns.length : Int) + 1) = (K : Int) := by rw [hK, Int.natCast_emod, Int.natCast_add]; rfl
    have K0 : (0 : Int) ≤ (K : Int) := by omega
    have K1 : (K : Int) ≤ (cp : Int) := by omega
    have K2 : (K : Int) ≤ (co : Int) := by omega
    have hne : ¬ ((ns.length : Int) + 1 = 0) := by omega
    have hne' : (((ns.length : Int) + 1) == 0) = false := by simpa using hne
    have A2 := A.take hK1
    have O2 := O.take hK1
    have HKB := hid (plan_take hpb hK1)
    have HKV := hid (show valsR (ns.take K) = V.take K by rw [hV]; exact vals_take hpb hK1)
    clear hpb hVR hVl hV hK W hsh
    rcases ap with _ | ap <;> rcases ao with _ | ao
    all_goals
      go_wp2_with fail
      refine (ivalues_any _ (ns.take K) _ _ A2).mono ?_
      rintro e w5 ⟨vx, rfl, X, b0⟩
      have m5 := Mod.of_below b0
      replace X := X.grid.rs
      rw [HKV.out] at X
      rw [HKB.out]
      replace A := A.mod m5 (by omega)
      replace O := O.mod m5 (by omega)
      replace A2 := A2.mod m5 (by omega)
      replace O2 := O2.mod m5 (by omega)
      have s5 := m5.size
      replace bt := m5.below0 bt bt.size
      clear b0
      go_wp2_with fail
      refine (sameRows_m _ _ (V.take K) _ _ _ X O2).mono ?_
      rintro e w6 ⟨rfl, m6⟩
      replace A := A.mod m6 (by omega)
      replace O := O.mod m6 (by omega)
      replace A2 := A2.mod m6 (by omega)
      replace O2 := O2.mod m6 (by omega)
      replace X := X.mod m6 (by omega)
      have s6 := m6.size
      replace bt := m6.below0 bt bt.size
      go_wp2_with fail
      go_ret
      exact ⟨rfl, bt⟩

theorem own : ownKnob Try.prog.godebug = none := by kernel_rfl
theorem laidOut : laidOutB Try.prog = true := by kernel_rfl
set_option maxRecDepth 100000 in
theorem lifted (os : Os) (started : os.Started) (H : Type) (enc : TypeId × Value → H) :
    ReturnsInHanded {} Try.checked os 10 .any (Rows.fnValuesPartSpec.pre6 enc Try.prog Try.f10 Rows.fnValuesPartRow.domain false) (Rows.fnValuesPartSpec.post enc Try.prog Try.f10 false true false false) := by
  refine returnsInHanded_of_change (C := Try.checked) own started (by kernel_rfl) Try.func10
    (ChangeSpec.witness6 (enc := enc) (C := Try.checked) false ⟨#[], #[.slice none 0 0, .slice none 0 0], []⟩ 8 (by kernel_rfl) (by kernel_rfl) (by kernel_rfl) (by kernel_rfl)) ?_
  intro W base args ds gs before hval0 hW _ _
  have hval : ∀ (j : Nat) t v, Try.f10.params[j]? = some t → args[j]? = some v → Value.okWide Try.prog W .any base t v := hval0
  have hW' := hW
  obtain ⟨p, q, hA0, hV, rfl, _, _⟩ := hW
  have hA : DataW.TrodAll enc Try.prog W 0 (fun _ => true) true Try.f10.params.toList args.toList ds p := hA0
  rw [Try.params10] at hA hval
  obtain ⟨v0, vs0, d0, ds0, p0, q0, hargs, rfl, rfl, h0, r0⟩ := trodAll_cons hA
  obtain ⟨v1, vs1, d1, ds1, p1, q1, rfl, rfl, rfl, h1, r1⟩ := trodAll_cons r0
  obtain ⟨rfl, rfl, rfl⟩ := trodAll_nil r1
  obtain rfl : args = #[v0, v1] := by cases args; simp_all
  obtain ⟨rfl, rfl⟩ := trodVars_none hV
  have k0 := h0
  have lt0 : ∀ x ∈ p0, x.block < W.heap.size := by obtain ⟨m, hm⟩ := k0; exact DataW.trod_lt m _ _ _ hm
  obtain ⟨x0, w0⟩ := open_bl (hval 0 53 v0 rfl rfl) h0
  have k1 := h1
  have lt1 : ∀ x ∈ p1, x.block < W.heap.size := by obtain ⟨m, hm⟩ := k1; exact DataW.trod_lt m _ _ _ hm
  obtain ⟨x1, w1⟩ := open_bl (hval 1 53 v1 rfl rfl) h1
  clear hA0 hval0
  refine (walk v0 x0 v1 x1 W w0 w1).mono fun e W' ⟨he, bel⟩ => ?_
  subst he
  exact ⟨_, rfl, _, _, _, [], _, [], hW', trodAll_mk1 (shut_bool Try.underlying4 _), (trodAll_cons_mk (Below.trod laidOut (by kernel_rfl) (of_decide_eq_true (by kernel_rfl)) k0 bel lt0) (trodAll_cons_mk (Below.trod laidOut (by kernel_rfl) (of_decide_eq_true (by kernel_rfl)) k1 bel lt1) trodAll_mk0)), rfl, bel.frame _, fun h => by cases h⟩

theorem over : Rows.fnValuesPartRow.holds Try.pinned (OpenSpec.ofChange Rows.fnValuesPartSpec) :=
  OpenClaim.holds_of_wide 10 Try.f10 rfl rfl rfl rfl rfl rfl rfl ⟨rfl, rfl, rfl, rfl, rfl⟩ rfl rfl rfl rfl rfl (by kernel_rfl) Try.func10 (by kernel_rfl)
    (of_decide_eq_true (by kernel_rfl)) (by unfold Func.isWrapper; first | (rw [if_pos (by decide +kernel)]; kernel_rfl) | (rw [if_neg (by decide +kernel)]; exact ⟨rfl, rfl⟩))
    (fun os started H enc _ => lifted os started H enc)

theorem proved : Rows.FnValuesPartSaid := over
end Go.Proofs.Yteelobokjidphaa.fnValuesPart
