/- The row of one node, the step from given rows: the program and the reference. No condition. -/
import Derived.Test.YteelobokjidphaaValuesOf
import Derived.Test.YteelobokjidphaaValuesRef
import Derived.Test.YteelobokjidphaaUse
namespace Go.Proofs.Yteelobokjidphaa
open Go.RowKit
set_option maxRecDepth 100000

theorem valB_no {ns : List Nd} {a : Int} (h : planB ns = false) : valB ns a = false := by unfold valB; rw [h]; rfl
theorem valR_no {ns : List Nd} {a : Int} (h : valB ns a = false) : valR ns a = [] := by
  unfold valR
  rw [if_neg]
  intro h2
  unfold valB at h
  rw [h2.1, decide_eq_true h2.2.1, decide_eq_true h2.2.2] at h
  cases h
theorem valB_in {ns : List Nd} {a : Int} (h : planB ns = true) : valB ns a = decide (0 ≤ a ∧ a < (ns.length : Int)) := by
  unfold valB
  rw [h, Bool.true_and, Bool.eq_iff_iff]
  simp
theorem valB_l6 {ns : List Nd} {a : Int} (h : planB ns = true) : inB a 0 ((ns.length : Int) - 1) = valB ns a := by
  rw [inB_at]
  unfold valB
  rw [h, Bool.true_and]
theorem valR_at {ns : List Nd} {k : Nat} (h : planB ns = true) (hk : k < ns.length) : valR ns (k : Int) = (valsN ns ns.length).getD k [] := by
  unfold valR
  rw [if_pos ⟨h, by omega, by omega⟩, Int.toNat_natCast]

set_option maxHeartbeats 2000000 in
theorem svalue_any (v : Value) (ns : List Nd) (hi : Nat) (a : Int) (w : World) (h : PL w hi v ns) (hlen : ns.length ≤ 1099511627776) :
    Calls Try.prog 18 #[v, .int .i64 a] w (PostIB w (valR ns a) (valB ns a)) := by
  obtain ⟨ad, c, rfl, h1, h2, -⟩ := id h
  unfold maxLen at h2
  have e1 : IntKind.i64.wrap ((ns.length : Int) - 1) = (ns.length : Int) - 1 := IntWalk.i64_in _ (by omega)
  cases hpb : planB ns
  · rw [valR_no (valB_no hpb), valB_no hpb]
    have HPB := hid hpb
    clear hpb
    go_enter Try.func18, Try.ntmps18
    go_wp2_with fail
    refine (splan_any _ ns hi w h hlen).mono ?_
    rintro e w2 ⟨rfl, m2⟩
    rw [HPB.out]
    go_wp2_with fail
    go_ret2
    exact ⟨_, rfl, OI.fresh0 w2 m2.size, (m2.below0 (Below.refl _ _) (Nat.le_refl _)).alloc m2.size _⟩
  · have hin := valB_l6 (a := a) hpb
    cases hvb : valB ns a
    · rw [valR_no hvb]
      have HPB := hid hpb
      rw [hvb] at hin
      have HIN := hid hin
      clear hpb hvb hin
      go_enter Try.func18, Try.ntmps18
      go_wp2_with fail
      refine (splan_any _ ns hi w h hlen).mono ?_
      rintro e w2 ⟨rfl, m2⟩
      rw [HPB.out]
      go_wp2_with fail
      refine (l6In_any a 0 ((ns.length : Int) - 1) w2).mono ?_
      rintro e _ ⟨rfl, rfl⟩
      rw [HIN.out]
      go_wp2_with fail
      go_ret2
      exact ⟨_, rfl, OI.fresh0 w2 m2.size, (m2.below0 (Below.refl _ _) (Nat.le_refl _)).alloc m2.size _⟩
    · obtain ⟨-, k, rfl, hk⟩ := valB_of hvb
      rw [valR_at hpb hk]
      rw [hvb] at hin
      obtain ⟨V, hV⟩ : ∃ V, V = valsN ns ns.length := ⟨_, rfl⟩
      have hVl : V.length = ns.length := by rw [hV, valsN_length]
      have hsv : ∀ w, PL w hi (.slice ad ns.length c) ns → Calls Try.prog 60 #[.slice ad ns.length c] w (RowsMade w V) := fun w h => by rw [hV]; exact svals_any _ ns hi w h hpb
      rw [← hV]
      obtain ⟨xs, hxs⟩ : ∃ xs, xs = V.getD k [] := ⟨_, rfl⟩
      rw [← hxs]
      have HXS := hid hxs
      clear hxs
      have HPB := hid hpb
      have HIN := hid hin
      have HSV := hid hsv
      have HVL := hid hVl
      have k0 : (0 : Int) ≤ (k : Int) := by omega
      have k1 : (k : Int) < (ns.length : Int) := by omega
      clear hpb hvb hin hV hsv hVl
      go_enter Try.func18, Try.ntmps18
      go_wp2_with fail
      refine (splan_any _ ns hi w h hlen).mono ?_
      rintro e w2 ⟨rfl, m2⟩
      rw [HPB.out]
      go_wp2_with fail
      refine (l6In_any (k : Int) 0 ((ns.length : Int) - 1) w2).mono ?_
      rintro e _ ⟨rfl, rfl⟩
      rw [HIN.out]
      go_wp2_with fail
      refine (HSV.out w2 (h.mod m2 (.inr (Nat.zero_le _)))).mono ?_
      rintro e w3 ⟨vo, rfl, ⟨vs, g1, g2, g3⟩, hb3⟩
      have hkv : k < vs.length := by rw [g1, HVL.out]; exact hk
      obtain ⟨g, c', rfl, -, -, -⟩ := g2.at hkv
      have gc := (OV.cell g2 hkv).1
      have hoi := (g3 k hkv).base m2.size
      have hvl : vs.length = ns.length := g1.trans HVL.out
      obtain ⟨u, hu⟩ : ∃ u, u = vs.getD k undef := ⟨_, rfl⟩
      rw [← hu] at gc hoi
      rw [← HXS.out] at hoi
      clear hu
      obtain ⟨au, cu, rfl, -⟩ := id hoi.rl
      rw [hvl]
      clear g1 g2 g3 hvl hkv
      go_wp2_with fail
      go_ret2
      exact ⟨_, rfl, hoi, (m2.below0 (Below.refl _ _) (Nat.le_refl _)).trans (hb3.mono m2.size)⟩

set_option maxHeartbeats 2000000 in
theorem ivalue_any (v : Value) (ns : List Nd) (hi : Nat) (a : Int) (w : World) (h : PL w hi v ns) :
    Calls Try.prog 20 #[v, .int .i64 a] w (PostIB w (valR ns a) (valB ns a)) := by
  obtain ⟨ad, c, rfl, h1, h2, -⟩ := id h
  unfold maxLen at h2
  cases hpb : planB ns
  · rw [valR_no (valB_no hpb), valB_no hpb]
    have HPB := hid hpb
    clear hpb
    go_enter Try.func20, Try.ntmps20
    go_wp2_with fail
    refine (ivalues_any _ ns hi w h).mono ?_
    rintro e w2 ⟨vo, rfl, -, b2⟩
    rw [HPB.out]
    go_wp2_with fail
    go_ret2
    exact ⟨_, rfl, OI.nil _ _, b2⟩
  · have hin := valB_in (a := a) hpb
    cases hvb : valB ns a
    · rw [valR_no hvb]
      have HPB := hid hpb
      rw [hvb] at hin
      have HIN := hid hin
      clear hpb hvb hin
      go_enter Try.func20, Try.ntmps20
      go_wp2_with fail
      refine (ivalues_any _ ns hi w h).mono ?_
      rintro e w2 ⟨vo, rfl, -, b2⟩
      rw [HPB.out]
      go_wp2_with fail
      refine (isNode_any ad ns.length c a w2).mono ?_
      rintro e _ ⟨rfl, rfl⟩
      rw [← HIN.out]
      go_wp2_with fail
      go_ret2
      exact ⟨_, rfl, OI.nil _ _, b2⟩
    · obtain ⟨-, k, rfl, hk⟩ := valB_of hvb
      rw [valR_at hpb hk]
      rw [hvb] at hin
      obtain ⟨V, hV⟩ : ∃ V, V = valsN ns ns.length := ⟨_, rfl⟩
      have hVl : V.length = ns.length := by rw [hV, valsN_length]
      have hVR : valsR ns = V := by rw [hV, valsR_of hpb]
      rw [← hV]
      obtain ⟨xs, hxs⟩ : ∃ xs, xs = V.getD k [] := ⟨_, rfl⟩
      rw [← hxs]
      have HXS := hid hxs
      clear hxs
      have HPB := hid hpb
      have HIN := hid hin
      have HVL := hid hVl
      have HVR := hid hVR
      have k0 : (0 : Int) ≤ (k : Int) := by omega
      have k1 : (k : Int) < (ns.length : Int) := by omega
      clear hpb hvb hin hV hVl hVR
      go_enter Try.func20, Try.ntmps20
      go_wp2_with fail
      refine (ivalues_any _ ns hi w h).mono ?_
      rintro e w3 ⟨vo, rfl, hg, hb3⟩
      rw [HVR.out] at hg
      obtain ⟨vs, g1, g2, g3, -⟩ := hg
      rw [HPB.out]
      have hkv : k < vs.length := by rw [g1, HVL.out]; exact hk
      obtain ⟨g, c', rfl, -, -, -⟩ := g2.at hkv
      have gc := (OV.cell g2 hkv).1
      have hoi := g3 k hkv
      have hvl : vs.length = ns.length := g1.trans HVL.out
      obtain ⟨u, hu⟩ : ∃ u, u = vs.getD k undef := ⟨_, rfl⟩
      rw [← hu] at gc hoi
      rw [← HXS.out] at hoi
      clear hu
      obtain ⟨au, cu, rfl, -⟩ := id hoi.rl
      rw [hvl]
      clear g1 g2 g3 hvl hkv
      go_wp2_with fail
      refine (isNode_any ad ns.length c k w3).mono ?_
      rintro e _ ⟨rfl, rfl⟩
      rw [← HIN.out]
      go_wp2_with fail
      go_ret2
      exact ⟨_, rfl, hoi, hb3⟩
end Go.Proofs.Yteelobokjidphaa
