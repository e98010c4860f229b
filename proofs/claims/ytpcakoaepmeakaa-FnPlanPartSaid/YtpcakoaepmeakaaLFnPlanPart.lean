/- The first nodes are a plan. No condition. -/
import Derived.Test.YtpcakoaepmeakaaRows
import Derived.Test.YtpcakoaepmeakaaArgs
import Derived.Test.YtpcakoaepmeakaaDrawPlans
import Derived.Test.YtpcakoaepmeakaaSameRow
import Derived.Test.YtpcakoaepmeakaaPlanLaw
import Derived.Test.YtpcakoaepmeakaaPlanValid
import Derived.Test.YtpcakoaepmeakaaOwnMore
namespace Go.Proofs.Ytpcakoaepmeakaa.fnPlanPart
open Go.ChangeShapes Go.WideShapes Go.ChangeAt Go.RowKit

set_option maxRecDepth 50000 in
set_option maxHeartbeats 4000000 in
theorem walk (v0 : Value) (x0 : List Int) (v1 : Value) (x1 : List Int) (w : World) (w0 : BL w v0 x0) (w1 : BL w v1 x1) :
    Calls Try.prog 8 #[v0, v1] w fun e w' => e = .returned (.bool true) ∧ Below w.heap.size w w' := by
  obtain ⟨a0, c0, rfl, -⟩ := id w0
  obtain ⟨a1, c1, rfl, -⟩ := id w1
  by_cases hl0 : 1048576 < x0.length
  · go_enter Try.func8, Try.ntmps8
    go_wp2_with fail
    go_ret
    exact ⟨rfl, Below.refl _ _⟩
  have hl0' : x0.length ≤ 1048576 := by omega
  by_cases hl1 : 1048576 < x1.length
  · clear hl0
    go_enter Try.func8, Try.ntmps8
    go_wp2_with fail
    go_ret
    exact ⟨rfl, Below.refl _ _⟩
  have hl1' : x1.length ≤ 1048576 := by omega
  clear hl0 hl1
  go_enter Try.func8, Try.ntmps8
  go_wp2_with fail
  refine (drawValidP_any _ x0 w w0).mono ?_
  rintro e W1 ⟨vp, ns, rfl, hp, hsh, bt⟩
  obtain ⟨ap, cp, rfl, hpl1, hpl2⟩ := hp.shape
  unfold maxLen at hpl2
  have hl11 := hsh.1
  have s1 := bt.size
  clear w0 w1
  go_wp2_with fail
  refine (iplan_any _ ns _ _ hp.pl).mono ?_
  rintro e w2 ⟨rfl, m2⟩
  replace hp := hp.mod m2 (by omega)
  have s2 := m2.size
  replace bt := m2.below0 bt bt.size
  go_wp2_with fail
  refine (splan_any _ ns _ _ hp.pl (by omega)).mono ?_
  rintro e w3 ⟨rfl, m3⟩
  replace hp := hp.mod m3 (by omega)
  have s3 := m3.size
  replace bt := m3.below0 bt bt.size
  cases hpb : planB ns
  · have HPB := hid hpb
    clear hpb
    go_wp2_with fail
    go_ret
    exact ⟨rfl, bt⟩
  by_cases hn0 : ns.length = 0
  · have hz : ((ns.length : Int) == 0) = true := by simp [hn0]
    clear hn0 hpb
    go_wp2_with fail
    go_ret
    exact ⟨rfl, bt⟩
  have hz : ((ns.length : Int) == 0) = false := by rw [beq_eq_false_iff_ne]; omega
  obtain ⟨m, hm⟩ : ∃ m, ns.length = m + 1 := ⟨ns.length - 1, by omega⟩
  obtain ⟨g, cq, e1, hg1, hg2, -, -⟩ := hp.at (i := 0) (by omega)
  simp only [Value.slice.injEq] at e1
  obtain ⟨rfl, -, rfl⟩ := e1
  obtain ⟨X, hX⟩ : ∃ X : World, X = w3 := ⟨_, rfl⟩
  rw [← hX] at hp bt ⊢
  obtain ⟨K, hK⟩ : ∃ K, K = x1.length % (m + 2) := ⟨_, rfl⟩
  have hK1 : K ≤ ns.length := by have : x1.length % (m + 2) < m + 2 := Nat.mod_lt _ (by omega); omega
  have eK : (x1.length : Int) % ((m : Int) + 2) = (K : Int) := by rw [hK, Int.natCast_emod, Int.natCast_add]; rfl
  have em : (ns.length : Int) - 1 = (m : Int) := by omega
  have hpm := hp.take (k := m) (by omega) (fun h => by cases h)
  have hpk := hp.take (k := K) hK1 (fun h => by cases h)
  have hlm : (ns.take m).length = m := by rw [List.length_take]; omega
  have m0 : (0 : Int) ≤ (m : Int) := by omega
  have m1 : (m : Int) ≤ (cp : Int) := by omega
  have K0 : (0 : Int) ≤ (K : Int) := by omega
  have K1 : (K : Int) ≤ (cp : Int) := by omega
  have hB : w.heap.size ≤ X.heap.size := bt.size
  have HKB := hid (plan_take hpb hK1)
  have HXB := hid (plan_self (ns := ns.take m ++ [⟨5, [(m : Int)], []⟩]) (k := m) (by simp; omega) (by
    have e : (ns.take m ++ [(⟨5, [(m : Int)], []⟩ : Nd)]).getD m nd0 = ⟨5, [(m : Int)], []⟩ := by rw [getD_snoc_nd, if_neg (by omega), if_pos hlm.symm]
    unfold fsN; rw [e]; simp))
  have HPK := hid hpk
  have mE := Mod.alloc X (.cells #[] 48)
  have hE : PR False (X.alloc (.cells #[] 48)) X.heap.size (X.heap.size + 1) (.slice (some ⟨X.heap.size, 0, none⟩) 0 0) [] := PR.fresh0 X (Nat.le_refl _)
  have hpm2 := hpm.mod mE (.inr (Nat.zero_le _))
  have hBE : X.heap.size ≤ (X.alloc (.cells #[] 48)).heap.size := by simp
  have hbE : Below X.heap.size X (X.alloc (.cells #[] 48)) := (Below.refl _ _).alloc (Nat.le_refl _) _
  have hug := hid (show Value.slice (some ⟨g, 0, none⟩) m cp = .slice (some ⟨g, 0, none⟩) (ns.take m).length cp by rw [hlm])
  have HLM := hid hlm
  have HBT := hid bt
  have hxl : (ns.take m).length < 1099511627775 := by rw [List.length_take]; omega
  clear hpb hn0 hm hX hK hsh hp hpm hpk hlm bt hg1 hg2
  go_wp2_with (first
    | ((at_builtin; go_loud (refine appNs0 rfl _ _ 42 rfl Try.underlying42 w.heap.size X.heap.size _ _ _ _ (ns.take m) hE g cp hug.out hpm2 hB (by rfl) (by rfl) hxl hbE hBE ?_); intro v5 w5 hp5 hk5 hb5
        obtain ⟨a5, c5, rfl, h51, h52⟩ := hp5.shape
        rw [HLM.out] at hp5 hk5 h51 ⊢
        have s5 := hb5.size
        have hp5n := hp5.mod (Mod.alloc w5 (.cells #[.int .i64 m] 3)) (.inr (Nat.zero_le _))
        have hvf : OI (w5.alloc (.cells #[.int .i64 m] 3)) w.heap.size (.slice (some ⟨w5.heap.size, 0, none⟩) 1 1) [(m : Int)] := World.ownsRow_lit w5 #[.int .i64 m] 1 (by omega) (by unfold maxLen; omega) rfl
        have e5 : (w5.alloc (.cells #[.int .i64 m] 3)).heap.size = w5.heap.size + 1 := by simp
        have hB5 : w.heap.size ≤ (w5.alloc (.cells #[.int .i64 m] 3)).heap.size := by simp; omega))
    | ((at_builtin; go_loud (refine appN1 rfl _ _ 42 rfl Try.underlying42 w.heap.size _ _ (ns.take m) 5 _ _ [(m : Int)] [] hp5n hvf (OI.nil _ _) Apart.no (by rfl) (by rw [e5]; rfl) hxl (Below.refl _ _) hB5 ?_); intro v7 w7 hp7 hb7 hk7
        obtain ⟨a7, c7, rfl, h71, h72⟩ := hp7.shape
        have hl7 : (ns.take m ++ [(⟨5, [(m : Int)], []⟩ : Nd)]).length = m + 1 := by rw [List.length_append, HLM.out]; rfl
        rw [hl7] at hp7 h71 ⊢
        have bX : Below X.heap.size X w7 := (hb5.alloc s5 _).trans ⟨hb7.os, hb7.tape, hb7.output, hb7.size, fun k hk => hk7 k (by omega) (fun e => by have := hk5 k e; omega)⟩
        have mX := Mod.of_below bX
        have hpk7 := HPK.out.mod mX (.inr (Nat.zero_le _))
        have hb7X := mX.below0 HBT.out hB
        clear hk7 hk5 hl7 e5)))
  refine (iplan_any _ _ _ _ hpk7.pl).mono ?_
  rintro e w8 ⟨rfl, m8⟩
  rw [HKB.out]
  have hp8 := hp7.mod m8 (.inr (Nat.zero_le _))
  have hb8 := m8.below0 hb7X hb7X.size
  go_wp2_with fail
  refine (iplan_any _ _ _ _ hp8.pl).mono ?_
  rintro e w9 ⟨rfl, m9⟩
  rw [HXB.out]
  have hb9 := hid (m9.below0 hb8 hb8.size)
  go_wp2_with fail
  go_ret
  exact ⟨rfl, hb9.out⟩

theorem own : ownKnob Try.prog.godebug = none := by kernel_rfl
theorem laidOut : laidOutB Try.prog = true := by kernel_rfl
set_option maxRecDepth 100000 in
theorem lifted (os : Os) (started : os.Started) (H : Type) (enc : TypeId × Value → H) :
    ReturnsInHanded {} Try.checked os 8 .any (Rows.fnPlanPartSpec.pre6 enc Try.prog Try.f8 Rows.fnPlanPartRow.domain false) (Rows.fnPlanPartSpec.post enc Try.prog Try.f8 false true false false) := by
  refine returnsInHanded_of_change (C := Try.checked) own started (by kernel_rfl) Try.func8
    (ChangeSpec.witness6 (enc := enc) (C := Try.checked) false ⟨#[], #[.slice none 0 0, .slice none 0 0], []⟩ 8 (by kernel_rfl) (by kernel_rfl) (by kernel_rfl) (by kernel_rfl)) ?_
  intro W base args ds gs before hval0 hW _ _
  have hval : ∀ (j : Nat) t v, Try.f8.params[j]? = some t → args[j]? = some v → Value.okWide Try.prog W .any base t v := hval0
  have hW' := hW
  obtain ⟨p, q, hA0, hV, rfl, _, _⟩ := hW
  have hA : DataW.TrodAll enc Try.prog W 0 (fun _ => true) true Try.f8.params.toList args.toList ds p := hA0
  rw [Try.params8] at hA hval
  obtain ⟨v0, vs0, d0, ds0, p0, q0, hargs, rfl, rfl, h0, r0⟩ := trodAll_cons hA
  obtain ⟨v1, vs1, d1, ds1, p1, q1, rfl, rfl, rfl, h1, r1⟩ := trodAll_cons r0
  obtain ⟨rfl, rfl, rfl⟩ := trodAll_nil r1
  obtain rfl : args = #[v0, v1] := by cases args; simp_all
  obtain ⟨rfl, rfl⟩ := trodVars_none hV
  have k0 := h0
  have lt0 : ∀ x ∈ p0, x.block < W.heap.size := by obtain ⟨m, hm⟩ := k0; exact DataW.trod_lt m _ _ _ hm
  obtain ⟨x0, w0⟩ := open_bl (hval 0 22 v0 rfl rfl) h0
  have k1 := h1
  have lt1 : ∀ x ∈ p1, x.block < W.heap.size := by obtain ⟨m, hm⟩ := k1; exact DataW.trod_lt m _ _ _ hm
  obtain ⟨x1, w1⟩ := open_bl (hval 1 22 v1 rfl rfl) h1
  clear hA0 hval0
  refine (walk v0 x0 v1 x1 W w0 w1).mono fun e W' ⟨he, bel⟩ => ?_
  subst he
  exact ⟨_, rfl, _, _, _, [], _, [], hW', trodAll_mk1 (shut_bool Try.underlying4 _), (trodAll_cons_mk (Below.trod laidOut (by kernel_rfl) (of_decide_eq_true (by kernel_rfl)) k0 bel lt0) (trodAll_cons_mk (Below.trod laidOut (by kernel_rfl) (of_decide_eq_true (by kernel_rfl)) k1 bel lt1) trodAll_mk0)), rfl, bel.frame _, fun h => by cases h⟩

theorem over : Rows.fnPlanPartRow.holds Try.pinned (OpenSpec.ofChange Rows.fnPlanPartSpec) :=
  OpenClaim.holds_of_wide 8 Try.f8 rfl rfl rfl rfl rfl rfl rfl ⟨rfl, rfl, rfl, rfl, rfl⟩ rfl rfl rfl rfl rfl (by kernel_rfl) Try.func8 (by kernel_rfl)
    (of_decide_eq_true (by kernel_rfl)) (by unfold Func.isWrapper; first | (rw [if_pos (by decide +kernel)]; kernel_rfl) | (rw [if_neg (by decide +kernel)]; exact ⟨rfl, rfl⟩))
    (fun os started H enc _ => lifted os started H enc)

theorem proved : Rows.FnPlanPartSaid := over
end Go.Proofs.Ytpcakoaepmeakaa.fnPlanPart
