/- A new node is last. No condition. -/
import Derived.Test.YteelobokjidphaaRows
import Derived.Test.YteelobokjidphaaArgs
import Derived.Test.YteelobokjidphaaDrawAdd
import Derived.Test.YteelobokjidphaaAddLaw
import Derived.Test.YteelobokjidphaaSameRow
import Derived.Deep.RegionHeld3
namespace Go.Proofs.Yteelobokjidphaa.fnPlanAdd
open Go.ChangeShapes Go.WideShapes Go.ChangeAt Go.RowKit

set_option maxRecDepth 50000 in
set_option maxHeartbeats 4000000 in
theorem walk (v0 : Value) (x0 : List Int) (w : World) (w0 : BL w v0 x0) :
    Calls Try.prog 14 #[v0] w fun e w' => e = .returned (.bool true) ∧ Below w.heap.size w w' := by
  obtain ⟨a0, c0, rfl, -⟩ := id w0
  by_cases hl0 : 1048576 < x0.length
  · go_enter Try.func14, Try.ntmps14
    go_wp2_with fail
    go_ret
    exact ⟨rfl, Below.refl _ _⟩
  have hl0' : x0.length ≤ 1048576 := by omega
  clear hl0
  go_enter Try.func14, Try.ntmps14
  go_wp2_with fail
  refine (drawAdd_any _ x0 w w0).mono ?_
  rintro e w1 ⟨vp, ns, kd, vf, vr, fs, row, rfl, hp, hsh, hf0, hr0, hfl, hrl, bt⟩
  obtain ⟨ap, cp, rfl, hpl1, hpl2⟩ := hp.shape
  unfold maxLen at hpl2
  obtain ⟨af, cf, rfl, hf1, hf2, -⟩ := id hf0
  obtain ⟨ar, cr, rfl, -⟩ := id hr0
  unfold maxLen at hf2
  have hl11 := hsh.1
  have hsl : ∀ i, i < ns.length → (ns.getD i nd0).fs.length < 1099511627776 ∧ (ns.getD i nd0).row.length < 1099511627776 := fun i hi => by
    have e : ns.getD i nd0 = ns[i] := by simp [hi]
    have := hsh.2 (ns.getD i nd0) (by rw [e]; exact List.getElem_mem _)
    omega
  have HSL := hid hsl
  have mX := Mod.alloc w1 (.cells #[.int .i64 kd, .slice af fs.length cf, .slice ar row.length cr] 48)
  obtain ⟨X, hX⟩ : ∃ X, X = w1.alloc (.cells #[.int .i64 kd, .slice af fs.length cf, .slice ar row.length cr] 48) := ⟨_, rfl⟩
  rw [← hX] at mX
  have B : NB X w1.heap.size kd (.slice af fs.length cf) (.slice ar row.length cr) := by unfold NB; rw [hX]; exact heap_alloc_new w1 _
  have A := hp.pl.mod mX (.inr (Nat.zero_le _))
  have F := hf0.rr.mod mX (.inr (Nat.zero_le _))
  have R := hr0.rr.mod mX (.inr (Nat.zero_le _))
  have s1 := mX.size
  have hB1 := B.lt
  replace bt := mX.below0 bt bt.size
  have HX := hid hX
  obtain ⟨L, hL⟩ : ∃ L, L = addL ns ⟨kd, fs, row⟩ := ⟨_, rfl⟩
  obtain ⟨ok, hok⟩ : ∃ ok, ok = addB ns ⟨kd, fs, row⟩ := ⟨_, rfl⟩
  have HLL := hid hL
  have HOK := hid hok
  clear hX hp w0 hf0 hr0 hsl mX hsh hL hok
  go_wp2_with fail
  rw [← HX.out]
  refine (ipadd_any _ _ _ ns kd fs row _ X A F.rl R.rl HSL.out (by omega) (by omega)).mono ?_
  rintro e w2 ⟨vo, rfl, O, b0⟩
  have m2 := Mod.of_below b0
  rw [← HLL.out] at O
  rw [← HOK.out]
  obtain ⟨ao, co, rfl, ho1, ho2⟩ := O.shape
  unfold maxLen at ho2
  replace A := A.mod m2 (by omega)
  replace F := F.mod m2 (by omega)
  replace R := R.mod m2 (by omega)
  replace B := B.mod m2 (by omega)
  have s2 := m2.size
  replace bt := m2.below0 bt bt.size
  clear b0
  have c0 := B.c0
  have c1 := B.c1
  have c2 := B.c2
  go_wp2_with fail
  refine (spadd_any _ _ _ ns kd fs row _ _ A F.rl R.rl (by omega) HSL.out (by omega) (by omega)).mono ?_
  rintro e w3 ⟨vw, rfl, W, b0⟩
  have m3 := Mod.of_below b0
  rw [← HLL.out] at W
  rw [← HOK.out]
  clear c0 c1 c2
  replace A := A.mod m3 (by omega)
  replace F := F.mod m3 (by omega)
  replace R := R.mod m3 (by omega)
  replace B := B.mod m3 (by omega)
  replace O := O.mod m3 (by omega)
  have s3 := m3.size
  replace bt := m3.below0 bt bt.size
  clear b0
  cases hok : ok
  · clear hok
    go_wp2_with fail
    refine (samePlan_m _ _ L _ _ _ O.pl W).mono ?_
    rintro e w4 ⟨rfl, m4⟩
    replace A := A.mod m4 (by omega)
    replace F := F.mod m4 (by omega)
    replace R := R.mod m4 (by omega)
    replace B := B.mod m4 (by omega)
    replace O := O.mod m4 (by omega)
    replace W := W.mod m4 (by omega)
    have s4 := m4.size
    replace bt := m4.below0 bt bt.size
    go_wp2_with fail
    refine (samePlan_m _ _ L _ _ _ O.pl W).mono ?_
    rintro e w5 ⟨rfl, m5⟩
    replace A := A.mod m5 (by omega)
    replace F := F.mod m5 (by omega)
    replace R := R.mod m5 (by omega)
    replace B := B.mod m5 (by omega)
    replace O := O.mod m5 (by omega)
    replace W := W.mod m5 (by omega)
    have s5 := m5.size
    replace bt := m5.below0 bt bt.size
    go_wp2_with fail
    go_ret
    exact ⟨rfl, bt⟩
  rw [HOK.out] at hok
  obtain ⟨hpb, hpb2, hLL⟩ := add_parts hok
  rw [← HLL.out] at hLL
  have HPB := hid hpb
  have HPB2 := hid hpb2
  have HLN := hid hLL
  clear hok hpb hpb2 hLL HOK
  go_wp2_with fail
  refine (samePlan_m _ _ L _ _ _ O.pl W).mono ?_
  rintro e w4 ⟨rfl, m4⟩
  replace A := A.mod m4 (by omega)
  replace F := F.mod m4 (by omega)
  replace R := R.mod m4 (by omega)
  replace B := B.mod m4 (by omega)
  replace O := O.mod m4 (by omega)
  replace W := W.mod m4 (by omega)
  have s4 := m4.size
  replace bt := m4.below0 bt bt.size
  have hUN : usesR L (ns.length : Int) = [] := by rw [HLN.out]; exact add_uses_none HPB2.out
  have hPL : planB L = true := by rw [HLN.out]; exact HPB2.out
  have hlen : L.length = ns.length + 1 := by rw [HLN.out]; simp
  have hget : L.getD ns.length nd0 = ⟨kd, fs, row⟩ := by rw [HLN.out]; simp
  have htk : L.take ns.length = ns := by rw [HLN.out]; simp
  have hbeq : ((L.length : Int) == (ns.length : Int) + 1) = true := by rw [hlen]; simp
  have n0 : (0 : Int) ≤ (ns.length : Int) := by omega
  have n1 : (ns.length : Int) < (L.length : Int) := by omega
  have kc : (ns.length : Int) ≤ (co : Int) := by omega
  have hnn : ns.length ≤ L.length := by omega
  have hnl : ns.length < L.length := by omega
  obtain ⟨X9, hX9⟩ : ∃ X9 : World, X9 = w4 := ⟨_, rfl⟩
  rw [← hX9] at A F R B O bt ⊢
  have hPO := O.pl
  obtain ⟨a8, c8, e8, -, -, hOs, hnd⟩ := id hPO
  simp only [Value.slice.injEq] at e8
  obtain ⟨rfl, -, rfl⟩ := e8
  obtain ⟨b, o, f, r, rfl, hb, d0, d1, d2, hfO, hrO⟩ := hnd ns.length hnl
  rw [hget] at d0 hfO hrO
  simp only at d0 hfO hrO
  obtain ⟨afo, cfo, rfl, -⟩ := id hfO
  obtain ⟨aro, cro, rfl, -⟩ := id hrO
  have hPT := hPO.take hnn
  rw [htk] at hPT
  have K : Six X9.drew w1.heap.size kd (.slice af fs.length cf) (.slice ar row.length cr) b (o + ns.length * 3) kd (.slice afo fs.length cfo) (.slice aro row.length cro) := ⟨B.c0, B.c1, B.c2, d0, d1, d2⟩
  have HK := hid K
  have hB9 := B.lt
  have hbX : b < X9.heap.size := Nat.lt_of_lt_of_le hb hOs
  have mD := Mod.drewN X9 1
  have HUN := hid hUN
  have HPL := hid hPL
  have HPT := hid hPT
  have HPO := hid hPO
  have HFO := hid hfO
  have HRO := hid hrO
  have HA := hid A
  have HF := hid F
  have HR := hid R
  have HBT := hid bt
  have c0 := B.c0
  have c1 := B.c1
  have c2 := B.c2
  have hw1 : IntKind.i64.wrap ((ns.length : Int) + 1) = (ns.length : Int) + 1 := IntWalk.i64_in _ (by omega)
  clear hUN hPL hlen hget htk hX9 hPO hPT hnd hfO hrO A F R O bt W B K
  go_wp2_with fail
  go_region_held3 (fun w' => w'.cell? ⟨w1.heap.size, 0, none⟩ = some (.int .i64 kd) ∧ w'.cell? ⟨w1.heap.size, 1, none⟩ = some (.slice af fs.length cf) ∧ w'.cell? ⟨w1.heap.size, 2, none⟩ = some (.slice ar row.length cr) ∧
      w'.cell? ⟨b, o + ns.length * 3, none⟩ = some (.int .i64 kd) ∧ w'.cell? ⟨b, o + ns.length * 3 + 1, none⟩ = some (.slice afo fs.length cfo) ∧ w'.cell? ⟨b, o + ns.length * 3 + 2, none⟩ = some (.slice aro row.length cro))
    (first | exact HK.out | exact k6.out | exact k7.out | exact k8.out | exact k9.out | go_keep)
    (first
      | ((go_at_call 51; refine (iplan_any _ L _ X9.drew (HPO.out.mod mD (.inr (Nat.zero_le _)))).mono ?_; rintro e w6 ⟨rfl, m6⟩
          rw [HPL.out]
          have m06 := mD.trans m6
          have k6 := hid (HK.out.mod m6 hB9 hbX)))
      | ((go_at_call 52; refine (sameNode_m kd _ _ _ _ fs row w6 (HFO.out.mod m06 (.inr (Nat.zero_le _))).rl (HRO.out.mod m06 (.inr (Nat.zero_le _))).rl (HF.out.mod m06 (.inr (Nat.zero_le _))).rl (HR.out.mod m06 (.inr (Nat.zero_le _))).rl).mono ?_; rintro e w7 ⟨rfl, m7⟩
          have m07 := m06.trans m7
          have k7 := hid (k6.out.mod m7 (Nat.lt_of_lt_of_le hB9 m06.size) (Nat.lt_of_lt_of_le hbX m06.size))))
      | ((go_at_call 43; refine (samePlan_m _ _ ns _ _ w7 (HPT.out.mod m07 (.inr (Nat.zero_le _))) (HA.out.mod m07 (.inr (Nat.zero_le _)))).mono ?_; rintro e w8 ⟨rfl, m8⟩
          have m08 := m07.trans m8
          have k8 := hid (k7.out.mod m8 (Nat.lt_of_lt_of_le hB9 m07.size) (Nat.lt_of_lt_of_le hbX m07.size))))
      | ((go_at_call 53; refine (iuses_any _ L _ _ w8 (HPO.out.mod m08 (.inr (Nat.zero_le _)))).mono ?_; rintro e w9 ⟨vu, rfl, U, b9⟩
          rw [HUN.out] at U
          obtain ⟨au, cu, rfl, -⟩ := U.rl
          have m09 := m08.trans (Mod.of_below b9)
          have k9 := hid (k8.out.mod (Mod.of_below b9) (Nat.lt_of_lt_of_le hB9 m08.size) (Nat.lt_of_lt_of_le hbX m08.size))))
      | fail)
  go_wp2_with fail
  go_ret
  exact ⟨rfl, m09.below0 HBT.out HBT.out.size⟩

theorem own : ownKnob Try.prog.godebug = none := by kernel_rfl
theorem laidOut : laidOutB Try.prog = true := by kernel_rfl
set_option maxRecDepth 100000 in
theorem lifted (os : Os) (started : os.Started) (H : Type) (enc : TypeId × Value → H) :
    ReturnsInHanded {} Try.checked os 14 .any (Rows.fnPlanAddSpec.pre6 enc Try.prog Try.f14 Rows.fnPlanAddRow.domain false) (Rows.fnPlanAddSpec.post enc Try.prog Try.f14 false true false false) := by
  refine returnsInHanded_of_change (C := Try.checked) own started (by kernel_rfl) Try.func14
    (ChangeSpec.witness6 (enc := enc) (C := Try.checked) false ⟨#[], #[.slice none 0 0], []⟩ 8 (by kernel_rfl) (by kernel_rfl) (by kernel_rfl) (by kernel_rfl)) ?_
  intro W base args ds gs before hval0 hW _ _
  have hval : ∀ (j : Nat) t v, Try.f14.params[j]? = some t → args[j]? = some v → Value.okWide Try.prog W .any base t v := hval0
  have hW' := hW
  obtain ⟨p, q, hA0, hV, rfl, _, _⟩ := hW
  have hA : DataW.TrodAll enc Try.prog W 0 (fun _ => true) true Try.f14.params.toList args.toList ds p := hA0
  rw [Try.params14] at hA hval
  obtain ⟨v0, vs0, d0, ds0, p0, q0, hargs, rfl, rfl, h0, r0⟩ := trodAll_cons hA
  obtain ⟨rfl, rfl, rfl⟩ := trodAll_nil r0
  obtain rfl : args = #[v0] := by cases args; simp_all
  obtain ⟨rfl, rfl⟩ := trodVars_none hV
  have k0 := h0
  have lt0 : ∀ x ∈ p0, x.block < W.heap.size := by obtain ⟨m, hm⟩ := k0; exact DataW.trod_lt m _ _ _ hm
  obtain ⟨x0, w0⟩ := open_bl (hval 0 53 v0 rfl rfl) h0
  clear hA0 hval0
  refine (walk v0 x0 W w0).mono fun e W' ⟨he, bel⟩ => ?_
  subst he
  exact ⟨_, rfl, _, _, _, [], _, [], hW', trodAll_mk1 (shut_bool Try.underlying4 _), (trodAll_cons_mk (Below.trod laidOut (by kernel_rfl) (of_decide_eq_true (by kernel_rfl)) k0 bel lt0) trodAll_mk0), rfl, bel.frame _, fun h => by cases h⟩

theorem over : Rows.fnPlanAddRow.holds Try.pinned (OpenSpec.ofChange Rows.fnPlanAddSpec) :=
  OpenClaim.holds_of_wide 14 Try.f14 rfl rfl rfl rfl rfl rfl rfl ⟨rfl, rfl, rfl, rfl, rfl⟩ rfl rfl rfl rfl rfl (by kernel_rfl) Try.func14 (by kernel_rfl)
    (of_decide_eq_true (by kernel_rfl)) (by unfold Func.isWrapper; first | (rw [if_pos (by decide +kernel)]; kernel_rfl) | (rw [if_neg (by decide +kernel)]; exact ⟨rfl, rfl⟩))
    (fun os started H enc _ => lifted os started H enc)

theorem proved : Rows.FnPlanAddSaid := over
end Go.Proofs.Yteelobokjidphaa.fnPlanAdd
