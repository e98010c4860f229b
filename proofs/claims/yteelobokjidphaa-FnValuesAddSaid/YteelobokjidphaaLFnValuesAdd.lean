/- A new node changes no row. No condition. -/
import Derived.Test.YteelobokjidphaaRows
import Derived.Test.YteelobokjidphaaArgs
import Derived.Test.YteelobokjidphaaDrawAdd
import Derived.Test.YteelobokjidphaaAddLaw
import Derived.Test.YteelobokjidphaaSameRow
import Derived.Test.YteelobokjidphaaValuesOf
import Derived.Test.YteelobokjidphaaValuesLaw
import Derived.Test.YteelobokjidphaaMarkRows
namespace Go.Proofs.Yteelobokjidphaa.fnValuesAdd
open Go.ChangeShapes Go.WideShapes Go.ChangeAt Go.RowKit

set_option maxRecDepth 50000 in
set_option maxHeartbeats 4000000 in
theorem walk (v0 : Value) (x0 : List Int) (w : World) (w0 : BL w v0 x0) :
    Calls Try.prog 7 #[v0] w fun e w' => e = .returned (.bool true) ∧ Below w.heap.size w w' := by
  obtain ⟨a0, c0, rfl, -⟩ := id w0
  by_cases hl0 : 1048576 < x0.length
  · go_enter Try.func7, Try.ntmps7
    go_wp2_with fail
    go_ret
    exact ⟨rfl, Below.refl _ _⟩
  have hl0' : x0.length ≤ 1048576 := by omega
  clear hl0
  go_enter Try.func7, Try.ntmps7
  go_wp2_with fail
  refine (drawAdd_any _ x0 w w0).mono ?_
  rintro e w1 ⟨vp, ns, kd, vf, vr, fs, row, rfl, hp, hsh, hf0, hr0, hfl, hrl, bt⟩
  obtain ⟨ap, cp, rfl, hpl1, hpl2⟩ := hp.shape
  unfold maxLen at hpl2
  obtain ⟨af, cf, rfl, hf1, hf2, -⟩ := id hf0
  obtain ⟨ar, cr, rfl, -⟩ := id hr0
  unfold maxLen at hf2
  have hl11 := hsh.1
  have hsl : ∀ i, i < ns.length → (ns.getD i nd0).fs.length < 1099511627776 ∧ (ns.getD i nd0).row.length < 1099511627776 := fun i hi => by
    have e : ns.getD i nd0 = ns[i] := by simp [hi]
    have := hsh.2 (ns.getD i nd0) (by rw [e]; exact List.getElem_mem _)
    omega
  have HSL := hid hsl
  have mX := Mod.alloc w1 (.cells #[.int .i64 kd, .slice af fs.length cf, .slice ar row.length cr] 48)
  obtain ⟨X, hX⟩ : ∃ X, X = w1.alloc (.cells #[.int .i64 kd, .slice af fs.length cf, .slice ar row.length cr] 48) := ⟨_, rfl⟩
  rw [← hX] at mX
  have B : NB X w1.heap.size kd (.slice af fs.length cf) (.slice ar row.length cr) := by unfold NB; rw [hX]; exact heap_alloc_new w1 _
  have A := hp.pl.mod mX (.inr (Nat.zero_le _))
  have F := hf0.rr.mod mX (.inr (Nat.zero_le _))
  have R := hr0.rr.mod mX (.inr (Nat.zero_le _))
  have s1 := mX.size
  have hB1 := B.lt
  replace bt := mX.below0 bt bt.size
  have HX := hid hX
  obtain ⟨L, hL⟩ : ∃ L, L = addL ns ⟨kd, fs, row⟩ := ⟨_, rfl⟩
  obtain ⟨ok, hok⟩ : ∃ ok, ok = addB ns ⟨kd, fs, row⟩ := ⟨_, rfl⟩
  have HLL := hid hL
  have HOK := hid hok
  clear hX hp w0 hf0 hr0 hsl mX hsh hL hok
  go_wp2_with fail
  rw [← HX.out]
  refine (ipadd_any _ _ _ ns kd fs row _ X A F.rl R.rl HSL.out (by omega) (by omega)).mono ?_
  rintro e w2 ⟨vo, rfl, O, b0⟩
  have m2 := Mod.of_below b0
  rw [← HLL.out] at O
  rw [← HOK.out]
  obtain ⟨ao, co, rfl, ho1, ho2⟩ := O.shape
  unfold maxLen at ho2
  replace A := A.mod m2 (by omega)
  replace F := F.mod m2 (by omega)
  replace R := R.mod m2 (by omega)
  replace B := B.mod m2 (by omega)
  have s2 := m2.size
  replace bt := m2.below0 bt bt.size
  clear b0
  have c0 := B.c0
  have c1 := B.c1
  have c2 := B.c2
  go_wp2_with fail
  refine (spadd_any _ _ _ ns kd fs row _ _ A F.rl R.rl (by omega) HSL.out (by omega) (by omega)).mono ?_
  rintro e w3 ⟨vw, rfl, W, b0⟩
  have m3 := Mod.of_below b0
  rw [← HLL.out] at W
  rw [← HOK.out]
  clear c0 c1 c2
  replace A := A.mod m3 (by omega)
  replace F := F.mod m3 (by omega)
  replace R := R.mod m3 (by omega)
  replace B := B.mod m3 (by omega)
  replace O := O.mod m3 (by omega)
  have s3 := m3.size
  replace bt := m3.below0 bt bt.size
  clear b0
  cases hok : ok
  · clear hok
    go_wp2_with fail
    refine (samePlan_m _ _ L _ _ _ O.pl W).mono ?_
    rintro e w4 ⟨rfl, m4⟩
    replace A := A.mod m4 (by omega)
    replace F := F.mod m4 (by omega)
    replace R := R.mod m4 (by omega)
    replace B := B.mod m4 (by omega)
    replace O := O.mod m4 (by omega)
    replace W := W.mod m4 (by omega)
    have s4 := m4.size
    replace bt := m4.below0 bt bt.size
    go_wp2_with fail
    refine (samePlan_m _ _ L _ _ _ O.pl W).mono ?_
    rintro e w5 ⟨rfl, m5⟩
    replace A := A.mod m5 (by omega)
    replace F := F.mod m5 (by omega)
    replace R := R.mod m5 (by omega)
    replace B := B.mod m5 (by omega)
    replace O := O.mod m5 (by omega)
    replace W := W.mod m5 (by omega)
    have s5 := m5.size
    replace bt := m5.below0 bt bt.size
    go_wp2_with fail
    go_ret
    exact ⟨rfl, bt⟩
  rw [HOK.out] at hok
  obtain ⟨hpb, hpb2, hLL⟩ := add_parts hok
  rw [← HLL.out] at hLL
  have HPB := hid hpb
  have HPB2 := hid hpb2
  have HLN := hid hLL
  clear hok hpb hpb2 hLL HOK
  go_wp2_with fail
  refine (samePlan_m _ _ L _ _ _ O.pl W).mono ?_
  rintro e w4 ⟨rfl, m4⟩
  replace A := A.mod m4 (by omega)
  replace F := F.mod m4 (by omega)
  replace R := R.mod m4 (by omega)
  replace B := B.mod m4 (by omega)
  replace O := O.mod m4 (by omega)
  replace W := W.mod m4 (by omega)
  have s4 := m4.size
  replace bt := m4.below0 bt bt.size
  have hva := vals_add (m := ⟨kd, fs, row⟩) HPB.out (by rw [← HLN.out]; rw [HLN.out]; exact HPB2.out)
  obtain ⟨V, hV⟩ : ∃ V, V = valsR ns := ⟨_, rfl⟩
  obtain ⟨U, hU⟩ : ∃ U, U = valsR L := ⟨_, rfl⟩
  have hUL : planB L = true := by rw [HLN.out]; exact HPB2.out
  rw [← HLN.out, ← hV, ← hU] at hva
  have hVl : V.length = ns.length := by rw [hV, valsR_of HPB.out, valsN_length]
  obtain ⟨M, hM⟩ : ∃ M, M = ns.length + 1 := ⟨_, rfl⟩
  have hUl : U.length = M := by rw [hva.2, hM]
  have HV := hid hV
  have HU := hid hU
  have HVL := hid hVl
  have HUL := hid hUl
  have HPL := hid hUL
  have HTK := hid hva.1
  have hbeq : ((M : Int) == (ns.length : Int) + 1) = true := by rw [hM]; simp
  have hM1 : (ns.length : Int) ≤ (M : Int) := by omega
  have hM0 : 0 < M := by omega
  have hMn : ns.length ≤ M := by omega
  clear hva hV hU hVl hUl hUL hM W B F R
  go_wp2_with fail
  refine (ivalues_any _ ns _ _ A).mono ?_
  rintro e w5 ⟨va, rfl, XA, b0⟩
  have m5 := Mod.of_below b0
  replace XA := XA.grid.rs
  rw [← HV.out] at XA
  rw [HPB.out]
  obtain ⟨aa, ca, rfl, ha1, ha2⟩ := XA.shape
  rw [HVL.out] at XA ha1 ⊢
  replace A := A.mod m5 (by omega)
  replace O := O.mod m5 (by omega)
  have s5 := m5.size
  replace bt := m5.below0 bt bt.size
  clear b0
  go_wp2_with fail
  refine (ivalues_any _ L _ _ O.pl).mono ?_
  rintro e w6 ⟨vb, rfl, XB, b0⟩
  have m6 := Mod.of_below b0
  replace XB := XB.grid.rs
  rw [← HU.out] at XB
  rw [HPL.out]
  obtain ⟨ab, cb, rfl, hb1, hb2⟩ := XB.shape
  rw [HUL.out] at XB hb1 ⊢
  replace A := A.mod m6 (by omega)
  replace O := O.mod m6 (by omega)
  replace XA := XA.mod m6 (by omega)
  have s6 := m6.size
  replace bt := m6.below0 bt bt.size
  clear b0
  have hz0 : ab ≠ none := by
    obtain ⟨ay, cy, e9, -, -, -, hxr⟩ := id XB
    simp only [Value.slice.injEq] at e9
    obtain ⟨rfl, -, rfl⟩ := e9
    obtain ⟨b9, o9, u9, e9, -⟩ := hxr 0 (by rw [HUL.out]; exact hM0)
    rw [e9]; simp
  obtain ⟨aa9, rfl⟩ := Option.ne_none_iff_exists'.1 hz0
  have X2 := XB.take (k := ns.length) hMn
  rw [HTK.out] at X2
  have kc : (ns.length : Int) ≤ (cb : Int) := by omega
  clear hz0 A O
  go_wp2_with fail
  refine (sameRows_m _ _ V _ _ _ X2 XA).mono ?_
  rintro e w7 ⟨rfl, m7⟩
  replace XA := XA.mod m7 (by omega)
  replace XB := XB.mod m7 (by omega)
  replace X2 := X2.mod m7 (by omega)
  have s7 := m7.size
  replace bt := m7.below0 bt bt.size
  go_wp2_with fail
  go_ret
  exact ⟨rfl, bt⟩

theorem own : ownKnob Try.prog.godebug = none := by kernel_rfl
theorem laidOut : laidOutB Try.prog = true := by kernel_rfl
set_option maxRecDepth 100000 in
theorem lifted (os : Os) (started : os.Started) (H : Type) (enc : TypeId × Value → H) :
    ReturnsInHanded {} Try.checked os 7 .any (Rows.fnValuesAddSpec.pre6 enc Try.prog Try.f7 Rows.fnValuesAddRow.domain false) (Rows.fnValuesAddSpec.post enc Try.prog Try.f7 false true false false) := by
  refine returnsInHanded_of_change (C := Try.checked) own started (by kernel_rfl) Try.func7
    (ChangeSpec.witness6 (enc := enc) (C := Try.checked) false ⟨#[], #[.slice none 0 0], []⟩ 8 (by kernel_rfl) (by kernel_rfl) (by kernel_rfl) (by kernel_rfl)) ?_
  intro W base args ds gs before hval0 hW _ _
  have hval : ∀ (j : Nat) t v, Try.f7.params[j]? = some t → args[j]? = some v → Value.okWide Try.prog W .any base t v := hval0
  have hW' := hW
  obtain ⟨p, q, hA0, hV, rfl, _, _⟩ := hW
  have hA : DataW.TrodAll enc Try.prog W 0 (fun _ => true) true Try.f7.params.toList args.toList ds p := hA0
  rw [Try.params7] at hA hval
  obtain ⟨v0, vs0, d0, ds0, p0, q0, hargs, rfl, rfl, h0, r0⟩ := trodAll_cons hA
  obtain ⟨rfl, rfl, rfl⟩ := trodAll_nil r0
  obtain rfl : args = #[v0] := by cases args; simp_all
  obtain ⟨rfl, rfl⟩ := trodVars_none hV
  have k0 := h0
  have lt0 : ∀ x ∈ p0, x.block < W.heap.size := by obtain ⟨m, hm⟩ := k0; exact DataW.trod_lt m _ _ _ hm
  obtain ⟨x0, w0⟩ := open_bl (hval 0 53 v0 rfl rfl) h0
  clear hA0 hval0
  refine (walk v0 x0 W w0).mono fun e W' ⟨he, bel⟩ => ?_
  subst he
  exact ⟨_, rfl, _, _, _, [], _, [], hW', trodAll_mk1 (shut_bool Try.underlying4 _), (trodAll_cons_mk (Below.trod laidOut (by kernel_rfl) (of_decide_eq_true (by kernel_rfl)) k0 bel lt0) trodAll_mk0), rfl, bel.frame _, fun h => by cases h⟩

theorem over : Rows.fnValuesAddRow.holds Try.pinned (OpenSpec.ofChange Rows.fnValuesAddSpec) :=
  OpenClaim.holds_of_wide 7 Try.f7 rfl rfl rfl rfl rfl rfl rfl ⟨rfl, rfl, rfl, rfl, rfl⟩ rfl rfl rfl rfl rfl (by kernel_rfl) Try.func7 (by kernel_rfl)
    (of_decide_eq_true (by kernel_rfl)) (by unfold Func.isWrapper; first | (rw [if_pos (by decide +kernel)]; kernel_rfl) | (rw [if_neg (by decide +kernel)]; exact ⟨rfl, rfl⟩))
    (fun os started H enc _ => lifted os started H enc)

theorem proved : Rows.FnValuesAddSaid := over
end Go.Proofs.Yteelobokjidphaa.fnValuesAdd
