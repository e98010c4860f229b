/- Neighbours that do not need each other may be exchanged. No condition. -/
import Derived.Test.YthdhjlefkdfkkaaRows
import Derived.Test.YthdhjlefkdfkkaaArgs
import Derived.Test.YthdhjlefkdfkkaaDrawPlans
import Derived.Test.YthdhjlefkdfkkaaSameRow
import Derived.Test.YthdhjlefkdfkkaaPlanLaw
import Derived.Test.YthdhjlefkdfkkaaUse
import Derived.Test.YthdhjlefkdfkkaaOrder
import Derived.Test.YthdhjlefkdfkkaaOrderRef
import Derived.Test.YthdhjlefkdfkkaaDrawOrder
import Derived.Test.YthdhjlefkdfkkaaSwapLaw
import Derived.Test.YthdhjlefkdfkkaaAppAll
namespace Go.Proofs.Ythdhjlefkdfkkaa.fnOrderSwap
open Go.ChangeShapes Go.WideShapes Go.ChangeAt Go.RowKit

set_option maxRecDepth 50000 in
set_option maxHeartbeats 4000000 in
theorem walk (v0 : Value) (x0 : List Int) (v1 : Value) (x1 : List Int) (w : World) (w0 : BL w v0 x0) (w1 : BL w v1 x1) :
    Calls Try.prog 11 #[v0, v1] w fun e w' => e = .returned (.bool true) ∧ Below w.heap.size w w' := by
  obtain ⟨a0, c0, rfl, -⟩ := id w0
  obtain ⟨a1, c1, rfl, -⟩ := id w1
  by_cases hl0 : 1048576 < x0.length
  · go_enter Try.func11, Try.ntmps11
    go_wp2_with fail
    go_ret
    exact ⟨rfl, Below.refl _ _⟩
  have hl0' : x0.length ≤ 1048576 := by omega
  by_cases hl1 : 1048576 < x1.length
  · clear hl0
    go_enter Try.func11, Try.ntmps11
    go_wp2_with fail
    go_ret
    exact ⟨rfl, Below.refl _ _⟩
  have hl1' : x1.length ≤ 1048576 := by omega
  clear hl0 hl1
  go_enter Try.func11, Try.ntmps11
  go_wp2_with fail
  refine (drawOrderFits_any _ x0 w w0).mono ?_
  rintro e W1 ⟨vp, vd, ns, l, rfl, hp, hsh, hd0, hdl, bt⟩
  obtain ⟨ap, cp, rfl, hpl1, hpl2⟩ := hp.shape
  unfold maxLen at hpl2
  have A := hp.pl
  have D := hd0.rr
  obtain ⟨ad, cd, rfl, hdc0, hdc, -⟩ := id hd0
  unfold maxLen at hdc
  have hl11 := hsh.1
  have s1 := bt.size
  clear hp w0 w1 hd0
  go_wp2_with fail
  refine (iorder_any _ _ ns l _ _ A D.rl).mono ?_
  rintro e w2 ⟨rfl, m2⟩
  replace A := A.mod m2 (by omega)
  replace D := D.mod m2 (by omega)
  have s2 := m2.size
  replace bt := m2.below0 bt bt.size
  go_wp2_with fail
  refine (sorder_any _ _ ns l _ _ A D.rl (by omega)).mono ?_
  rintro e w3 ⟨rfl, m3⟩
  replace A := A.mod m3 (by omega)
  replace D := D.mod m3 (by omega)
  have s3 := m3.size
  replace bt := m3.below0 bt bt.size
  cases hob : orderB ns l
  · have HOB := hid hob
    clear hob
    go_wp2_with fail
    go_ret
    exact ⟨rfl, bt⟩
  by_cases hn2 : l.length < 2
  · have hz : decide ((l.length : Int) < 2) = true := decide_eq_true (by omega)
    have HOB := hid hob
    clear hob
    go_wp2_with fail
    go_ret
    exact ⟨rfl, bt⟩
  have hz : decide ((l.length : Int) < 2) = false := decide_eq_false (by omega)
  have hz' : ¬ (l.length : Int) < 2 := by omega
  obtain ⟨K, hK⟩ : ∃ K, K = x1.length % (l.length - 1) := ⟨_, rfl⟩
  have hK1 : K + 1 < l.length := by have : x1.length % (l.length - 1) < l.length - 1 := Nat.mod_lt _ (by omega); omega
  have eK : (x1.length : Int) % ((l.length : Int) - 1) = (K : Int) := by rw [hK, Int.natCast_emod]; congr 1; omega
  have hne : ¬ ((l.length : Int) - 1 = 0) := by omega
  have hne' : (((l.length : Int) - 1) == 0) = false := by simpa using hne
  have HSW := hid (swap_order hK1 hob)
  have hst := beginsB_at (by unfold orderB at hob; simp only [Bool.and_eq_true] at hob; exact hob.2 : beginsB ns l = true) hK1
  have hin : 0 ≤ l.getD (K + 1) 0 ∧ l.getD (K + 1) 0 < (ns.length : Int) := by
    unfold stepB inB at hst
    simp only [Bool.and_eq_true, decide_eq_true_eq] at hst
    omega
  obtain ⟨j, hj⟩ := Int.eq_ofNat_of_zero_le hin.1
  have hjn : j < ns.length := by omega
  obtain ⟨X, hX⟩ : ∃ X : World, X = w3 := ⟨_, rfl⟩
  rw [← hX] at A D bt ⊢
  obtain ⟨M, hM⟩ : ∃ M, M = K + 1 := ⟨_, rfl⟩
  have eM : (K : Int) + 1 = (M : Int) := by omega
  have k0 : (0 : Int) ≤ (K : Int) := by omega
  have k1 : (K : Int) < (l.length : Int) := by omega
  have m0 : (0 : Int) ≤ (M : Int) := by omega
  have m1 : (M : Int) < (l.length : Int) := by omega
  rw [← hM] at hj HSW
  rw [hj, Int.toNat_natCast] at HSW
  have hB : w.heap.size ≤ X.heap.size := bt.size
  have hWX : W1.heap.size ≤ X.heap.size := by obtain ⟨_, _, _, _, _, h, _⟩ := A; exact h
  have hE : OI (X.alloc (.cells #[] 3)) X.heap.size (.slice (some ⟨X.heap.size, 0, none⟩) 0 0) [] := OI.fresh0 X (Nat.le_refl _)
  have mE := Mod.alloc X (.cells #[] 3)
  have DE := (D.mod mE (by omega)).rl
  have hbE : Below X.heap.size X (X.alloc (.cells #[] 3)) := (Below.refl _ _).alloc (Nat.le_refl _) _
  have HA := hid A
  have HD := hid D
  have HBT := hid bt
  have HJ := hid hj
  have HM := hid hM
  clear hob hst hin hK hX A D bt hsh hj hM
  go_wp2_with (first
    | ((at_builtin; refine appAll rfl _ _ 26 rfl Try.underlying26 X.heap.size _ _ [] l hE DE (by rfl) (by rfl) (by simp; omega) hbE hbE.size ?_; intro v5 w5 ho5 hb5 _
        rw [List.nil_append] at ho5
        obtain ⟨g, c5, rfl, hg1, hg2, hc5, hc6⟩ := ho5.at (i := 0) (by omega)
        have m5 := Mod.of_below hb5
        obtain ⟨ad', cd', e6, -, -, -, hdx⟩ := HD.out.mod m5 (.inr (Nat.zero_le _))
        simp only [Value.slice.injEq] at e6
        obtain ⟨rfl, -, rfl⟩ := e6
        obtain ⟨bd, od, rfl, hbd, hcK⟩ := hdx K (by omega)
        obtain ⟨bd', od', e7, hbd', hcM⟩ := hdx M (by omega)
        simp only [Option.some.injEq, Addr.mk.injEq, and_true] at e7
        obtain ⟨rfl, rfl⟩ := e7
        have z0 := (ho5.cell (i := K) (by omega)).2
        have z1 := (ho5.cell (i := M) (by omega)).2
        obtain ⟨u0, g0⟩ : ∃ u, w5.cell? ⟨g, K, none⟩ = some (.int .i64 u) := ⟨_, (ho5.cell (i := K) (by omega)).1⟩
        obtain ⟨u1, g1⟩ : ∃ u, w5.cell? ⟨g, M, none⟩ = some (.int .i64 u) := ⟨_, (ho5.cell (i := M) (by omega)).1⟩
        have hKM : ¬ K = M := by omega
        have hKM' : ¬ M = K := by omega
        rw [HJ.out] at hcM
        obtain ⟨y, hy⟩ : ∃ y, y = l.getD K 0 := ⟨_, rfl⟩
        rw [← hy] at hcK HSW
        have HY := hid hy
        have hgb : ¬ bd = g := by omega
        have hgb' : ¬ g = bd := by omega
        have HO := hid ((ho5.set K (j : Int)).set M y)
        have HMX := hid ((m5.zero (A := X.heap.size) (B := w5.heap.size)).trans ((Mod.setCell (A := X.heap.size) (B := w5.heap.size) (a := ⟨g, K, none⟩) hg1 hg2 (.int .i64 j)).trans (Mod.setCell (A := X.heap.size) (B := w5.heap.size) (a := ⟨g, M, none⟩) hg1 hg2 (.int .i64 y))))
        clear hdx hy ho5 hb5 m5))
    | fail)
  obtain ⟨Y, hY⟩ : ∃ Y : World, Y = (w5.setCell ⟨g, K, none⟩ (.int .i64 j)).setCell ⟨g, M, none⟩ (.int .i64 y) := ⟨_, rfl⟩
  rw [← hY]
  have mY : Mod X.heap.size w5.heap.size X Y := by rw [hY]; exact HMX.out
  have oY : OI Y X.heap.size (.slice (some ⟨g, 0, none⟩) l.length c5) ((l.set K (j : Int)).set M y) := by rw [hY]; exact HO.out
  have bY := hid (mY.below HBT.out hB hB)
  have A' := HA.out.mod mY (.inl hWX)
  obtain ⟨ap', cp', e1, -, -, -, hnd⟩ := id A'
  simp only [Value.slice.injEq] at e1
  obtain ⟨rfl, -, rfl⟩ := e1
  obtain ⟨b, o, f, r, rfl, hb, c0, n1, n2, hf, hr⟩ := hnd j hjn
  obtain ⟨fs, hfs⟩ : ∃ fs, fs = fsN ns j := ⟨_, rfl⟩
  have hfs' : fs = (ns.getD j nd0).fs := hfs
  rw [← hfs'] at hf
  obtain ⟨af, cf, rfl, -⟩ := id hf
  obtain ⟨ad', cd', e8, -, -, -, hdy⟩ := HD.out.mod mY (.inl hWX)
  simp only [Value.slice.injEq] at e8
  obtain ⟨rfl, -, rfl⟩ := e8
  obtain ⟨b1, o1, e9, hb1, dK⟩ := hdy K (by omega)
  simp only [Option.some.injEq, Addr.mk.injEq, and_true] at e9
  obtain ⟨rfl, rfl⟩ := e9
  obtain ⟨b1, o1, e9, -, dM⟩ := hdy M (by omega)
  simp only [Option.some.injEq, Addr.mk.injEq, and_true] at e9
  obtain ⟨rfl, rfl⟩ := e9
  rw [HJ.out] at dM
  rw [← HY.out] at dK
  have HNF := hid hfs
  have hsz := mY.size
  clear hnd hdy c0 n2 hr hfs hfs' hY g0 g1 z0 z1 hcK hcM HO HMX mE hE DE hbE
  have hYw : W1.heap.size ≤ Y.heap.size := by omega
  have A0 : PL Y.drew W1.heap.size _ ns := A'
  have O0 : RL Y.drew (.slice (some ⟨g, 0, none⟩) l.length c5) ((l.set K (j : Int)).set M y) := oY.rl
  obtain ⟨hv, hhv⟩ : ∃ hv, hv = hasB fs y := ⟨_, rfl⟩
  have HS2 : Hid (orderB ns ((l.set K (j : Int)).set M y) = !hv) := hid (by rw [HSW.out, hhv, HNF.out])
  have HHV := hid hhv
  clear hhv HSW
  have hwM : IntKind.i64.wrap (M : Int) = (M : Int) := IntWalk.i64_in _ (by omega)
  have hwK : IntKind.i64.wrap ((K : Int) + 1) = (M : Int) := by rw [eM]; exact hwM
  have x0 : (0 : Int) ≤ (j : Int) := by omega
  have x1 : (j : Int) < (ns.length : Int) := by omega
  go_region_held3 (fun w' => w'.cell? ⟨bd, od + K, none⟩ = some (.int .i64 y) ∧ w'.cell? ⟨bd, od + M, none⟩ = some (.int .i64 (j : Int)) ∧ w'.cell? ⟨b, o + j * 3 + 1, none⟩ = some (.slice af fs.length cf))
    (first | go_keep | (go_split_ands; exact ⟨(World.cell?_of_block (a := ⟨bd, od + K, none⟩) (m6.block bd (Nat.lt_of_lt_of_le hb1 hYw) (.inr (Nat.zero_le _)))).trans dK, (World.cell?_of_block (a := ⟨bd, od + M, none⟩) (m6.block bd (Nat.lt_of_lt_of_le hb1 hYw) (.inr (Nat.zero_le _)))).trans dM, (World.cell?_of_block (a := ⟨b, o + j * 3 + 1, none⟩) (m6.block b (Nat.lt_of_lt_of_le hb hYw) (.inr (Nat.zero_le _)))).trans n1⟩))
    (first
      | ((go_at_call 30; refine (iorder_any _ _ ns _ _ _ A0 O0).mono ?_; rintro e w6 ⟨rfl, m6⟩
          rw [HS2.out]
          have hf6 := (hf.mod ((Mod.drewN Y 1).trans m6) (.inr (Nat.zero_le _))).rl))
      | ((go_at_call 19; refine (hasInt_any _ fs y w6 hf6).mono ?_; rintro e _ ⟨rfl, rfl⟩
          rw [← HHV.out]))
      | fail)
  have hb6 := hid (m6.below0 ((Mod.drewN Y 1).below0 bY.out bY.out.size) bY.out.size)
  go_wp2_with fail
  go_ret
  exact ⟨by cases hv <;> rfl, hb6.out⟩

theorem own : ownKnob Try.prog.godebug = none := by kernel_rfl
theorem laidOut : laidOutB Try.prog = true := by kernel_rfl
set_option maxRecDepth 100000 in
theorem lifted (os : Os) (started : os.Started) (H : Type) (enc : TypeId × Value → H) :
    ReturnsInHanded {} Try.checked os 11 .any (Rows.fnOrderSwapSpec.pre6 enc Try.prog Try.f11 Rows.fnOrderSwapRow.domain false) (Rows.fnOrderSwapSpec.post enc Try.prog Try.f11 false true false false) := by
  refine returnsInHanded_of_change (C := Try.checked) own started (by kernel_rfl) Try.func11
    (ChangeSpec.witness6 (enc := enc) (C := Try.checked) false ⟨#[], #[.slice none 0 0, .slice none 0 0], []⟩ 8 (by kernel_rfl) (by kernel_rfl) (by kernel_rfl) (by kernel_rfl)) ?_
  intro W base args ds gs before hval0 hW _ _
  have hval : ∀ (j : Nat) t v, Try.f11.params[j]? = some t → args[j]? = some v → Value.okWide Try.prog W .any base t v := hval0
  have hW' := hW
  obtain ⟨p, q, hA0, hV, rfl, _, _⟩ := hW
  have hA : DataW.TrodAll enc Try.prog W 0 (fun _ => true) true Try.f11.params.toList args.toList ds p := hA0
  rw [Try.params11] at hA hval
  obtain ⟨v0, vs0, d0, ds0, p0, q0, hargs, rfl, rfl, h0, r0⟩ := trodAll_cons hA
  obtain ⟨v1, vs1, d1, ds1, p1, q1, rfl, rfl, rfl, h1, r1⟩ := trodAll_cons r0
  obtain ⟨rfl, rfl, rfl⟩ := trodAll_nil r1
  obtain rfl : args = #[v0, v1] := by cases args; simp_all
  obtain ⟨rfl, rfl⟩ := trodVars_none hV
  have k0 := h0
  have lt0 : ∀ x ∈ p0, x.block < W.heap.size := by obtain ⟨m, hm⟩ := k0; exact DataW.trod_lt m _ _ _ hm
  obtain ⟨x0, w0⟩ := open_bl (hval 0 22 v0 rfl rfl) h0
  have k1 := h1
  have lt1 : ∀ x ∈ p1, x.block < W.heap.size := by obtain ⟨m, hm⟩ := k1; exact DataW.trod_lt m _ _ _ hm
  obtain ⟨x1, w1⟩ := open_bl (hval 1 22 v1 rfl rfl) h1
  clear hA0 hval0
  refine (walk v0 x0 v1 x1 W w0 w1).mono fun e W' ⟨he, bel⟩ => ?_
  subst he
  exact ⟨_, rfl, _, _, _, [], _, [], hW', trodAll_mk1 (shut_bool Try.underlying4 _), (trodAll_cons_mk (Below.trod laidOut (by kernel_rfl) (of_decide_eq_true (by kernel_rfl)) k0 bel lt0) (trodAll_cons_mk (Below.trod laidOut (by kernel_rfl) (of_decide_eq_true (by kernel_rfl)) k1 bel lt1) trodAll_mk0)), rfl, bel.frame _, fun h => by cases h⟩

theorem over : Rows.fnOrderSwapRow.holds Try.pinned (OpenSpec.ofChange Rows.fnOrderSwapSpec) :=
  OpenClaim.holds_of_wide 11 Try.f11 rfl rfl rfl rfl rfl rfl rfl ⟨rfl, rfl, rfl, rfl, rfl⟩ rfl rfl rfl rfl rfl (by kernel_rfl) Try.func11 (by kernel_rfl)
    (of_decide_eq_true (by kernel_rfl)) (by unfold Func.isWrapper; first | (rw [if_pos (by decide +kernel)]; kernel_rfl) | (rw [if_neg (by decide +kernel)]; exact ⟨rfl, rfl⟩))
    (fun os started H enc _ => lifted os started H enc)

theorem proved : Rows.FnOrderSwapSaid := over
end Go.Proofs.Ythdhjlefkdfkkaa.fnOrderSwap
