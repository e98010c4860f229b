/- A new node uses what it needs. No condition. -/
import Derived.Test.YteelobokjidphaaRows
import Derived.Test.YteelobokjidphaaArgs
import Derived.Test.YteelobokjidphaaDrawAdd
import Derived.Test.YteelobokjidphaaAddLaw
import Derived.Test.YteelobokjidphaaSameRow
namespace Go.Proofs.Yteelobokjidphaa.fnPlanAddUses
open Go.ChangeShapes Go.WideShapes Go.ChangeAt Go.RowKit

set_option maxRecDepth 50000 in
set_option maxHeartbeats 4000000 in
theorem walk (v0 : Value) (x0 : List Int) (w : World) (w0 : BL w v0 x0) :
    Calls Try.prog 15 #[v0] w fun e w' => e = .returned (.bool true) ∧ Below w.heap.size w w' := by
  obtain ⟨a0, c0, rfl, -⟩ := id w0
  by_cases hl0 : 1048576 < x0.length
  · go_enter Try.func15, Try.ntmps15
    go_wp2_with fail
    go_ret
    exact ⟨rfl, Below.refl _ _⟩
  have hl0' : x0.length ≤ 1048576 := by omega
  clear hl0
  go_enter Try.func15, Try.ntmps15
  go_wp2_with fail
  refine (drawAdd_any _ x0 w w0).mono ?_
  rintro e w1 ⟨vp, ns, kd, vf, vr, fs, row, rfl, hp, hsh, hf0, hr0, hfl, hrl, bt⟩
  obtain ⟨ap, cp, rfl, hpl1, hpl2⟩ := hp.shape
  unfold maxLen at hpl2
  obtain ⟨af, cf, rfl, hf1, hf2, -⟩ := id hf0
  obtain ⟨ar, cr, rfl, -⟩ := id hr0
  unfold maxLen at hf2
  have hl11 := hsh.1
  have hsl : ∀ i, i < ns.length → (ns.getD i nd0).fs.length < 1099511627776 ∧ (ns.getD i nd0).row.length < 1099511627776 := fun i hi => by
    have e : ns.getD i nd0 = ns[i] := by simp [hi]
    have := hsh.2 (ns.getD i nd0) (by rw [e]; exact List.getElem_mem _)
    omega
  have HSL := hid hsl
  have mX := Mod.alloc w1 (.cells #[.int .i64 kd, .slice af fs.length cf, .slice ar row.length cr] 48)
  obtain ⟨X, hX⟩ : ∃ X, X = w1.alloc (.cells #[.int .i64 kd, .slice af fs.length cf, .slice ar row.length cr] 48) := ⟨_, rfl⟩
  rw [← hX] at mX
  have B : NB X w1.heap.size kd (.slice af fs.length cf) (.slice ar row.length cr) := by unfold NB; rw [hX]; exact heap_alloc_new w1 _
  have A := hp.pl.mod mX (.inr (Nat.zero_le _))
  have F := hf0.rr.mod mX (.inr (Nat.zero_le _))
  have R := hr0.rr.mod mX (.inr (Nat.zero_le _))
  have s1 := mX.size
  have hB1 := B.lt
  replace bt := mX.below0 bt bt.size
  have HX := hid hX
  obtain ⟨L, hL⟩ : ∃ L, L = addL ns ⟨kd, fs, row⟩ := ⟨_, rfl⟩
  obtain ⟨ok, hok⟩ : ∃ ok, ok = addB ns ⟨kd, fs, row⟩ := ⟨_, rfl⟩
  have HLL := hid hL
  have HOK := hid hok
  clear hX hp w0 hf0 hr0 hsl mX hsh hL hok
  go_wp2_with fail
  rw [← HX.out]
  refine (ipadd_any _ _ _ ns kd fs row _ X A F.rl R.rl HSL.out (by omega) (by omega)).mono ?_
  rintro e w2 ⟨vo, rfl, O, b0⟩
  have m2 := Mod.of_below b0
  rw [← HLL.out] at O
  rw [← HOK.out]
  obtain ⟨ao, co, rfl, ho1, ho2⟩ := O.shape
  unfold maxLen at ho2
  replace A := A.mod m2 (by omega)
  replace F := F.mod m2 (by omega)
  replace R := R.mod m2 (by omega)
  replace B := B.mod m2 (by omega)
  have s2 := m2.size
  replace bt := m2.below0 bt bt.size
  clear b0
  have c0 := B.c0
  have c1 := B.c1
  have c2 := B.c2
  go_wp2_with fail
  refine (spadd_any _ _ _ ns kd fs row _ _ A F.rl R.rl (by omega) HSL.out (by omega) (by omega)).mono ?_
  rintro e w3 ⟨vw, rfl, W, b0⟩
  have m3 := Mod.of_below b0
  rw [← HLL.out] at W
  rw [← HOK.out]
  clear c0 c1 c2
  replace A := A.mod m3 (by omega)
  replace F := F.mod m3 (by omega)
  replace R := R.mod m3 (by omega)
  replace B := B.mod m3 (by omega)
  replace O := O.mod m3 (by omega)
  have s3 := m3.size
  replace bt := m3.below0 bt bt.size
  clear b0
  cases hok : ok
  · clear hok
    go_wp2_with fail
    refine (samePlan_m _ _ L _ _ _ O.pl W).mono ?_
    rintro e w4 ⟨rfl, m4⟩
    replace A := A.mod m4 (by omega)
    replace F := F.mod m4 (by omega)
    replace R := R.mod m4 (by omega)
    replace B := B.mod m4 (by omega)
    replace O := O.mod m4 (by omega)
    replace W := W.mod m4 (by omega)
    have s4 := m4.size
    replace bt := m4.below0 bt bt.size
    go_wp2_with fail
    refine (samePlan_m _ _ L _ _ _ O.pl W).mono ?_
    rintro e w5 ⟨rfl, m5⟩
    replace A := A.mod m5 (by omega)
    replace F := F.mod m5 (by omega)
    replace R := R.mod m5 (by omega)
    replace B := B.mod m5 (by omega)
    replace O := O.mod m5 (by omega)
    replace W := W.mod m5 (by omega)
    have s5 := m5.size
    replace bt := m5.below0 bt bt.size
    go_wp2_with fail
    go_ret
    exact ⟨rfl, bt⟩
  rw [HOK.out] at hok
  obtain ⟨hpb, hpb2, hLL⟩ := add_parts hok
  rw [← HLL.out] at hLL
  have HPB := hid hpb
  have HPB2 := hid hpb2
  have HLN := hid hLL
  clear hok hpb hpb2 hLL HOK
  go_wp2_with fail
  refine (samePlan_m _ _ L _ _ _ O.pl W).mono ?_
  rintro e w4 ⟨rfl, m4⟩
  replace A := A.mod m4 (by omega)
  replace F := F.mod m4 (by omega)
  replace R := R.mod m4 (by omega)
  replace B := B.mod m4 (by omega)
  replace O := O.mod m4 (by omega)
  replace W := W.mod m4 (by omega)
  have s4 := m4.size
  replace bt := m4.below0 bt bt.size
  have huse : ∀ q, q < fs.length → ∃ l : List Nat, usesR L (fs.getD q 0) = numL (l ++ [ns.length]) := fun q hq => by
    rw [HLN.out]
    exact add_uses HPB2.out (n := ⟨kd, fs, row⟩) (by
      have e : fs.getD q 0 = fs[q] := by simp [hq]
      show fs.getD q 0 ∈ fs
      rw [e]; exact List.getElem_mem _)
  have HUSE := hid huse
  obtain ⟨X9, hX9⟩ : ∃ X9 : World, X9 = w4 := ⟨_, rfl⟩
  rw [← hX9] at A F B O bt ⊢
  have hB9 := B.lt
  obtain ⟨a8, c8, e8, -, -, hfs, hf3⟩ := id F
  simp only [Value.slice.injEq] at e8
  obtain ⟨rfl, -, rfl⟩ := e8
  have HF3 := hid hf3
  have HBX := hid B
  have HO := hid O.pl
  have HBT := hid bt
  have c0 := B.c0
  have c1 := B.c1
  have c2 := B.c2
  clear huse hX9 A F R O bt hf3 W B
  go_wp2_with fail
  go_loopw [9] (fun i wr => ∃ j : Nat, j ≤ fs.length ∧ i = .int .i64 j ∧ Mod 0 0 X9 wr) (fun i _ => fs.length - (intOf i).toNat)
  case atStart => exact ⟨0, Nat.zero_le _, rfl, Mod.refl _ _ _⟩
  case round =>
    clear c0 c1 c2
    obtain ⟨j, hj, rfl, hm⟩ := hrel
    have hB := HBX.out.mod hm (.inr (Nat.zero_le _))
    have c1 := hB.c1
    by_cases hlt : j < fs.length
    · obtain ⟨b, o, rfl, hb, hc⟩ := HF3.out j hlt
      replace hc := (World.cell?_of_block (a := ⟨b, o + j, none⟩) (hm.block b (Nat.lt_of_lt_of_le hb hfs) (.inr (Nat.zero_le _)))).trans hc
      obtain ⟨l, hl⟩ := HUSE.out j hlt
      obtain ⟨f, hf⟩ : ∃ f, f = fs.getD j 0 := ⟨_, rfl⟩
      rw [← hf] at hc hl
      have HL := hid hl
      have hpo := HO.out.mod hm (.inr (Nat.zero_le _))
      have j0 : (0 : Int) ≤ (j : Int) := by omega
      have j1 : (j : Int) < (fs.length : Int) := by omega
      clear hl hf hB
      go_wp2_with fail
      refine (iuses_any _ L _ f wr hpo).mono ?_
      rintro e w9 ⟨vu, rfl, U, b9⟩
      rw [HL.out] at U
      have m9 := Mod.of_below b9
      obtain ⟨au, cu, rfl, hu1, hu2, hu3⟩ := U.rl.num
      obtain ⟨M, hM⟩ : ∃ M, M = l.length := ⟨_, rfl⟩
      have hlen : (l ++ [ns.length]).length = M + 1 := by rw [hM]; simp
      obtain ⟨bu, ou, rfl, hbu, hcu⟩ := hu3 M (by omega)
      have hgd : (l ++ [ns.length]).getD M 0 = ns.length := by rw [hM]; simp
      rw [hgd] at hcu
      rw [hlen] at hu1 ⊢
      have hz : (((M + 1 : Nat) : Int) == 0) = false := by rw [beq_eq_false_iff_ne]; omega
      have hwr : IntKind.i64.wrap (((M + 1 : Nat) : Int) - 1) = (M : Int) := by rw [show (((M + 1 : Nat) : Int) - 1) = (M : Int) by omega]; exact IntWalk.i64_in _ (by omega)
      have e1 : ((M + 1 : Nat) : Int) - 1 = (M : Int) := by omega
      have M0 : (0 : Int) ≤ (M : Int) := by omega
      have M1 : (M : Int) < ((M + 1 : Nat) : Int) := by omega
      have hnn : ((ns.length : Int) != (ns.length : Int)) = false := by simp
      obtain ⟨N, hN⟩ : ∃ N, N = M + 1 := ⟨_, rfl⟩
      rw [← hN] at hu1 hz hwr e1 M1 ⊢
      have hN1 : (N : Int) - 1 = (M : Int) := by omega
      clear hlen hgd hM hu3 U hN
      go_wp2_with fail
      go_roundw
      case rel => exact ⟨j + 1, by omega, by go_num, hm.trans m9⟩
      case measure => simp [intOf]; omega
    · obtain rfl : j = fs.length := by omega
      go_wp2_with fail
      go_ret
      exact ⟨rfl, hm.below0 HBT.out HBT.out.size⟩

theorem own : ownKnob Try.prog.godebug = none := by kernel_rfl
theorem laidOut : laidOutB Try.prog = true := by kernel_rfl
set_option maxRecDepth 100000 in
theorem lifted (os : Os) (started : os.Started) (H : Type) (enc : TypeId × Value → H) :
    ReturnsInHanded {} Try.checked os 15 .any (Rows.fnPlanAddUsesSpec.pre6 enc Try.prog Try.f15 Rows.fnPlanAddUsesRow.domain false) (Rows.fnPlanAddUsesSpec.post enc Try.prog Try.f15 false true false false) := by
  refine returnsInHanded_of_change (C := Try.checked) own started (by kernel_rfl) Try.func15
    (ChangeSpec.witness6 (enc := enc) (C := Try.checked) false ⟨#[], #[.slice none 0 0], []⟩ 8 (by kernel_rfl) (by kernel_rfl) (by kernel_rfl) (by kernel_rfl)) ?_
  intro W base args ds gs before hval0 hW _ _
  have hval : ∀ (j : Nat) t v, Try.f15.params[j]? = some t → args[j]? = some v → Value.okWide Try.prog W .any base t v := hval0
  have hW' := hW
  obtain ⟨p, q, hA0, hV, rfl, _, _⟩ := hW
  have hA : DataW.TrodAll enc Try.prog W 0 (fun _ => true) true Try.f15.params.toList args.toList ds p := hA0
  rw [Try.params15] at hA hval
  obtain ⟨v0, vs0, d0, ds0, p0, q0, hargs, rfl, rfl, h0, r0⟩ := trodAll_cons hA
  obtain ⟨rfl, rfl, rfl⟩ := trodAll_nil r0
  obtain rfl : args = #[v0] := by cases args; simp_all
  obtain ⟨rfl, rfl⟩ := trodVars_none hV
  have k0 := h0
  have lt0 : ∀ x ∈ p0, x.block < W.heap.size := by obtain ⟨m, hm⟩ := k0; exact DataW.trod_lt m _ _ _ hm
  obtain ⟨x0, w0⟩ := open_bl (hval 0 53 v0 rfl rfl) h0
  clear hA0 hval0
  refine (walk v0 x0 W w0).mono fun e W' ⟨he, bel⟩ => ?_
  subst he
  exact ⟨_, rfl, _, _, _, [], _, [], hW', trodAll_mk1 (shut_bool Try.underlying4 _), (trodAll_cons_mk (Below.trod laidOut (by kernel_rfl) (of_decide_eq_true (by kernel_rfl)) k0 bel lt0) trodAll_mk0), rfl, bel.frame _, fun h => by cases h⟩

theorem over : Rows.fnPlanAddUsesRow.holds Try.pinned (OpenSpec.ofChange Rows.fnPlanAddUsesSpec) :=
  OpenClaim.holds_of_wide 15 Try.f15 rfl rfl rfl rfl rfl rfl rfl ⟨rfl, rfl, rfl, rfl, rfl⟩ rfl rfl rfl rfl rfl (by kernel_rfl) Try.func15 (by kernel_rfl)
    (of_decide_eq_true (by kernel_rfl)) (by unfold Func.isWrapper; first | (rw [if_pos (by decide +kernel)]; kernel_rfl) | (rw [if_neg (by decide +kernel)]; exact ⟨rfl, rfl⟩))
    (fun os started H enc _ => lifted os started H enc)

theorem proved : Rows.FnPlanAddUsesSaid := over
end Go.Proofs.Yteelobokjidphaa.fnPlanAddUses
