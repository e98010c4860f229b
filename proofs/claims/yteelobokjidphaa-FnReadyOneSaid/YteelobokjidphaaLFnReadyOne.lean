/- What is done is not ready. No condition. -/
import Derived.Test.YteelobokjidphaaRows
import Derived.Test.YteelobokjidphaaArgs
import Derived.Test.YteelobokjidphaaDrawOrder
import Derived.Test.YteelobokjidphaaSameRow
import Derived.Test.YteelobokjidphaaUse
import Derived.Test.YteelobokjidphaaOneLaw
import Derived.Test.YteelobokjidphaaAppAll
import Derived.Test.YteelobokjidphaaDrawNode
namespace Go.Proofs.Yteelobokjidphaa.fnReadyOne
open Go.ChangeShapes Go.WideShapes Go.ChangeAt Go.RowKit

theorem rl_kept {w w' : World} {b n : Nat} {xs : List Int} {row : Option Nat} (h : RL w (.slice (some ⟨b, 0, none⟩) n n) xs) (hg : w.drew.grownBy w' row) (hb : b < w.heap.size) (hne : row ≠ some b) : RL w' (.slice (some ⟨b, 0, none⟩) n n) xs := by
  obtain ⟨a, c, e, h1, h2, h3⟩ := h
  refine ⟨a, c, e, h1, h2, fun i hi => ?_⟩
  obtain ⟨b', o, e2, hb', hc⟩ := h3 i hi
  simp only [Value.slice.injEq] at e
  have e3 : b = b' := by have := e.1.trans e2; simp at this; exact this.1
  subst e3
  exact ⟨b, o, e2, Nat.lt_of_lt_of_le hb' hg.size, (World.cell?_of_block (a := ⟨b, o + i, none⟩) (hg.block b hb (fun e4 => hne e4.symm))).trans hc⟩

set_option maxRecDepth 50000 in
set_option maxHeartbeats 4000000 in
theorem walk (v0 : Value) (x0 : List Int) (w : World) (w0 : BL w v0 x0) :
    Calls Try.prog 16 #[v0] w fun e w' => e = .returned (.bool true) ∧ Below w.heap.size w w' := by
  obtain ⟨a0, c0, rfl, -⟩ := id w0
  by_cases hl0 : 1048576 < x0.length
  · go_enter Try.func16, Try.ntmps16
    go_wp2_with fail
    go_ret
    exact ⟨rfl, Below.refl _ _⟩
  have hl0' : x0.length ≤ 1048576 := by omega
  clear hl0
  go_enter Try.func16, Try.ntmps16
  go_wp2_with fail
  refine (drawReadyOf_any _ x0 w w0).mono ?_
  rintro e w1 ⟨vp, vd, ns, done, rfl, hp, hsh, hd0, hdl, bt⟩
  obtain ⟨ap, cp, rfl, hpl1, hpl2⟩ := hp.shape
  unfold maxLen at hpl2
  have A := hp.pl
  have D := hd0.rr
  obtain ⟨ad, cd, rfl, -, hdc, -⟩ := id hd0
  unfold maxLen at hdc
  have hl11 := hsh.1
  have s1 := bt.size
  clear hp w0 hd0
  go_wp2_with fail
  refine (iready_any _ _ ns done _ _ A D.rl).mono ?_
  rintro e w2 ⟨vo, rfl, O, b0⟩
  have m2 := Mod.of_below b0
  replace O := O.r
  replace A := A.mod m2 (by omega)
  replace D := D.mod m2 (by omega)
  have s2 := m2.size
  replace bt := m2.below0 bt bt.size
  clear b0
  go_wp2_with fail
  refine (sready_any _ _ ns done _ _ A D.rl (by omega)).mono ?_
  rintro e w3 ⟨vw, rfl, W, b0⟩
  have m3 := Mod.of_below b0
  replace W := W.r
  replace A := A.mod m3 (by omega)
  replace D := D.mod m3 (by omega)
  replace O := O.mod m3 (by omega)
  have s3 := m3.size
  replace bt := m3.below0 bt bt.size
  clear b0
  obtain ⟨Lr, hLr⟩ : ∃ Lr, Lr = readyR ns done := ⟨_, rfl⟩
  rw [← hLr] at O W
  obtain ⟨ao, co, rfl, ho1, ho2, -⟩ := id O.rl
  obtain ⟨aw, cw, rfl, -⟩ := id W.rl
  unfold maxLen at ho2
  have HLR := hid hLr
  clear hLr
  go_wp2_with fail
  refine (sameRow_m _ _ Lr Lr _ O.rl W.rl).mono ?_
  rintro e w4 ⟨rfl, m4⟩
  replace A := A.mod m4 (by omega)
  replace D := D.mod m4 (by omega)
  replace O := O.mod m4 (by omega)
  replace W := W.mod m4 (by omega)
  have s4 := m4.size
  replace bt := m4.below0 bt bt.size
  rw [sameB_self]
  by_cases h0 : Lr.length = 0
  · have hz : ((Lr.length : Int) == 0) = true := by simp [h0]
    have H0 := hid h0
    clear h0
    go_wp2_with fail
    refine (sameRow_m _ _ Lr Lr _ O.rl W.rl).mono ?_
    rintro e w5 ⟨rfl, m5⟩
    replace A := A.mod m5 (by omega)
    replace D := D.mod m5 (by omega)
    replace O := O.mod m5 (by omega)
    replace W := W.mod m5 (by omega)
    have s5 := m5.size
    replace bt := m5.below0 bt bt.size
    rw [sameB_self]
    go_wp2_with fail
    go_ret
    exact ⟨rfl, bt⟩
  have hz : ((Lr.length : Int) == 0) = false := by rw [beq_eq_false_iff_ne]; omega
  have hpb : planB ns = true := by
    cases hb : planB ns
    · have := HLR.out; unfold readyR at this; rw [hb] at this; rw [this] at h0; simp at h0
    · rfl
  obtain ⟨q, hq⟩ : ∃ q, q = readyN ns done ns.length := ⟨_, rfl⟩
  have hLq : Lr = numL q := by rw [HLR.out, hq]; unfold readyR; rw [if_pos hpb]
  have hql : Lr.length = q.length := by rw [hLq, numL_length]
  obtain ⟨N, hN⟩ : ∃ N, N = q.getD 0 0 := ⟨_, rfl⟩
  have hL0 : Lr.getD 0 0 = (N : Int) := by rw [hLq, numL_getD (by omega), hN]
  obtain ⟨R2, hR2⟩ : ∃ R2, R2 = readyR ns (done ++ [(N : Int)]) := ⟨_, rfl⟩
  have hR2' : R2 = numL (readyN ns (done ++ [(N : Int)]) ns.length) := by rw [hR2]; unfold readyR; rw [if_pos hpb]
  have hyes : ∀ i, 0 < i → i < Lr.length → hasB R2 (Lr.getD i 0) = true := fun i hi hl => by
    rw [hR2', hLq, numL_getD (by omega), hN]
    exact ready_one hq hi (by omega)
  have hno : hasB R2 (N : Int) = false := by rw [hR2']; exact ready_not N
  obtain ⟨X, hX⟩ : ∃ X : World, X = w4 := ⟨_, rfl⟩
  rw [← hX] at A D O bt ⊢
  obtain ⟨ay, cy, e9, -, -, ho3⟩ := id O.rl
  simp only [Value.slice.injEq] at e9
  obtain ⟨rfl, -, rfl⟩ := e9
  obtain ⟨bo, oo, rfl, hbo, hco⟩ := ho3 0 (by omega)
  rw [hL0, Nat.add_zero] at hco
  have hir : ∀ wx vx, PL wx w1.heap.size (.slice ap ns.length cp) ns → RL wx vx (done ++ [(N : Int)]) → Calls Try.prog 55 #[.slice ap ns.length cp, vx] wx (PostI wx R2) := fun wx vx h h' => by rw [hR2]; exact iready_any _ _ ns _ _ wx h h'
  have HIR := hid hir
  have HYES := hid hyes
  have HNO := hid hno
  have HO3 := hid ho3
  have HL0 := hid hL0
  have HA := hid A
  have HD := hid D
  have HO := hid O
  have HBT := hid bt
  have l0 : (0 : Int) < (Lr.length : Int) := by omega
  have HE6 : Hid ((done ++ [(N : Int)]).length = done.length + 1) := hid (by simp)
  have l00 : 0 < Lr.length := by omega
  have hdn : done.length < 1000 := by omega
  have hone : RL (X.alloc (.cells #[.int .i64 N] 3)) (.slice (some ⟨X.heap.size, 0, none⟩) 1 1) [(N : Int)] := one_rl X N
  have E0 : OI (X.alloc (.cells #[] 3)) X.heap.size (.slice (some ⟨X.heap.size, 0, none⟩) 0 0) [] := OI.fresh0 X (Nat.le_refl _)
  have eE : (X.alloc (.cells #[] 3)).heap.size = X.heap.size + 1 := World.size_alloc _ _
  have eS : (X.alloc (.cells #[.int .i64 N] 3)).heap.size = X.heap.size + 1 := World.size_alloc _ _
  -- E, S
  have ES1 : OI ((X.alloc (.cells #[] 3)).alloc (.cells #[.int .i64 N] 3)) X.heap.size (.slice (some ⟨X.heap.size, 0, none⟩) 0 0) [] := E0.alloc _
  have ES2 : RL ((X.alloc (.cells #[] 3)).alloc (.cells #[.int .i64 N] 3)) (.slice (some ⟨X.heap.size + 1, 0, none⟩) 1 1) [(N : Int)] := by
    have := one_rl (X.alloc (.cells #[] 3)) N
    rw [eE] at this
    exact this
  -- S, E
  have SE1 : OI ((X.alloc (.cells #[.int .i64 N] 3)).alloc (.cells #[] 3)) (X.heap.size + 1) (.slice (some ⟨X.heap.size + 1, 0, none⟩) 0 0) [] := by
    have := OI.fresh0 (X.alloc (.cells #[.int .i64 N] 3)) (B := X.heap.size + 1) (by omega)
    rw [eS] at this
    exact this
  have SE2 : RL ((X.alloc (.cells #[.int .i64 N] 3)).alloc (.cells #[] 3)) (.slice (some ⟨X.heap.size, 0, none⟩) 1 1) [(N : Int)] := (hone.rr.mod (Mod.alloc _ _) (.inr (Nat.zero_le _))).rl
  have mE := Mod.alloc X (.cells #[] 3)
  have mES := (Mod.alloc X (.cells #[] 3)).trans (Mod.alloc _ (.cells #[.int .i64 N] 3))
  have mSE := (Mod.alloc X (.cells #[.int .i64 N] 3)).trans (Mod.alloc _ (.cells #[] 3))
  have sES : X.heap.size + 1 < ((X.alloc (.cells #[] 3)).alloc (.cells #[.int .i64 N] 3)).heap.size := by rw [World.size_alloc, eE]; omega
  have sSE : X.heap.size + 1 < ((X.alloc (.cells #[.int .i64 N] 3)).alloc (.cells #[] 3)).heap.size := by rw [World.size_alloc, eS]; omega
  have H1 := hid E0
  have H2 := hid ES1
  have H3 := hid ES2
  have H4 := hid SE1
  have H5 := hid SE2
  have HSE := hid sSE
  have HES := hid sES
  have kO : ∀ wx, Mod 0 0 X wx → wx.cell? ⟨bo, oo, none⟩ = some (.int .i64 (N : Int)) := fun wx hm => (World.cell?_of_block (a := ⟨bo, oo, none⟩) (hm.block bo hbo (.inr (Nat.zero_le _)))).trans hco
  have KO := hid kO
  clear hpb hq hLq hql hL0 hR2 hR2' hyes hno hX A D O bt ho3 hir hN W hsh E0 ES1 ES2 SE1 SE2 hone eE eS h0 sES sSE kO
  go_wp2_with fail
  go_region_held3 (fun w' => w'.cell? ⟨bo, oo, none⟩ = some (.int .i64 (N : Int)))
    (first | go_keep | exact KO.out _ (m6.trans (Mod.of_below b7)) | exact KO.out _ m6 | exact KO.out _ (m5.trans (Mod.alloc _ _)) | exact KO.out _ m5 | exact KO.out _ (mES.trans (Mod.drewN _ 1)) | exact KO.out _ (mSE.trans (Mod.drewN _ 1)) | exact KO.out _ (mE.trans (Mod.drewN _ 1)))
    (first
      | ((go_at_call 55; refine (HIR.out w6 _ (HA.out.mod m6 (.inr (Nat.zero_le _))) hv6.rl).mono ?_; rintro e w7 ⟨vx, rfl, X7, b7⟩))
      | ((refine step_appAllL rfl _ _ 24 rfl Try.underlying24 X.heap.size _ (.slice ad done.length cd) [] done ?_ ?_ (by rfl) (by rfl) (by simp; omega) (Below.refl _ _) ?_ ?_
          · exact H1.out.drew
          · exact (HD.out.mod (mE.trans (Mod.drewN _ 1)) (.inr (Nat.zero_le _))).rl
          · exact (mE.trans (Mod.drewN _ 1)).size
          intro v5 w5 hv5 hb5 hg5 hl5
          have m5 := (mE.trans (Mod.drewN _ 1)).then_below' hb5 (Nat.le_refl _)
          rw [List.nil_append] at hv5
          have hS5 := one_rl w5 (N : Int)
          obtain ⟨a5, c5, rfl, -⟩ := id hv5.rl))
      | ((refine step_appAllL rfl _ _ 24 rfl Try.underlying24 X.heap.size _ (.slice ad done.length cd) [] done ?_ ?_ (by rfl) (by rfl) (by simp; omega) (Below.refl _ _) ?_ ?_
          · exact H2.out.drew
          · exact (HD.out.mod (mES.trans (Mod.drewN _ 1)) (.inr (Nat.zero_le _))).rl
          · exact (mES.trans (Mod.drewN _ 1)).size
          intro v5 w5 hv5 hb5 hg5 hl5
          have m5 := (mES.trans (Mod.drewN _ 1)).then_below' hb5 (Nat.le_refl _)
          rw [List.nil_append] at hv5
          have hS24 := rl_kept (H3.out) hg5 (b := X.heap.size + 1) HES.out (fun e => by have h2 : X.heap.size = X.heap.size + 1 := Option.some.inj e; omega)
          obtain ⟨a5, c5, rfl, -⟩ := id hv5.rl))
      | ((refine step_appAllL rfl _ _ 24 rfl Try.underlying24 (X.heap.size + 1) _ (.slice ad done.length cd) [] done ?_ ?_ (by rfl) (by rfl) (by simp; omega) (Below.refl _ _) ?_ ?_
          · exact H4.out.drew
          · exact (HD.out.mod (mSE.trans (Mod.drewN _ 1)) (.inr (Nat.zero_le _))).rl
          · exact Nat.le_of_lt HSE.out
          intro v5 w5 hv5 hb5 hg5 hl5
          have m5 := (mSE.trans (Mod.drewN _ 1)).then_below' hb5 (Nat.le_succ _)
          rw [List.nil_append] at hv5
          have hS24 := rl_kept (H5.out) hg5 (b := X.heap.size) (by have := HSE.out; omega) (fun e => by have h2 : X.heap.size + 1 = X.heap.size := Option.some.inj e; omega)
          replace hv5 := hv5.base (Nat.le_succ X.heap.size)
          obtain ⟨a5, c5, rfl, -⟩ := id hv5.rl))
      | ((refine step_appAllL rfl _ _ 24 rfl Try.underlying24 X.heap.size _ _ done [(N : Int)] (hv5.alloc _) hS5 (by rfl) (by rfl) (by simp; omega) (Below.refl _ _) ?_ ?_
          · exact (m5.trans (Mod.alloc _ _)).size
          intro v6 w6 hv6 hb6 hg6 hl6
          have m6 := (m5.trans (Mod.alloc w5 (.cells #[.int .i64 N] 3))).then_below' hb6 (Nat.le_refl _)
          obtain ⟨a6, c6, rfl, -⟩ := id hv6.rl
          rw [HE6.out] at hv6 ⊢))
      | ((refine step_appAllL rfl _ _ 24 rfl Try.underlying24 X.heap.size _ _ done [(N : Int)] hv5 hS24 (by rfl) (by rfl) (by simp; omega) (Below.refl _ _) ?_ ?_
          · exact m5.size
          intro v6 w6 hv6 hb6 hg6 hl6
          have m6 := m5.then_below' hb6 (Nat.le_refl _)
          obtain ⟨a6, c6, rfl, -⟩ := id hv6.rl
          rw [HE6.out] at hv6 ⊢))
      | fail)
  all_goals
    have m7 := m6.trans (Mod.of_below b7)
    have hc0 := KO.out _ m7
    have hb7 := m7.below0 HBT.out HBT.out.size
    have HX7 := hid X7.rl
    have HM7 := hid m7
    clear hv5 hb5 hg5 hl5 hv6 hb6 hg6 hl6 m5 m6 X7 b7
    go_wp2_with fail
    go_loop [8] (fun i => ∃ j : Nat, 1 ≤ j ∧ j ≤ Lr.length ∧ i = .int .i64 j) (fun i => Lr.length - (intOf i).toNat)
    case atStart => exact ⟨1, Nat.le_refl _, by omega, rfl⟩
    case round =>
      obtain ⟨j, hj1, hj, rfl⟩ := hrel
      by_cases hlt : j < Lr.length
      · obtain ⟨b, o, e, hb, hc⟩ := HO3.out j hlt
        cases e
        have hy := HYES.out j (by omega) hlt
        replace hc := (World.cell?_of_block (a := ⟨bo, oo + j, none⟩) (HM7.out.block bo hb (.inr (Nat.zero_le _)))).trans hc
        obtain ⟨y, hy9⟩ : ∃ y, y = Lr.getD j 0 := ⟨_, rfl⟩
        rw [← hy9] at hc hy
        have HY := hid hy
        have j0 : (0 : Int) ≤ (j : Int) := by omega
        have j1 : (j : Int) < (Lr.length : Int) := by omega
        clear hy hy9
        go_wp2_with fail
        refine (hasInt_any _ R2 y _ HX7.out).mono ?_
        rintro e _ ⟨rfl, rfl⟩
        rw [HY.out]
        go_wp2_with fail
        go_round
        case rel => exact ⟨j + 1, by omega, by omega, by go_num⟩
        case measure => simp [intOf]; omega
      · obtain rfl : j = Lr.length := by omega
        go_wp2_with fail
        refine (hasInt_any _ R2 (N : Int) _ HX7.out).mono ?_
        rintro e _ ⟨rfl, rfl⟩
        rw [HNO.out]
        go_wp2_with fail
        go_ret
        exact ⟨rfl, hb7⟩

theorem own : ownKnob Try.prog.godebug = none := by kernel_rfl
theorem laidOut : laidOutB Try.prog = true := by kernel_rfl
set_option maxRecDepth 100000 in
theorem lifted (os : Os) (started : os.Started) (H : Type) (enc : TypeId × Value → H) :
    ReturnsInHanded {} Try.checked os 16 .any (Rows.fnReadyOneSpec.pre6 enc Try.prog Try.f16 Rows.fnReadyOneRow.domain false) (Rows.fnReadyOneSpec.post enc Try.prog Try.f16 false true false false) := by
  refine returnsInHanded_of_change (C := Try.checked) own started (by kernel_rfl) Try.func16
    (ChangeSpec.witness6 (enc := enc) (C := Try.checked) false ⟨#[], #[.slice none 0 0], []⟩ 8 (by kernel_rfl) (by kernel_rfl) (by kernel_rfl) (by kernel_rfl)) ?_
  intro W base args ds gs before hval0 hW _ _
  have hval : ∀ (j : Nat) t v, Try.f16.params[j]? = some t → args[j]? = some v → Value.okWide Try.prog W .any base t v := hval0
  have hW' := hW
  obtain ⟨p, q, hA0, hV, rfl, _, _⟩ := hW
  have hA : DataW.TrodAll enc Try.prog W 0 (fun _ => true) true Try.f16.params.toList args.toList ds p := hA0
  rw [Try.params16] at hA hval
  obtain ⟨v0, vs0, d0, ds0, p0, q0, hargs, rfl, rfl, h0, r0⟩ := trodAll_cons hA
  obtain ⟨rfl, rfl, rfl⟩ := trodAll_nil r0
  obtain rfl : args = #[v0] := by cases args; simp_all
  obtain ⟨rfl, rfl⟩ := trodVars_none hV
  have k0 := h0
  have lt0 : ∀ x ∈ p0, x.block < W.heap.size := by obtain ⟨m, hm⟩ := k0; exact DataW.trod_lt m _ _ _ hm
  obtain ⟨x0, w0⟩ := open_bl (hval 0 53 v0 rfl rfl) h0
  clear hA0 hval0
  refine (walk v0 x0 W w0).mono fun e W' ⟨he, bel⟩ => ?_
  subst he
  exact ⟨_, rfl, _, _, _, [], _, [], hW', trodAll_mk1 (shut_bool Try.underlying4 _), (trodAll_cons_mk (Below.trod laidOut (by kernel_rfl) (of_decide_eq_true (by kernel_rfl)) k0 bel lt0) trodAll_mk0), rfl, bel.frame _, fun h => by cases h⟩

theorem over : Rows.fnReadyOneRow.holds Try.pinned (OpenSpec.ofChange Rows.fnReadyOneSpec) :=
  OpenClaim.holds_of_wide 16 Try.f16 rfl rfl rfl rfl rfl rfl rfl ⟨rfl, rfl, rfl, rfl, rfl⟩ rfl rfl rfl rfl rfl (by kernel_rfl) Try.func16 (by kernel_rfl)
    (of_decide_eq_true (by kernel_rfl)) (by unfold Func.isWrapper; first | (rw [if_pos (by decide +kernel)]; kernel_rfl) | (rw [if_neg (by decide +kernel)]; exact ⟨rfl, rfl⟩))
    (fun os started H enc _ => lifted os started H enc)

theorem proved : Rows.FnReadyOneSaid := over
end Go.Proofs.Yteelobokjidphaa.fnReadyOne
