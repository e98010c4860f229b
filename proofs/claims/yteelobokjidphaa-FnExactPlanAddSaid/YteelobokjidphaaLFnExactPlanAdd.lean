/- The program's PlanAdd returns what the reference's returns, for all arguments. No condition. -/
import Derived.Test.YteelobokjidphaaRows
import Derived.Test.YteelobokjidphaaArgs
import Derived.Test.YteelobokjidphaaArgsPlan
import Derived.Test.YteelobokjidphaaLawPlan
import Derived.Test.YteelobokjidphaaMarkPlan
import Derived.Test.YteelobokjidphaaLawCopy
import Derived.Test.YteelobokjidphaaLawNode
import Derived.Test.YteelobokjidphaaAddLaw
import Derived.Deep.RegionHeld3
namespace Go.Proofs.Yteelobokjidphaa.fnExactPlanAdd
open Go.ChangeShapes Go.WideShapes Go.ChangeAt Go.RowKit

/-- Block b holds the node that came in. -/
def LB (w : World) (b : Nat) (kd : Int) (vf vr : Value) : Prop := w.heap[b]? = some (.cells #[.int .i64 kd, vf, vr] 44 (0, 0))
theorem LB.mod {w w' : World} {b A B : Nat} {kd : Int} {vf vr : Value} (h : LB w b kd vf vr) (hm : Mod A B w w') (hb : b < A ∨ B ≤ b) : LB w' b kd vf vr :=
  (hm.block b (Array.getElem?_eq_some_iff.1 h).1 hb).trans h
theorem LB.lt {w : World} {b : Nat} {kd : Int} {vf vr : Value} (h : LB w b kd vf vr) : b < w.heap.size := (Array.getElem?_eq_some_iff.1 h).1
theorem LB.c0 {w : World} {b : Nat} {kd : Int} {vf vr : Value} (h : LB w b kd vf vr) : w.cell? ⟨b, 0, none⟩ = some (.int .i64 kd) := by rw [cell_of_row _ b 0 _ _ _ h]; rfl
theorem LB.c1 {w : World} {b : Nat} {kd : Int} {vf vr : Value} (h : LB w b kd vf vr) : w.cell? ⟨b, 1, none⟩ = some vf := by rw [cell_of_row _ b 1 _ _ _ h]; rfl
theorem LB.c2 {w : World} {b : Nat} {kd : Int} {vf vr : Value} (h : LB w b kd vf vr) : w.cell? ⟨b, 2, none⟩ = some vr := by rw [cell_of_row _ b 2 _ _ _ h]; rfl
/-- The three cells of a node's block. -/
def Three (w : World) (b : Nat) (kd : Int) (vf vr : Value) : Prop := w.cell? ⟨b, 0, none⟩ = some (.int .i64 kd) ∧ w.cell? ⟨b, 1, none⟩ = some vf ∧ w.cell? ⟨b, 2, none⟩ = some vr
theorem Three.mod {w w' : World} {b : Nat} {kd : Int} {vf vr : Value} (h : Three w b kd vf vr) (hm : Mod 0 0 w w') (hb : b < w.heap.size) : Three w' b kd vf vr := by
  have kb := hm.block b hb (.inr (Nat.zero_le _))
  obtain ⟨h1, h2, h3⟩ := h
  exact ⟨(World.cell?_of_block (a := ⟨b, 0, none⟩) kb).trans h1, (World.cell?_of_block (a := ⟨b, 1, none⟩) kb).trans h2, (World.cell?_of_block (a := ⟨b, 2, none⟩) kb).trans h3⟩
theorem addL_bounds {ns : List Nd} {n : Nd} (h : ∀ i, i < ns.length → ((ns.getD i nd0).fs.length : Int) ≤ 1048576 ∧ ((ns.getD i nd0).row.length : Int) ≤ 1048576) (h1 : (n.fs.length : Int) ≤ 1048576) (h2 : (n.row.length : Int) ≤ 1048576) :
    (addL ns n).length ≤ 1048577 ∧ ∀ i, i < (addL ns n).length → (((addL ns n).getD i nd0).fs.length : Int) ≤ 1048576 ∧ (((addL ns n).getD i nd0).row.length : Int) ≤ 1048576 := by
  cases hb : addB ns n
  · rw [add_none hb]
    exact ⟨by simp, fun i hi => by simp at hi⟩
  · obtain ⟨-, hp, e⟩ := add_parts hb
    rw [e]
    refine ⟨by have := planB_len hp; omega, fun i hi => ?_⟩
    have hl : (ns ++ [n]).length = ns.length + 1 := by simp
    by_cases e2 : i < ns.length
    · have : (ns ++ [n]).getD i nd0 = ns.getD i nd0 := by simp [List.getD, List.getElem?_append, e2]
      rw [this]
      exact h i e2
    · have e3 : i = ns.length := by omega
      have : (ns ++ [n]).getD i nd0 = n := by subst e3; simp
      rw [this]
      exact ⟨h1, h2⟩

set_option maxRecDepth 50000 in
set_option maxHeartbeats 4000000 in
theorem walk (v0 : Value) (x0 : List Nd) (v1 : Value) (x1 : Nd) (w : World) (w0 : PLA w v0 x0) (w1 : NLA w v1 x1) :
    Calls Try.prog 6 #[v0, v1] w fun e w' => e = .returned (.bool true) ∧ Below w.heap.size w w' := by
  obtain ⟨a0, c0, rfl, -⟩ := id w0
  have bt := Below.refl w.heap.size w
  have A0 : PL w w.heap.size _ x0 := w0
  obtain ⟨vf, vr, rfl, hF, hR⟩ := w1
  obtain ⟨kd, fs, row⟩ := x1
  simp only at hF hR
  obtain ⟨af, cf, rfl, -⟩ := id hF
  obtain ⟨ar, cr, rfl, -⟩ := id hR
  obtain ⟨out, hout⟩ : ∃ out, out = addL x0 ⟨kd, fs, row⟩ := ⟨_, rfl⟩
  obtain ⟨ok, hok⟩ : ∃ ok, ok = addB x0 ⟨kd, fs, row⟩ := ⟨_, rfl⟩
  have hs : ∀ v vf vr hi w, PL w hi v x0 → RL w vf fs → RL w vr row → x0.length ≤ 1048576 → (∀ i, i < x0.length → (x0.getD i nd0).fs.length < 1099511627776 ∧ (x0.getD i nd0).row.length < 1099511627776) → fs.length ≤ 1048576 → row.length ≤ 1048576 → Calls Try.prog 36 #[v, .agg #[.int .i64 kd, vf, vr]] w (fun e w' => ∃ vo, e = .returned (.tuple #[vo, .bool ok]) ∧ PL w' w'.heap.size vo out ∧ Below w.heap.size w w') := fun v vf vr hi w h hf hr h1 h2 h3 h4 => by rw [hout, hok]; exact spadd_any v vf vr x0 kd fs row hi w h hf hr h1 h2 (by omega) (by omega)
  have hi : ∀ v vf vr hi w, PL w hi v x0 → RL w vf fs → RL w vr row → (∀ i, i < x0.length → (x0.getD i nd0).fs.length < 1099511627776 ∧ (x0.getD i nd0).row.length < 1099511627776) → fs.length ≤ 1048576 → row.length ≤ 1048576 → Calls Try.prog 38 #[v, .agg #[.int .i64 kd, vf, vr]] w (fun e w' => ∃ vo, e = .returned (.tuple #[vo, .bool ok]) ∧ PR True w' w.heap.size w'.heap.size vo out ∧ Below w.heap.size w w') := fun v vf vr hi w h hf hr h2 h3 h4 => by rw [hout, hok]; exact ipadd_any v vf vr x0 kd fs row hi w h hf hr h2 (by omega) (by omega)
  have HS := hid hs
  have HI := hid hi
  have HOUT := hid hout
  have mX := Mod.alloc w (.cells #[.int .i64 kd, .slice af fs.length cf, .slice ar row.length cr] 44)
  obtain ⟨X, hX⟩ : ∃ X, X = w.alloc (.cells #[.int .i64 kd, .slice af fs.length cf, .slice ar row.length cr] 44) := ⟨_, rfl⟩
  rw [← hX] at mX
  have B : LB X w.heap.size kd (.slice af fs.length cf) (.slice ar row.length cr) := by unfold LB; rw [hX]; exact heap_alloc_new w _
  have HX := hid hX
  have F := hF.rr
  have R := hR.rr
  replace A0 := A0.mod mX (by omega)
  replace F := F.mod mX (by omega)
  replace R := R.mod mX (by omega)
  have sX := mX.size
  replace bt := mX.below0 bt bt.size
  clear hs hi hout hok w0 hX hF hR mX
  go_enter Try.func6, Try.ntmps6
  go_wp2_with fail
  rw [← HX.out]
  refine (szNodes_any _ x0 _ 1048576 X A0 (by omega) (by omega)).mono ?_
  rintro e w101 ⟨⟨n1, rfl, hn1, hf1⟩, m1⟩
  replace A0 := A0.mod m1 (by omega)
  replace F := F.mod m1 (by omega)
  replace R := R.mod m1 (by omega)
  replace B := B.mod m1 (by omega)
  have s1 := m1.size
  replace bt := m1.below0 bt bt.size
  by_cases hneg1 : n1 < 0
  · clear hf1
    go_wp2_with fail
    go_ret
    exact ⟨rfl, bt⟩
  obtain ⟨hl1, hl2⟩ := hf1 (by omega)
  have hl1' : x0.length ≤ 1048576 := by omega
  have hl2' : ∀ i, i < x0.length → ((x0.getD i nd0).fs.length : Int) ≤ 1048576 ∧ ((x0.getD i nd0).row.length : Int) ≤ 1048576 := fun i hi => by have := hl2 i hi; omega
  have hl3 : ∀ i, i < x0.length → (x0.getD i nd0).fs.length < 1099511627776 ∧ (x0.getD i nd0).row.length < 1099511627776 := fun i hi => by have := hl2 i hi; omega
  have HL2 := hid hl2'
  have HL3 := hid hl3
  clear hf1 hl1 hl2 hl2' hl3
  have c0 := B.c0
  have c1 := B.c1
  have c2 := B.c2
  go_wp2_with fail
  refine (szNode_any kd _ _ fs row n1 _ F.rl R.rl (by omega) (by omega)).mono ?_
  rintro e w102 ⟨⟨n2, rfl, hn2, hf2⟩, m2⟩
  clear c0 c1 c2
  replace A0 := A0.mod m2 (by omega)
  replace F := F.mod m2 (by omega)
  replace R := R.mod m2 (by omega)
  replace B := B.mod m2 (by omega)
  have s2 := m2.size
  replace bt := m2.below0 bt bt.size
  by_cases hneg2 : n2 < 0
  · clear hf2
    go_wp2_with fail
    go_ret
    exact ⟨rfl, bt⟩
  have hfl : fs.length ≤ 1048576 := by omega
  have hrl : row.length ≤ 1048576 := by omega
  clear hf2
  have hbd := addL_bounds (n := ⟨kd, fs, row⟩) HL2.out (by show (fs.length : Int) ≤ _; omega) (by show (row.length : Int) ≤ _; omega)
  rw [← HOUT.out] at hbd
  obtain ⟨hol, hor⟩ := hbd
  have HOR := hid hor
  clear hor
  have hs2 : ∀ v vf vr hi w, PL w hi v x0 → RL w vf fs → RL w vr row → _ := fun v vf vr hi w h hf hr => HS.out v vf vr hi w h hf hr hl1' HL3.out hfl hrl
  have hi2 : ∀ v vf vr hi w, PL w hi v x0 → RL w vf fs → RL w vr row → _ := fun v vf vr hi w h hf hr => HI.out v vf vr hi w h hf hr HL3.out hfl hrl
  have HS2 := hid hs2
  have HI2 := hid hi2
  clear hs2 hi2
  go_wp2_with fail
  have mD3 := Mod.drewN w102 1
  have K3 : Three w102.drew w.heap.size kd (.slice af fs.length cf) (.slice ar row.length cr) := ⟨B.c0, B.c1, B.c2⟩
  have HK3 := hid K3
  have hB3 := B.lt
  clear K3
  go_region_held3 (fun w' => w'.cell? ⟨w.heap.size, 0, none⟩ = some (.int .i64 kd) ∧ w'.cell? ⟨w.heap.size, 1, none⟩ = some (.slice af fs.length cf) ∧ w'.cell? ⟨w.heap.size, 2, none⟩ = some (.slice ar row.length cr))
    (first | exact HK3.out | exact ka3.out | exact kb3.out | exact kc3.out | go_keep)
    (first
      | ((go_at_call 19; refine (toNodes_any _ x0 _ w102.drew (A0.mod mD3 (.inr (Nat.zero_le _))) hl1' HL2.out).mono ?_; rintro e wa3 ⟨ta3, rfl, T3, ba3⟩
          have ma3 := Mod.of_below ba3
          obtain ⟨at3, ct3, rfl, -⟩ := T3.shape
          have ka3 := hid (HK3.out.mod ma3 hB3)))
      | ((go_at_call 37; refine (toNode_any kd _ _ fs row wa3 ((F.mod mD3 (.inr (Nat.zero_le _))).mod ma3 (.inr (Nat.zero_le _))).rl ((R.mod mD3 (.inr (Nat.zero_le _))).mod ma3 (.inr (Nat.zero_le _))).rl hfl hrl).mono ?_; rintro e wb3 ⟨vf3, vr3, M3, rfl, hvf3, -, hvr3, -, bb3⟩
          have mb3 := Mod.of_below bb3
          obtain ⟨af3, cf3, rfl, -⟩ := id hvf3.rl
          obtain ⟨ar3, cr3, rfl, -⟩ := id hvr3.rl
          have kb3 := hid (ka3.out.mod mb3 (Nat.lt_of_lt_of_le hB3 ma3.size))))
      | ((go_at_call 36; refine (HS2.out _ _ _ _ wb3 (T3.mod mb3 (.inr (Nat.zero_le _))).pl hvf3.rl hvr3.rl).mono ?_; rintro e w103 ⟨gw, rfl, GW, b0⟩
          have mc3 := Mod.of_below b0
          have kc3 := hid (kb3.out.mod mc3 (Nat.lt_of_lt_of_le (Nat.lt_of_lt_of_le hB3 ma3.size) mb3.size))))
      | fail)
  have m3 := mD3.trans (ma3.trans (mb3.trans mc3))
  clear mD3 ma3 mb3 mc3 HK3 ka3 kb3 kc3 hvf3 hvr3 T3 ba3 bb3 b0
  replace A0 := A0.mod m3 (by omega)
  replace F := F.mod m3 (by omega)
  replace R := R.mod m3 (by omega)
  replace B := B.mod m3 (by omega)
  have s3 := m3.size
  replace bt := m3.below0 bt bt.size
  go_wp2_with fail
  refine (toNodes_any _ x0 _ _ A0 hl1' HL2.out).mono ?_
  rintro e w104 ⟨y0, rfl, Y0, b0⟩
  have m4 := Mod.of_below b0
  obtain ⟨aY0, cY0, rfl, -⟩ := Y0.shape
  replace A0 := A0.mod m4 (by omega)
  replace F := F.mod m4 (by omega)
  replace R := R.mod m4 (by omega)
  replace B := B.mod m4 (by omega)
  replace GW := GW.mod m4 (by omega)
  have s4 := m4.size
  replace bt := m4.below0 bt bt.size
  clear b0
  have c0 := B.c0
  have c1 := B.c1
  have c2 := B.c2
  go_wp2_with fail
  refine (toNode_any kd _ _ fs row _ F.rl R.rl hfl hrl).mono ?_
  rintro e w105 ⟨vy, vz, M5, rfl, hvy, hyM, hvz, hM5, b0⟩
  have m5 := Mod.of_below b0
  obtain ⟨ay, cy, rfl, -⟩ := id hvy.rl
  obtain ⟨az, cz, rfl, -⟩ := id hvz.rl
  have hyz : ∀ b, (Value.slice ay fs.length cy).ownBlock = some b → (Value.slice az row.length cz).ownBlock ≠ some b := fun b h1 h2 => by have := hyM b h1; have := (hvz.lt b h2).1; omega
  have HYZ := hid hyz
  have Yf := hvy.r
  have Yr := (hvz.base hM5).r
  clear hvy hvz hyM hyz b0
  clear c0 c1 c2
  replace A0 := A0.mod m5 (by omega)
  replace F := F.mod m5 (by omega)
  replace R := R.mod m5 (by omega)
  replace B := B.mod m5 (by omega)
  replace GW := GW.mod m5 (by omega)
  replace Y0 := Y0.mod m5 (by omega)
  have s5 := m5.size
  replace bt := m5.below0 bt bt.size
  have mZ := Mod.alloc w105 (.cells #[.int .i64 kd, .slice ay fs.length cy, .slice az row.length cz] 48)
  obtain ⟨Z, hZ⟩ : ∃ Z, Z = w105.alloc (.cells #[.int .i64 kd, .slice ay fs.length cy, .slice az row.length cz] 48) := ⟨_, rfl⟩
  rw [← hZ] at mZ
  have NX : NB Z w105.heap.size kd (.slice ay fs.length cy) (.slice az row.length cz) := by unfold NB; rw [hZ]; exact heap_alloc_new w105 _
  have HZ := hid hZ
  have lZ := NX.lt
  clear hZ
  replace A0 := A0.mod mZ (by omega)
  replace F := F.mod mZ (by omega)
  replace R := R.mod mZ (by omega)
  replace B := B.mod mZ (by omega)
  replace GW := GW.mod mZ (by omega)
  replace Y0 := Y0.mod mZ (by omega)
  replace Yf := Yf.mod mZ (by omega)
  replace Yr := Yr.mod mZ (by omega)
  have sZ := mZ.size
  replace bt := mZ.below0 bt bt.size
  go_wp2_with fail
  rw [← HZ.out]
  refine (HI2.out _ _ _ _ Z Y0.pl Yf.rl Yr.rl).mono ?_
  rintro e w106 ⟨g0, rfl, G0, b0⟩
  have m6 := Mod.of_below b0
  obtain ⟨ag, cg, rfl, -⟩ := G0.shape
  clear b0
  replace A0 := A0.mod m6 (by omega)
  replace F := F.mod m6 (by omega)
  replace R := R.mod m6 (by omega)
  replace B := B.mod m6 (by omega)
  replace GW := GW.mod m6 (by omega)
  replace Y0 := Y0.mod m6 (by omega)
  replace Yf := Yf.mod m6 (by omega)
  replace Yr := Yr.mod m6 (by omega)
  replace NX := NX.mod m6 (by omega)
  have s6 := m6.size
  replace bt := m6.below0 bt bt.size
  go_wp2_with fail
  refine (eqNodes_any _ _ out _ _ _ G0.pl GW).mono ?_
  rintro e w107 ⟨rfl, m7⟩
  replace A0 := A0.mod m7 (by omega)
  replace F := F.mod m7 (by omega)
  replace R := R.mod m7 (by omega)
  replace B := B.mod m7 (by omega)
  replace GW := GW.mod m7 (by omega)
  replace Y0 := Y0.mod m7 (by omega)
  replace Yf := Yf.mod m7 (by omega)
  replace Yr := Yr.mod m7 (by omega)
  replace NX := NX.mod m7 (by omega)
  replace G0 := G0.mod m7 (by omega)
  have s7 := m7.size
  replace bt := m7.below0 bt bt.size
  go_wp2_with fail
  refine (toNodes_any _ x0 _ _ A0 hl1' HL2.out).mono ?_
  rintro e w108 ⟨u0, rfl, U0, b0⟩
  have m8 := Mod.of_below b0
  obtain ⟨aU0, cU0, rfl, -⟩ := U0.shape
  replace A0 := A0.mod m8 (by omega)
  replace F := F.mod m8 (by omega)
  replace R := R.mod m8 (by omega)
  replace B := B.mod m8 (by omega)
  replace GW := GW.mod m8 (by omega)
  replace Y0 := Y0.mod m8 (by omega)
  replace Yf := Yf.mod m8 (by omega)
  replace Yr := Yr.mod m8 (by omega)
  replace NX := NX.mod m8 (by omega)
  replace G0 := G0.mod m8 (by omega)
  have s8 := m8.size
  replace bt := m8.below0 bt bt.size
  clear b0
  go_wp2_with fail
  refine (eqNodes_any _ _ x0 _ _ _ Y0.pl U0.pl).mono ?_
  rintro e w109 ⟨rfl, m9⟩
  replace A0 := A0.mod m9 (by omega)
  replace F := F.mod m9 (by omega)
  replace R := R.mod m9 (by omega)
  replace B := B.mod m9 (by omega)
  replace GW := GW.mod m9 (by omega)
  replace Y0 := Y0.mod m9 (by omega)
  replace Yf := Yf.mod m9 (by omega)
  replace Yr := Yr.mod m9 (by omega)
  replace NX := NX.mod m9 (by omega)
  replace G0 := G0.mod m9 (by omega)
  replace U0 := U0.mod m9 (by omega)
  have s9 := m9.size
  replace bt := m9.below0 bt bt.size
  go_wp2_with fail
  have mD10 := Mod.drewN w109 1
  have K10 : Six w109.drew w105.heap.size kd (.slice ay fs.length cy) (.slice az row.length cz) w.heap.size 0 kd (.slice af fs.length cf) (.slice ar row.length cr) := ⟨NX.c0, NX.c1, NX.c2, B.c0, B.c1, B.c2⟩
  have HK10 := hid K10
  have hB10 := B.lt
  have hN10 := NX.lt
  clear K10
  go_region_held3 (fun w' => w'.cell? ⟨w105.heap.size, 0, none⟩ = some (.int .i64 kd) ∧ w'.cell? ⟨w105.heap.size, 1, none⟩ = some (.slice ay fs.length cy) ∧ w'.cell? ⟨w105.heap.size, 2, none⟩ = some (.slice az row.length cz) ∧ w'.cell? ⟨w.heap.size, 0, none⟩ = some (.int .i64 kd) ∧ w'.cell? ⟨w.heap.size, 1, none⟩ = some (.slice af fs.length cf) ∧ w'.cell? ⟨w.heap.size, 2, none⟩ = some (.slice ar row.length cr))
    (first | exact HK10.out | exact ka10.out | exact kb10.out | go_keep)
    (first
      | ((go_at_call 37; refine (toNode_any kd _ _ fs row w109.drew (F.mod mD10 (.inr (Nat.zero_le _))).rl (R.mod mD10 (.inr (Nat.zero_le _))).rl hfl hrl).mono ?_; rintro e wa10 ⟨vf10, vr10, M10, rfl, hvf10, -, hvr10, -, ba10⟩
          have ma10 := Mod.of_below ba10
          obtain ⟨af10, cf10, rfl, -⟩ := id hvf10.rl
          obtain ⟨ar10, cr10, rfl, -⟩ := id hvr10.rl
          have ka10 := hid (HK10.out.mod ma10 hN10 hB10)))
      | ((go_at_call 39; refine (eqNode_any kd _ _ _ _ fs row wa10 ((Yf.mod mD10 (.inr (Nat.zero_le _))).mod ma10 (.inr (Nat.zero_le _))).rl ((Yr.mod mD10 (.inr (Nat.zero_le _))).mod ma10 (.inr (Nat.zero_le _))).rl hvf10.rl hvr10.rl).mono ?_; rintro e w110 ⟨rfl, mb10⟩
          have kb10 := hid (ka10.out.mod mb10 (Nat.lt_of_lt_of_le hN10 ma10.size) (Nat.lt_of_lt_of_le hB10 ma10.size))))
      | fail)
  have m10 := mD10.trans (ma10.trans mb10)
  clear mD10 ma10 mb10 HK10 ka10 kb10 hvf10 hvr10 ba10
  replace A0 := A0.mod m10 (by omega)
  replace F := F.mod m10 (by omega)
  replace R := R.mod m10 (by omega)
  replace B := B.mod m10 (by omega)
  replace GW := GW.mod m10 (by omega)
  replace Y0 := Y0.mod m10 (by omega)
  replace Yf := Yf.mod m10 (by omega)
  replace Yr := Yr.mod m10 (by omega)
  replace NX := NX.mod m10 (by omega)
  replace G0 := G0.mod m10 (by omega)
  have s10 := m10.size
  replace bt := m10.below0 bt bt.size
  have hsn := sumN_nonneg x0
  have hsn2 := sumN_le 1048576 HL2.out x0.length (Nat.le_refl _)
  rw [List.take_length] at hsn2
  go_wp2_with fail
  refine (markNodes_r _ x0 1 _ _ _ Y0 (by omega) (by omega) (by omega) HL2.out).mono ?_
  rintro e w111 ⟨rfl, -, m11⟩
  replace A0 := A0.mod m11 (by omega)
  replace F := F.mod m11 (by omega)
  replace R := R.mod m11 (by omega)
  replace B := B.mod m11 (by omega)
  replace GW := GW.mod m11 (by omega)
  replace Yf := Yf.mod m11 (by omega)
  replace Yr := Yr.mod m11 (by omega)
  replace NX := NX.mod m11 (by omega)
  replace G0 := G0.mod m11 (by omega)
  have s11 := m11.size
  replace bt := m11.below bt (by omega) bt.size
  have c0 := NX.c0
  have c1 := NX.c1
  have c2 := NX.c2
  go_wp2_with fail
  refine (markNode_r kd _ _ fs row _ _ _ _ Yf Yr HYZ.out (by omega) (by omega) hfl hrl).mono ?_
  rintro e w112 ⟨rfl, m12⟩
  replace A0 := A0.mod m12 (by omega)
  replace F := F.mod m12 (by omega)
  replace R := R.mod m12 (by omega)
  replace B := B.mod m12 (by omega)
  replace GW := GW.mod m12 (by omega)
  replace NX := NX.mod m12 (by omega)
  replace G0 := G0.mod m12 (by omega)
  have s12 := m12.size
  replace bt := m12.below bt (by omega) bt.size
  clear c0 c1 c2
  have hr2 : ¬ 1 + sumN x0 + (fs.length : Int) + (row.length : Int) < 0 := by omega
  go_wp2_with fail
  refine (eqNodes_any _ _ out _ _ _ G0.pl GW).mono ?_
  rintro e w113 ⟨rfl, m13⟩
  replace A0 := A0.mod m13 (by omega)
  replace F := F.mod m13 (by omega)
  replace R := R.mod m13 (by omega)
  replace B := B.mod m13 (by omega)
  replace GW := GW.mod m13 (by omega)
  replace G0 := G0.mod m13 (by omega)
  have s13 := m13.size
  replace bt := m13.below0 bt bt.size
  have hss := sumN_nonneg out
  have hr3 : ¬ 1 + sumN out < 0 := by omega
  go_wp2_with fail
  refine (markNodes_r _ out 1 _ _ _ G0 (by omega) (by omega) hol HOR.out).mono ?_
  rintro e w114 ⟨rfl, G0, m14⟩
  replace A0 := A0.mod m14 (by omega)
  replace F := F.mod m14 (by omega)
  replace R := R.mod m14 (by omega)
  replace B := B.mod m14 (by omega)
  replace GW := GW.mod m14 (by omega)
  have s14 := m14.size
  replace bt := m14.below bt (by omega) bt.size
  go_wp2_with fail
  refine (heldNodes_any _ out 1 _ _ G0.pl (by omega) (by omega) hol HOR.out).mono ?_
  rintro e _ ⟨rfl, rfl⟩
  go_wp2_with fail
  have mD15 := Mod.drewN w114 1
  have K15 : Three w114.drew w.heap.size kd (.slice af fs.length cf) (.slice ar row.length cr) := ⟨B.c0, B.c1, B.c2⟩
  have HK15 := hid K15
  have hB15 := B.lt
  clear K15
  go_region_held3 (fun w' => w'.cell? ⟨w.heap.size, 0, none⟩ = some (.int .i64 kd) ∧ w'.cell? ⟨w.heap.size, 1, none⟩ = some (.slice af fs.length cf) ∧ w'.cell? ⟨w.heap.size, 2, none⟩ = some (.slice ar row.length cr))
    (first | exact HK15.out | exact ka15.out | exact kb15.out | exact kc15.out | go_keep)
    (first
      | ((go_at_call 19; refine (toNodes_any _ x0 _ w114.drew (A0.mod mD15 (.inr (Nat.zero_le _))) hl1' HL2.out).mono ?_; rintro e wa15 ⟨ta15, rfl, T15, ba15⟩
          have ma15 := Mod.of_below ba15
          obtain ⟨at15, ct15, rfl, -⟩ := T15.shape
          have ka15 := hid (HK15.out.mod ma15 hB15)))
      | ((go_at_call 37; refine (toNode_any kd _ _ fs row wa15 ((F.mod mD15 (.inr (Nat.zero_le _))).mod ma15 (.inr (Nat.zero_le _))).rl ((R.mod mD15 (.inr (Nat.zero_le _))).mod ma15 (.inr (Nat.zero_le _))).rl hfl hrl).mono ?_; rintro e wb15 ⟨vf15, vr15, M15, rfl, hvf15, -, hvr15, -, bb15⟩
          have mb15 := Mod.of_below bb15
          obtain ⟨af15, cf15, rfl, -⟩ := id hvf15.rl
          obtain ⟨ar15, cr15, rfl, -⟩ := id hvr15.rl
          have kb15 := hid (ka15.out.mod mb15 (Nat.lt_of_lt_of_le hB15 ma15.size))))
      | ((go_at_call 38; refine (HI2.out _ _ _ _ wb15 (T15.mod mb15 (.inr (Nat.zero_le _))).pl hvf15.rl hvr15.rl).mono ?_; rintro e w115 ⟨h0, rfl, H0, b0⟩
          have mc15 := Mod.of_below b0
          have kc15 := hid (kb15.out.mod mc15 (Nat.lt_of_lt_of_le (Nat.lt_of_lt_of_le hB15 ma15.size) mb15.size))))
      | fail)
  have m15 := mD15.trans (ma15.trans (mb15.trans mc15))
  clear mD15 ma15 mb15 mc15 HK15 ka15 kb15 kc15 hvf15 hvr15 T15 ba15 bb15 b0
  replace A0 := A0.mod m15 (by omega)
  replace F := F.mod m15 (by omega)
  replace R := R.mod m15 (by omega)
  replace B := B.mod m15 (by omega)
  replace GW := GW.mod m15 (by omega)
  replace G0 := G0.mod m15 (by omega)
  have s15 := m15.size
  replace bt := m15.below0 bt bt.size
  go_wp2_with fail
  refine (eqNodes_any _ _ out _ _ _ H0.pl GW).mono ?_
  rintro e w116 ⟨rfl, m16⟩
  replace A0 := A0.mod m16 (by omega)
  replace F := F.mod m16 (by omega)
  replace R := R.mod m16 (by omega)
  replace B := B.mod m16 (by omega)
  replace GW := GW.mod m16 (by omega)
  replace G0 := G0.mod m16 (by omega)
  replace H0 := H0.mod m16 (by omega)
  have s16 := m16.size
  replace bt := m16.below0 bt bt.size
  go_wp2_with fail
  refine (heldNodes_any _ out 1 _ _ G0.pl (by omega) (by omega) hol HOR.out).mono ?_
  rintro e _ ⟨rfl, rfl⟩
  go_wp2_with fail
  go_ret
  exact ⟨rfl, bt⟩

theorem own : ownKnob Try.prog.godebug = none := by kernel_rfl
theorem laidOut : laidOutB Try.prog = true := by kernel_rfl
set_option maxRecDepth 100000 in
theorem lifted (os : Os) (started : os.Started) (H : Type) (enc : TypeId × Value → H) :
    ReturnsInHanded {} Try.checked os 6 .any (Rows.fnExactPlanAddSpec.pre6 enc Try.prog Try.f6 Rows.fnExactPlanAddRow.domain false) (Rows.fnExactPlanAddSpec.post enc Try.prog Try.f6 false true false false) := by
  refine returnsInHanded_of_change (C := Try.checked) own started (by kernel_rfl) Try.func6
    (ChangeSpec.witness6 (enc := enc) (C := Try.checked) false ⟨#[], #[.slice none 0 0, .agg #[.int .i64 0, .slice none 0 0, .slice none 0 0]], []⟩ 8 (by kernel_rfl) (by kernel_rfl) (by kernel_rfl) (by kernel_rfl)) ?_
  intro W base args ds gs before hval0 hW _ _
  have hval : ∀ (j : Nat) t v, Try.f6.params[j]? = some t → args[j]? = some v → Value.okWide Try.prog W .any base t v := hval0
  have hW' := hW
  obtain ⟨p, q, hA0, hV, rfl, _, _⟩ := hW
  have hA : DataW.TrodAll enc Try.prog W 0 (fun _ => true) true Try.f6.params.toList args.toList ds p := hA0
  rw [Try.params6] at hA hval
  obtain ⟨v0, vs0, d0, ds0, p0, q0, hargs, rfl, rfl, h0, r0⟩ := trodAll_cons hA
  obtain ⟨v1, vs1, d1, ds1, p1, q1, rfl, rfl, rfl, h1, r1⟩ := trodAll_cons r0
  obtain ⟨rfl, rfl, rfl⟩ := trodAll_nil r1
  obtain rfl : args = #[v0, v1] := by cases args; simp_all
  obtain ⟨rfl, rfl⟩ := trodVars_none hV
  have k0 := h0
  have lt0 : ∀ x ∈ p0, x.block < W.heap.size := by obtain ⟨m, hm⟩ := k0; exact DataW.trod_lt m _ _ _ hm
  obtain ⟨x0, w0⟩ := open_pl (hval 0 22 v0 rfl rfl) h0
  have k1 := h1
  have lt1 : ∀ x ∈ p1, x.block < W.heap.size := by obtain ⟨m, hm⟩ := k1; exact DataW.trod_lt m _ _ _ hm
  obtain ⟨x1, w1⟩ := open_nl (hval 1 44 v1 rfl rfl) h1
  clear hA0 hval0
  refine (walk v0 x0 v1 x1 W w0 w1).mono fun e W' ⟨he, bel⟩ => ?_
  subst he
  exact ⟨_, rfl, _, _, _, [], _, [], hW', trodAll_mk1 (shut_bool Try.underlying4 _), (trodAll_cons_mk (Below.trod laidOut (by kernel_rfl) (of_decide_eq_true (by kernel_rfl)) k0 bel lt0) (trodAll_cons_mk (Below.trod laidOut (by kernel_rfl) (of_decide_eq_true (by kernel_rfl)) k1 bel lt1) trodAll_mk0)), rfl, bel.frame _, fun h => by cases h⟩

theorem over : Rows.fnExactPlanAddRow.holds Try.pinned (OpenSpec.ofChange Rows.fnExactPlanAddSpec) :=
  OpenClaim.holds_of_wide 6 Try.f6 rfl rfl rfl rfl rfl rfl rfl ⟨rfl, rfl, rfl, rfl, rfl⟩ rfl rfl rfl rfl rfl (by kernel_rfl) Try.func6 (by kernel_rfl)
    (of_decide_eq_true (by kernel_rfl)) (by unfold Func.isWrapper; first | (rw [if_pos (by decide +kernel)]; kernel_rfl) | (rw [if_neg (by decide +kernel)]; exact ⟨rfl, rfl⟩))
    (fun os started H enc _ => lifted os started H enc)

theorem proved : Rows.FnExactPlanAddSaid := over
end Go.Proofs.Yteelobokjidphaa.fnExactPlanAdd
