/- The reference's values of a plan: one step, all rows. No condition. -/
import Derived.Test.YteelobokjidphaaValuesPure
import Derived.Test.YteelobokjidphaaLawRows
import Derived.Test.YteelobokjidphaaAppAll
import Derived.Test.YteelobokjidphaaCopy
namespace Go.Proofs.Yteelobokjidphaa
open Go.RowKit
set_option maxRecDepth 100000

theorem RL.mono0 {w w' : World} {v : Value} {xs : List Int} (h : RL w v xs) (hm : Mod 0 0 w w') : RL w' v xs := (h.rr.mod hm (.inr (Nat.zero_le _))).rl

theorem RR.below {w w' : World} {hi B : Nat} {v : Value} {xs : List Int} (h : RR w hi v xs) (hb : Below B w w') (hB : hi ≤ B) : RR w' hi v xs := by
  obtain ⟨a, c, rfl, h1, h2, h3, h4⟩ := h
  refine ⟨a, c, rfl, h1, h2, Nat.le_trans h3 hb.size, fun i hi => ?_⟩
  obtain ⟨b, o, e, hlt, hc⟩ := h4 i hi
  exact ⟨b, o, e, hlt, (hb.cell (p := ⟨b, o + i, none⟩) (Nat.lt_of_lt_of_le hlt hB)).trans hc⟩
set_option maxHeartbeats 4000000 in
theorem sstep_any (kd : Int) (vf vr v : Value) (fs row : List Int) (hi : Nat) (xss : List (List Int)) (w : World) (hf : RL w vf fs) (hr : RL w vr row) (h : RS w hi v xss) (hl : fs.length ≤ 1000) (hl2 : row.length ≤ 1000)
    (hfs : ¬ kd = 0 → ∀ q, q < fs.length → 0 ≤ fs.getD q 0 ∧ fs.getD q 0 < xss.length) :
    Calls Try.prog 68 #[.agg #[.int .i64 kd, vf, vr], v] w (PostI w (stepL ⟨kd, fs, row⟩ xss)) := by
  obtain ⟨af, cf, rfl, hf1, hf2, hf3⟩ := id hf
  obtain ⟨ar, cr, rfl, -⟩ := id hr
  unfold maxLen at hf2
  have mA := Mod.alloc w (.cells #[.int .i64 kd, .slice af fs.length cf, .slice ar row.length cr] 48)
  obtain ⟨X, hX⟩ : ∃ X, X = w.alloc (.cells #[.int .i64 kd, .slice af fs.length cf, .slice ar row.length cr] 48) := ⟨_, rfl⟩
  rw [← hX] at mA
  have x0 : X.heap[w.heap.size]? = some (.cells #[.int .i64 kd, .slice af fs.length cf, .slice ar row.length cr] 48 (0, 0)) := by rw [hX]; exact heap_alloc_new w _
  have l0 : X.heap.size = w.heap.size + 1 := by rw [hX, World.size_alloc]
  have HX := hid hX
  have cx : ∀ (wr : World) (i : Nat) (u : Value), wr.heap[w.heap.size]? = some (.cells #[.int .i64 kd, .slice af fs.length cf, .slice ar row.length cr] 48 (0, 0)) → (#[.int .i64 kd, .slice af fs.length cf, .slice ar row.length cr] : Array Value)[i]? = some u → wr.cell? ⟨w.heap.size, i, none⟩ = some u := fun wr i u hb hu => by
    rw [cell_of_row _ w.heap.size i _ _ _ hb, hu]
  by_cases hz : kd = 0
  · have hst : stepL ⟨kd, fs, row⟩ xss = row := by unfold stepL; rw [if_pos hz]
    rw [hst]
    subst hz
    have mE := Mod.alloc X (.cells #[] 3)
    have y2 := cx _ 2 _ ((mE.block _ (by omega) (.inr (Nat.zero_le _))).trans x0) rfl
    have hE : OI (X.alloc (.cells #[] 3)) (w.heap.size + 1) (.slice (some ⟨w.heap.size + 1, 0, none⟩) 0 0) [] := by rw [← l0]; exact OI.fresh0 X (Nat.le_refl _)
    have hrE := hr.mono0 (mA.trans mE)
    have hbE : Below (w.heap.size + 1) X (X.alloc (.cells #[] 3)) := (Below.refl _ _).alloc (by omega) _
    have lE : w.heap.size + 1 ≤ (X.alloc (.cells #[] 3)).heap.size := by rw [World.size_alloc]; omega
    have bA := mA.below0 (Below.refl w.heap.size w) (Nat.le_refl _)
    rw [hX] at y2 hE hrE hbE bA lE
    clear x0 hX mA mE cx hfs hf3 l0 hst
    go_enter Try.func68, Try.ntmps68
    go_wp2_with (first
      | (at_builtin; refine appAll rfl _ _ 24 rfl Try.underlying24 _ _ _ [] row hE hrE rfl rfl (by simp; omega) hbE lE ?_; intro v5 w5 ho5 hb5 _)
      | fail)
    go_ret
    rw [List.nil_append] at ho5
    exact ⟨_, rfl, ho5.base (Nat.le_succ _), bA.trans (hb5.mono (Nat.le_succ _))⟩
  · have hst : stepL ⟨kd, fs, row⟩ xss = krL kd (pickR xss fs) := by unfold stepL; rw [if_neg hz]
    rw [hst]
    have hne : (kd == 0) = false := by simpa using hz
    obtain ⟨av, cv, rfl, hv1, hv2, hvs, hv3⟩ := id h
    unfold maxLen at hv2
    have HFS := hid (hfs hz)
    have HV3 := hid hv3
    have HF3 := hid hf3
    have H := hid h
    have CX := hid cx
    have yA0 := cx _ 0 _ x0 rfl
    have hE : OV (X.alloc (.cells #[] 24)) (w.heap.size + 1) (.slice (some ⟨w.heap.size + 1, 0, none⟩) 0 0) [] := by rw [← l0]; exact OV.fresh0 X (by omega)
    have hbE : Below (w.heap.size + 1) X (X.alloc (.cells #[] 24)) := (Below.refl _ _).alloc (by omega) _
    have bA := mA.below0 (Below.refl w.heap.size w) (Nat.le_refl _)
    have hXs := mA.size
    have HE := hid hE
    have HBE := hid hbE
    clear hX cx hfs hf3 hv3 hst hz h hE hbE
    go_enter Try.func68, Try.ntmps68
    go_wp2_with fail
    rw [← HX.out]
    go_loopw [5, 6] (fun q i wr => ∃ k : Nat, k ≤ fs.length ∧ i = .int .i64 k ∧ (∃ us : List Value, us.length = k ∧ OV wr (w.heap.size + 1) q us ∧ ∀ j, j < k → RR wr w.heap.size (us.getD j undef) ((pickR xss fs).getD j [])) ∧ Below (w.heap.size + 1) X wr)
      (fun _ i _ => fs.length - (intOf i).toNat)
    case atStart => exact ⟨0, Nat.zero_le _, rfl, ⟨[], rfl, HE.out, fun j hj => by omega⟩, HBE.out⟩
    case round =>
      clear HE HBE
      obtain ⟨k, hk, rfl, ⟨us, hul, hov, hall⟩, hbel⟩ := hrel
      have hwX : Below w.heap.size w wr := bA.trans (hbel.mono (Nat.le_succ _))
      have xr := (hbel.block w.heap.size (Nat.lt_succ_self _)).trans x0
      have y0 := CX.out _ 0 _ xr rfl
      have y1 := CX.out _ 1 _ xr rfl
      by_cases hlt : k < fs.length
      · obtain ⟨b, o, rfl, hb, hc⟩ := HF3.out k hlt
        rw [← hwX.cell (p := ⟨b, o + k, none⟩) hb] at hc
        obtain ⟨q0, q1⟩ := HFS.out k hlt
        have hpg := pickR_get (rows := xss) hlt
        obtain ⟨f, hfe⟩ := Int.eq_ofNat_of_zero_le q0
        rw [hfe] at hc q1 hpg
        rw [Int.toNat_natCast] at hpg
        obtain ⟨b2, o2, u, rfl, hb2, hc2, hru⟩ := HV3.out f (by omega)
        rw [← hwX.cell (p := ⟨b2, o2 + f, none⟩) (Nat.lt_of_lt_of_le hb2 hvs)] at hc2
        replace hru := (hru.up hvs (Nat.le_refl _)).mod (Mod.of_below hwX) (.inr (Nat.zero_le _))
        rw [← hpg] at hru
        obtain ⟨xs, hxs⟩ : ∃ xs, xs = (pickR xss fs).getD k [] := ⟨_, rfl⟩
        rw [← hxs] at hru
        obtain ⟨au, cu, rfl, -⟩ := id hru
        have HXS := hid hxs
        have HALL := hid hall
        have HUL := hid hul
        have HRU := hid hru
        have f0 : (0 : Int) ≤ (f : Int) := by omega
        have hul' : us.length < 1099511627776 := by omega
        have hs1 : w.heap.size + 1 ≤ wr.heap.size := by have := hbel.size; omega
        obtain ⟨aq, cq, rfl, -⟩ := hov.shape
        have k0 : (0 : Int) ≤ (k : Int) := by omega
        have k1 : (k : Int) < (fs.length : Int) := by omega
        have HOV := hid hov
        have HFE := hid hfe
        have HPG := hid hpg
        have hone := hru.one
        clear hxs hall hul hru hov hfe hpg
        go_wp2_with (first
          | (at_builtin; refine appV rfl _ _ 34 rfl Try.underlying34 (w.heap.size + 1) _ us _ hone HOV.out (by rfl) (by rfl) hul' (Below.refl _ _) hs1 ?_; intro v7 w7 ho7 hb7 _)
          | fail)
        go_roundw
        case rel =>
          refine ⟨k + 1, by omega, by go_num, ⟨_, by rw [List.length_append, HUL.out]; rfl, ho7, fun j hj => ?_⟩, hbel.trans hb7⟩
          have hul := HUL.out
          have m7 : ∀ {v : Value} {ys : List Int}, RR wr w.heap.size v ys → RR w7 w.heap.size v ys := fun {v ys} h => h.below hb7 (Nat.le_succ _)
          rw [getD_snoc]
          by_cases e : j < us.length
          · rw [if_pos e]
            exact m7 (HALL.out j (by omega))
          · obtain rfl : j = k := by omega
            rw [if_neg e, if_pos (by omega), ← HXS.out]
            exact m7 HRU.out
        case measure => simp [intOf]; omega
      · obtain rfl : k = fs.length := by omega
        obtain ⟨aq, cq, rfl, -⟩ := hov.shape
        have hrs := hov.rs (xss := pickR xss fs) (by rw [hul, pickR_length]) rfl fun i hi => (hall i (by omega)).up (by have := hwX.size; omega) (Nat.le_refl _)
        rw [hul] at hrs ⊢
        go_wp2_with fail
        refine (skr_any kd _ _ (pickR xss fs) wr hrs).mono ?_
        rintro e w5 ⟨vo, rfl, ho5, hb5⟩
        go_wp2_with fail
        go_ret
        exact ⟨_, rfl, ho5.base hwX.size, hwX.trans (hb5.mono hwX.size)⟩
theorem node_row {ns : List Nd} (h : planB ns = true) {k : Nat} (hk : k < ns.length) : rvB (ns.getD k nd0).row = true := by
  have hn := planB_node h hk
  unfold nodeB at hn
  simp only [Bool.and_eq_true] at hn
  exact hn.1.1.2

def RowsMade (w : World) (xss : List (List Int)) (e : Ending) (w' : World) : Prop := ∃ vo, e = .returned vo ∧ Grid w' w.heap.size vo xss ∧ Below w.heap.size w w'
set_option maxHeartbeats 4000000 in
theorem svals_any (v : Value) (ns : List Nd) (hi : Nat) (w : World) (h : PL w hi v ns) (hp : planB ns = true) :
    Calls Try.prog 60 #[v] w (RowsMade w (valsN ns ns.length)) := by
  have hn := planB_len hp
  obtain ⟨a, c, rfl, h1, h2, hs, h3⟩ := h
  unfold maxLen at h2
  have HP := hid hp
  have H3 := hid h3
  obtain ⟨L, hL⟩ : ∃ L, L = valsN ns ns.length := ⟨_, rfl⟩
  rw [← hL]
  have HL := hid hL
  clear h3 hp hL
  go_enter Try.func60, Try.ntmps60
  go_wp2_with fail
  go_loopw [3, 4] (fun q i wr => ∃ k : Nat, k ≤ ns.length ∧ i = .int .i64 k ∧ Grid wr w.heap.size q (valsN ns k) ∧ Below w.heap.size w wr) (fun _ i _ => ns.length - (intOf i).toNat)
  case atStart => exact ⟨0, Nat.zero_le _, rfl, Grid.fresh0 w (Nat.le_refl _), (Below.refl _ _).alloc (Nat.le_refl _) _⟩
  case round =>
    obtain ⟨k, hk, rfl, hg, hbel⟩ := hrel
    by_cases hlt : k < ns.length
    · obtain ⟨b, o, f, r, rfl, hb, c0, c1, c2, hf, hr⟩ := H3.out k hlt
      have hm := Mod.of_below hbel
      have hk0 := hm.block b (Nat.lt_of_lt_of_le hb hs) (.inr (Nat.zero_le _))
      replace c0 := (World.cell?_of_block (a := ⟨b, o + k * 3, none⟩) hk0).trans c0
      replace c1 := (World.cell?_of_block (a := ⟨b, o + k * 3 + 1, none⟩) hk0).trans c1
      replace c2 := (World.cell?_of_block (a := ⟨b, o + k * 3 + 2, none⟩) hk0).trans c2
      replace hf := hf.mod hm (.inr (Nat.zero_le _))
      replace hr := hr.mod hm (.inr (Nat.zero_le _))
      obtain ⟨p1, p2, -⟩ := node_parts HP.out hlt
      have hrl := rvB_len (node_row HP.out hlt)
      have hvl := valsN_length ns k
      have hsu : valsN ns (k + 1) = valsN ns k ++ [stepL (ns.getD k nd0) (valsN ns k)] := rfl
      obtain ⟨nd, hnd⟩ : ∃ nd, nd = ns.getD k nd0 := ⟨_, rfl⟩
      rw [← hnd] at c0 hf hr p1 p2 hrl hsu
      obtain ⟨kd, fs, row⟩ := nd
      simp only at c0 hf hr p1 p2 hrl
      obtain ⟨af, cf, rfl, -⟩ := id hf
      obtain ⟨ar, cr, rfl, -⟩ := id hr
      have hfl : fs.length ≤ 1000 := by have := knI_le kd; omega
      have hfs : ¬ kd = 0 → ∀ q, q < fs.length → 0 ≤ fs.getD q 0 ∧ fs.getD q 0 < (valsN ns k).length := fun _ q hq => by
        have := p2 q hq
        rw [hvl]
        exact this
      obtain ⟨W, hW⟩ : ∃ W, W = valsN ns k := ⟨_, rfl⟩
      rw [← hW] at hg hvl hsu hfs
      have HSU := hid hsu
      have HFS := hid hfs
      have HG := hid hg
      have hrs := hg.rs
      obtain ⟨aq, cq, rfl, -⟩ := id hrs
      rw [hvl] at hrs hg HG ⊢
      have HVL := hid hvl
      clear hnd hk0 hW hsu hfs hg p1 p2 hvl hm
      go_wp2_with fail
      refine (sstep_any kd _ _ _ fs row _ W wr hf.rl hr.rl hrs hfl (by omega) HFS.out).mono ?_
      rintro e w5 ⟨vo, rfl, ho, hb5⟩
      obtain ⟨vs, g1, g2, g3⟩ := HG.out.mod (Mod.of_below hb5) (Nat.zero_le _)
      replace ho := ho.base hbel.size
      have hone := ho.oneCell
      obtain ⟨av, cv, rfl, -⟩ := id ho.rl
      have hvl5 : vs.length < 1099511627776 := by have := HVL.out; omega
      have hs5 : w.heap.size ≤ w5.heap.size := Nat.le_trans hbel.size hb5.size
      have G1 := hid g1
      have G3 := hid g3
      have HO := hid ho
      have G2 := hid g2
      clear g1 g3 ho g2
      go_wp2_with (first
        | (at_builtin; refine appV rfl _ _ 34 rfl Try.underlying34 w.heap.size _ vs _ hone G2.out (by rfl) (by rfl) hvl5 (Below.refl _ _) hs5 ?_; intro v7 w7 ho7 hb7 hg7)
        | fail)
      go_roundw
      case rel => exact ⟨k + 1, by omega, by go_num, by rw [HSU.out]; exact Grid.snoc G1.out G2.out G3.out HO.out ho7 hg7, ((Mod.of_below hb5).below0 hbel hbel.size).trans hb7⟩
      case measure => simp [intOf]; omega
    · obtain rfl : k = ns.length := by omega
      obtain ⟨aq, cq, rfl, -⟩ := hg.shape
      rw [← HL.out] at hg
      go_wp2_with fail
      go_ret
      rw [← HL.out]
      exact ⟨_, rfl, hg, hbel⟩

/-- What the reference's ValuesOf hands back. -/
def ValuedR (w : World) (ns : List Nd) (e : Ending) (w' : World) : Prop :=
  ∃ vo, e = .returned (.tuple #[vo, .bool (planB ns)]) ∧ Grid w' w.heap.size vo (valsR ns) ∧ Below w.heap.size w w'
theorem svalues_any (v : Value) (ns : List Nd) (hi : Nat) (w : World) (h : PL w hi v ns) (hlen : ns.length ≤ 1099511627776) :
    Calls Try.prog 26 #[v] w (ValuedR w ns) := by
  obtain ⟨R, hR⟩ : ∃ R, R = valsR ns := ⟨_, rfl⟩
  unfold ValuedR
  rw [← hR]
  obtain ⟨a, c, rfl, -⟩ := id h
  cases hpb : planB ns
  · have eR : R = [] := by rw [hR, valsR_no hpb]
    subst eR
    have HPB := hid hpb
    clear hpb hR
    go_enter Try.func26, Try.ntmps26
    go_wp2_with fail
    refine (splan_any _ ns hi w h hlen).mono ?_
    rintro e w2 ⟨rfl, m2⟩
    rw [HPB.out]
    go_wp2_with fail
    go_ret2
    exact ⟨_, rfl, Grid.fresh0 w2 m2.size, (m2.below0 (Below.refl _ _) (Nat.le_refl _)).alloc m2.size _⟩
  · have eR : R = valsN ns ns.length := by rw [hR, valsR_of hpb]
    subst eR
    have HPB := hid hpb
    clear hpb hR
    go_enter Try.func26, Try.ntmps26
    go_wp2_with fail
    refine (splan_any _ ns hi w h hlen).mono ?_
    rintro e w2 ⟨rfl, m2⟩
    rw [HPB.out]
    go_wp2_with fail
    refine (svals_any _ ns hi w2 (h.mod m2 (.inr (Nat.zero_le _))) HPB.out).mono ?_
    rintro e w3 ⟨vo, rfl, hg, hb3⟩
    go_wp2_with fail
    go_ret2
    obtain ⟨vs, g1, g2, g3⟩ := hg
    exact ⟨_, rfl, ⟨vs, g1, g2.base m2.size, fun i hi => (g3 i hi).base m2.size⟩, (m2.below0 (Below.refl _ _) (Nat.le_refl _)).trans (hb3.mono m2.size)⟩
end Go.Proofs.Yteelobokjidphaa
