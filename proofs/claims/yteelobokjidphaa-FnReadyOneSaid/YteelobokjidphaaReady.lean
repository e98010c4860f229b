/- Which nodes are ready: the contracts of the program and of the reference. No condition. -/
import Derived.Test.YteelobokjidphaaOrder
namespace Go.Proofs.Yteelobokjidphaa
open Go.RowKit
set_option maxRecDepth 100000

set_option maxHeartbeats 4000000 in
theorem iready_any (v vd : Value) (ns : List Nd) (done : List Int) (hi : Nat) (w : World) (h : PL w hi v ns) (hd : RL w vd done) :
    Calls Try.prog 55 #[v, vd] w (PostI w (readyR ns done)) := by
  obtain ⟨xs, hxs⟩ : ∃ xs, xs = readyR ns done := ⟨_, rfl⟩
  rw [← hxs]
  have HXS := hid hxs
  have HP := h
  obtain ⟨a, c, rfl, h1, h2, hs, h3⟩ := h
  obtain ⟨ad, cd, rfl, h1', h2', h3'⟩ := hd
  unfold maxLen at h2 h2'
  have H3 := hid h3
  have H3' := hid h3'
  clear hxs h3 h3'
  go_enter Try.func55, Try.ntmps55
  go_wp2_with fail
  refine (iplan_any _ ns hi w HP).mono ?_
  rintro e w1 ⟨rfl, m1⟩
  have hb1 := m1.below0 (Below.refl w.heap.size w) (Nat.le_refl _)
  by_cases hp : planB ns = true
  · rw [hp]
    have hlen := planB_len hp
    have HPB := hid hp
    have HE := hid (Early.plan hp)
    have HS0 := hid (SB.made w1)
    rw [marksA_none] at HS0
    have hs1 := m1.size
    clear hp
    go_wp2_with fail
    go_loopw [16] (fun i wr => ∃ (k : Nat) (s : Nat → Bool), k ≤ done.length ∧ i = .int .i64 k ∧ SB wr w1.heap.size s ∧ (∀ x : Nat, x < ns.length → s x = hasB (done.take k) x) ∧ Below w1.heap.size w1 wr) (fun i _ => done.length - (intOf i).toNat)
    case atStart => exact ⟨0, _, Nat.zero_le _, rfl, HS0.out, fun x _ => by simp [hasB], (Below.refl _ _).alloc (Nat.le_refl _) _⟩
    case round =>
      clear HS0
      obtain ⟨k, s, hk, rfl, hsb, hsx, hbel⟩ := hrel
      by_cases hlt : k < done.length
      · obtain ⟨b', o', rfl, hbs, hc⟩ := H3'.out k hlt
        replace hc := (World.cell?_of_block (a := ⟨b', o' + k, none⟩) ((m1.trans (Mod.of_below hbel)).block b' hbs (.inr (Nat.zero_le _)))).trans hc
        have htk := take_int hlt
        obtain ⟨x, hx⟩ : ∃ x, x = done.getD k 0 := ⟨_, rfl⟩
        rw [← hx] at hc htk
        have HSX := hid hsx
        have HSB := hid hsb
        have HTK := hid htk
        clear hx hsx hsb htk
        by_cases hin : 0 ≤ x ∧ x < (ns.length : Int)
        · obtain ⟨X, rfl⟩ := Int.eq_ofNat_of_zero_le hin.1
          have hX10 : X < 10 := by omega
          have sc := HSB.out.cell hX10
          have sf := HSB.out.frozen X
          have x0 : (0 : Int) ≤ (X : Int) := by omega
          have x2 : (X : Int) < 10 := by omega
          have HD := hid (decide_eq_true hin)
          clear hin
          go_wp2_with fail
          refine (isNode_any _ _ _ X wr).mono ?_
          rintro e _ ⟨rfl, rfl⟩
          rw [HD.out]
          go_wp2_with fail
          go_roundw
          case rel =>
            refine ⟨k + 1, _, by omega, by go_num, HSB.out.set hX10, fun y hy => ?_, hbel.setCell (Nat.le_refl _) _⟩
            rw [HTK.out, hasB_snoc, HSX.out y hy]
            congr 1
            rw [decide_eq_decide]; omega
          case measure => simp [intOf]; omega
        · have HD := hid (decide_eq_false hin)
          have HIN := hid hin
          clear hin
          go_wp2_with fail
          refine (isNode_any _ _ _ x wr).mono ?_
          rintro e _ ⟨rfl, rfl⟩
          rw [HD.out]
          go_wp2_with fail
          go_roundw
          case rel =>
            refine ⟨k + 1, s, by omega, by go_num, HSB.out, fun y hy => ?_, hbel⟩
            rw [HTK.out, hasB_snoc, HSX.out y hy]
            have : decide ((y : Int) = x) = false := decide_eq_false (fun e => HIN.out (by omega))
            rw [this, Bool.or_false]
          case measure => simp [intOf]; omega
      · obtain rfl : k = done.length := by omega
        rw [List.take_length] at hsx
        obtain ⟨w3, hw3⟩ : ∃ w3 : World, w3 = wr := ⟨_, rfl⟩
        have m3 := m1.trans (Mod.of_below hbel)
        have hb3 := (Mod.of_below hbel).below0 hb1 hb1.size
        rw [← hw3] at m3 hb3 hsb ⊢
        have HSX := hid hsx
        have HSB := hid hsb
        have hs3 := hsb.lt
        have HW := hid hw3
        clear hsx hsb hbel hlt hw3
        go_wp2_with fail
        go_loopw [8, 28] (fun o i wr => ∃ j : Nat, j ≤ ns.length ∧ i = .int .i64 j ∧ OI wr (w1.heap.size + 1) o (numL (readyN ns done j)) ∧ Below (w1.heap.size + 1) w3 wr) (fun _ i _ => ns.length - (intOf i).toNat)
        case atStart => exact ⟨0, Nat.zero_le _, rfl, OI.nil _ _, Below.refl _ _⟩
        case round =>
          obtain ⟨j, hj, rfl, ho, hbel⟩ := hrel
          by_cases hlt : j < ns.length
          · obtain ⟨b, o, f, r, rfl, hb, c0, c1, c2, hf, hr⟩ := H3.out j hlt
            have hbr := hb3.trans (hbel.mono (show w.heap.size ≤ w1.heap.size + 1 by omega))
            have hm := Mod.of_below hbr
            have hk0 := hm.block b (Nat.lt_of_lt_of_le hb hs) (.inr (Nat.zero_le _))
            replace c0 := (World.cell?_of_block (a := ⟨b, o + j * 3, none⟩) hk0).trans c0
            replace c1 := (World.cell?_of_block (a := ⟨b, o + j * 3 + 1, none⟩) hk0).trans c1
            replace c2 := (World.cell?_of_block (a := ⟨b, o + j * 3 + 2, none⟩) hk0).trans c2
            replace hf := hf.mod hm (.inr (Nat.zero_le _))
            replace hr := hr.mod hm (.inr (Nat.zero_le _))
            have hrl := readyN_length ns done j
            have hrs := readyN_succ ns done j
            have hfe : ∀ y ∈ (ns.getD j nd0).fs, 0 ≤ y ∧ y < (ns.length : Int) := fun y hy => by have := HE.out j hlt y hy; omega
            have hrb : readyB ns done j = (!hasB done j && (ns.getD j nd0).fs.all (hasB done)) := rfl
            obtain ⟨n, hn⟩ : ∃ n, n = ns.getD j nd0 := ⟨_, rfl⟩
            rw [← hn] at c0 hf hr hrb hfe
            obtain ⟨kd, fs, row⟩ := n
            simp only at c0 hf hr hrb hfe
            obtain ⟨af, cf, rfl, -⟩ := id hf
            obtain ⟨ar, cr, rfl, -⟩ := id hr
            have hsbr : SB wr w1.heap.size s := by
              unfold SB; rw [hbel.block _ (Nat.lt_succ_self _)]; exact HSB.out
            have mA := Mod.alloc wr (.cells #[.int .i64 kd, .slice af fs.length cf, .slice ar row.length cr] 48)
            have hsbA := hsbr.mod mA (.inr (Nat.zero_le _))
            have hfA := (hf.mod mA (.inr (Nat.zero_le _))).rl
            have hoA := ho.alloc (.cells #[.int .i64 kd, .slice af fs.length cf, .slice ar row.length cr] 48)
            have hszA : w1.heap.size + 1 ≤ wr.heap.size := Nat.le_trans hs3 hbel.size
            have hbA := hbel.alloc hszA (.cells #[.int .i64 kd, .slice af fs.length cf, .slice ar row.length cr] 48)
            have hj10 : j < 10 := by omega
            have sc := hsbA.cell hj10
            rw [HSX.out j hlt] at sc
            have j0 : (0 : Int) ≤ (j : Int) := by omega
            have j1 : (j : Int) < 10 := by omega
            have HFE := hid hfe
            have HSA := hid hsbA
            have HFA := hid hfA
            have hszB : w1.heap.size + 1 ≤ (wr.alloc (.cells #[.int .i64 kd, .slice af fs.length cf, .slice ar row.length cr] 48)).heap.size := Nat.le_trans hs3 hbA.size
            clear hn hk0 hfe hsbr hsbA hfA hf hr ho
            cases hh : hasB done j
            · rw [hh] at sc hrb
              rw [Bool.not_false, Bool.true_and] at hrb
              cases hal : fs.all (hasB done)
              · rw [hrb, hal, if_neg (by simp), List.append_nil] at hrs
                have HAL := hid hal
                have HRS := hid hrs
                clear hh hal hrb hrs
                go_wp2_with fail
                refine (allIn_any _ fs done w1.heap.size s _ HFA.out HSA.out ns.length hlen HSX.out HFE.out).mono ?_
                rintro e _ ⟨rfl, rfl⟩
                rw [HAL.out]
                go_wp2_with fail
                go_roundw
                case rel => exact ⟨j + 1, by omega, by go_num, by rw [HRS.out]; exact hoA, hbA⟩
                case measure => simp [intOf]; omega
              · rw [hrb, hal, if_pos rfl] at hrs
                have HAL := hid hal
                have HRS := hid hrs
                clear hh hal hrb hrs
                go_wp2_with fail
                refine (allIn_any _ fs done w1.heap.size s _ HFA.out HSA.out ns.length hlen HSX.out HFE.out).mono ?_
                rintro e _ ⟨rfl, rfl⟩
                rw [HAL.out]
                go_wp2_with (at_builtin; refine app1 rfl _ _ 24 rfl Try.underlying24 (w1.heap.size + 1) _ _ _ hoA rfl (by simp; rfl) (by rw [numL_length]; omega) hbA hszB ?_; intro v' w' ho' hbel' _)
                go_roundw
                case rel => exact ⟨j + 1, by omega, by go_num, by rw [HRS.out, numL_app]; exact ho', hbel'⟩
                case measure => simp [intOf]; omega
            · rw [hh] at sc hrb
              rw [Bool.not_true, Bool.false_and] at hrb
              rw [hrb, if_neg (by simp), List.append_nil] at hrs
              have HRS := hid hrs
              clear hh hrb hrs
              go_wp2_with fail
              go_roundw
              case rel => exact ⟨j + 1, by omega, by go_num, by rw [HRS.out]; exact hoA, hbA⟩
              case measure => simp [intOf]; omega
          · obtain rfl : j = ns.length := by omega
            go_wp2_with fail
            go_ret
            refine ⟨_, rfl, ?_, hb3.trans (hbel.mono (by omega))⟩
            have e : xs = numL (readyN ns done ns.length) := by rw [HXS.out]; unfold readyR; rw [if_pos HPB.out]
            rw [e]
            exact ho.base (by omega)
  · have hp' : planB ns = false := by simpa using hp
    rw [hp']
    have e : xs = [] := by rw [HXS.out]; unfold readyR; rw [if_neg hp]
    subst e
    clear hp hp'
    go_wp2_with fail
    go_ret
    exact ⟨_, rfl, OI.nil _ _, hb1⟩

set_option maxHeartbeats 2000000 in
theorem sready_any (v vd : Value) (ns : List Nd) (done : List Int) (hi : Nat) (w : World) (h : PL w hi v ns) (hd : RL w vd done) (hlen : ns.length ≤ 1099511627776) :
    Calls Try.prog 56 #[v, vd] w (PostI w (readyR ns done)) := by
  obtain ⟨xs, hxs⟩ : ∃ xs, xs = readyR ns done := ⟨_, rfl⟩
  rw [← hxs]
  have HXS := hid hxs
  have HP := h
  obtain ⟨a, c, rfl, h1, h2, hs, h3⟩ := h
  obtain ⟨ad, cd, rfl, -⟩ := id hd
  unfold maxLen at h2
  have H3 := hid h3
  have HD := hd.rr
  clear h3 hxs hd
  go_enter Try.func56, Try.ntmps56
  go_wp2_with fail
  go_loopw [5, 6] (fun o i wr => ∃ k : Nat, k ≤ ns.length ∧ i = .int .i64 k ∧ OI wr w.heap.size o (numL (readyN ns done k)) ∧ Below w.heap.size w wr ∧ (0 < k → planB ns = true)) (fun _ i _ => ns.length - (intOf i).toNat)
  case atStart => exact ⟨0, Nat.zero_le _, rfl, OI.fresh0 w (Nat.le_refl _), (Below.refl _ _).alloc (Nat.le_refl _) _, fun h => by omega⟩
  case round =>
    obtain ⟨k, hk, rfl, ho, hbel, hpk⟩ := hrel
    by_cases hlt : k < ns.length
    · have HPK := hid hpk
      have hpl := HP.mod (Mod.of_below hbel) (.inr (Nat.zero_le _))
      clear hpk
      go_wp2_with fail
      refine (splan_any _ ns hi wr hpl hlen).mono ?_
      rintro e w2 ⟨rfl, hm2⟩
      have hb2 := hm2.below0 hbel hbel.size
      replace ho := ho.mod hm2 (Nat.zero_le _)
      have hdr := (HD.mod (Mod.of_below hb2) (.inr (Nat.zero_le _))).rl
      obtain ⟨b, o, f, r, rfl, hb, c0, c1, c2, hf, hr⟩ := H3.out k hlt
      have hk0 := hb2.block b (Nat.lt_of_lt_of_le hb hs)
      replace c1 := (World.cell?_of_block (a := ⟨b, o + k * 3 + 1, none⟩) hk0).trans c1
      replace hf := hf.mod (Mod.of_below hb2) (.inr (Nat.zero_le _))
      clear c0 c2 hr hk0
      by_cases hp : planB ns = true
      · rw [hp]
        have HPB := hid hp
        have hrs := readyN_succ ns done k
        have hrl := readyN_length ns done k
        have hrb : readyB ns done k = (!hasB done k && (ns.getD k nd0).fs.all (hasB done)) := rfl
        obtain ⟨fs, hfs⟩ : ∃ fs, fs = (ns.getD k nd0).fs := ⟨_, rfl⟩
        rw [← hfs] at hf hrb
        obtain ⟨af, cf, rfl, -⟩ := id hf
        clear hfs hp
        cases hh : hasB done k
        · rw [hh, Bool.not_false, Bool.true_and] at hrb
          have HH := hid hh
          clear hh
          cases hal : fs.all (hasB done)
          · rw [hrb, hal, if_neg (by simp), List.append_nil] at hrs
            have HAL := hid hal
            have HRS := hid hrs
            clear hal hrb hrs
            go_wp2_with fail
            refine (has_any _ done k w2 hdr).mono ?_
            rintro e _ ⟨rfl, rfl⟩
            rw [HH.out]
            go_wp2_with fail
            refine (l5All_any _ _ done fs w2 hdr hf.rl).mono ?_
            rintro e _ ⟨rfl, rfl⟩
            rw [HAL.out]
            go_wp2_with fail
            go_roundw
            case rel => exact ⟨k + 1, by omega, by go_num, by rw [HRS.out]; exact ho, hb2, fun _ => HPB.out⟩
            case measure => simp [intOf]; omega
          · rw [hrb, hal, if_pos rfl] at hrs
            have HAL := hid hal
            have HRS := hid hrs
            clear hal hrb hrs
            go_wp2_with fail
            refine (has_any _ done k w2 hdr).mono ?_
            rintro e _ ⟨rfl, rfl⟩
            rw [HH.out]
            go_wp2_with fail
            refine (l5All_any _ _ done fs w2 hdr hf.rl).mono ?_
            rintro e _ ⟨rfl, rfl⟩
            rw [HAL.out]
            go_wp2_with (at_builtin; refine app1 rfl _ _ 24 rfl Try.underlying24 w.heap.size _ _ _ ho rfl rfl (by rw [numL_length]; omega) hb2 hb2.size ?_; intro v' w' ho' hbel' _)
            go_roundw
            case rel => exact ⟨k + 1, by omega, by go_num, by rw [HRS.out, numL_app]; exact ho', hbel', fun _ => HPB.out⟩
            case measure => simp [intOf]; omega
        · rw [hh, Bool.not_true, Bool.false_and] at hrb
          rw [hrb, if_neg (by simp), List.append_nil] at hrs
          have HH := hid hh
          have HRS := hid hrs
          clear hh hrb hrs
          go_wp2_with fail
          refine (has_any _ done k w2 hdr).mono ?_
          rintro e _ ⟨rfl, rfl⟩
          rw [HH.out]
          go_wp2_with fail
          go_roundw
          case rel => exact ⟨k + 1, by omega, by go_num, by rw [HRS.out]; exact ho, hb2, fun _ => HPB.out⟩
          case measure => simp [intOf]; omega
      · have hp' : planB ns = false := by simpa using hp
        have hk0 : k = 0 := by
          rcases Nat.eq_zero_or_pos k with h | h
          · exact h
          · exact absurd (HPK.out h) hp
        subst hk0
        have e : xs = [] := by rw [HXS.out]; unfold readyR; rw [if_neg hp]
        subst e
        rw [hp']
        clear hp hp'
        go_wp2_with fail
        go_ret
        exact ⟨_, rfl, ho, hb2⟩
    · obtain rfl : k = ns.length := by omega
      have HPK := hid hpk
      clear hpk
      go_wp2_with fail
      go_ret
      refine ⟨_, rfl, ?_, hbel⟩
      by_cases h0 : 0 < ns.length
      · have e : xs = numL (readyN ns done ns.length) := by rw [HXS.out]; unfold readyR; rw [if_pos (HPK.out h0)]
        rw [e]; exact ho
      · have e : numL (readyN ns done ns.length) = xs := by
          have h0' : ns.length = 0 := by omega
          rw [HXS.out]; unfold readyR; rw [h0']; split <;> rfl
        rw [← e]; exact ho
end Go.Proofs.Yteelobokjidphaa
