/- What a node needs, directly or not: the contract of the reference. No condition. -/
import Derived.Test.YthdhjlefkdfkkaaNeeds
namespace Go.Proofs.Ythdhjlefkdfkkaa
open Go.RowKit
set_option maxRecDepth 100000

theorem hasB_take {fs : List Int} {q : Nat} (h : q < fs.length) (x : Int) : hasB (fs.take (q + 1)) x = (hasB (fs.take q) x || decide (x = fs.getD q 0)) := by
  have e : fs.take (q + 1) = fs.take q ++ [fs.getD q 0] := by rw [List.take_add_one]; simp [h]
  rw [Bool.eq_iff_iff, Bool.or_eq_true, hasB_true, hasB_true, decide_eq_true_eq, e, List.mem_append, List.mem_singleton]

theorem OB_kept {w w' : World} {B A n : Nat} {v u : Value} {s : Nat → Bool} {xs : List Int} (h : OB w B v n s) (hu : OI w A u xs) (hg : w.grownBy w' u.ownBlock) : OB w' B v n s := by
  refine ownsRow_blk h fun k hk => hg.block k (World.ownsRow.lt h k hk).2 fun e => ?_
  rcases h.2 with ⟨rfl, _⟩ | ⟨g, cap, cur, rfl, _, hh, _⟩
  · cases hk
  · rcases hu.2 with ⟨rfl, _⟩ | ⟨g', cap', cur', rfl, _, hh', _⟩
    · cases e
    · simp [Value.ownBlock] at hk e
      subst hk
      subst e
      rw [hh] at hh'
      simp at hh'

set_option maxHeartbeats 4000000 in
theorem l3Needs_any (v vl : Value) (ns : List Nd) (hi a : Nat) (w : World) (h : PL w hi v ns) (hl : RL w vl [(a : Int)]) (hE : Early ns ns.length) (hlen : ns.length ≤ 10) (ha : a < ns.length) :
    Calls Try.prog 48 #[v, vl] w (PostI w (numL ((List.range ns.length).filter (goB ns a)))) := by
  have HP := h
  obtain ⟨av, c, rfl, h1, h2, hs, h3⟩ := h
  obtain ⟨al, cl, rfl, h1l, h2l, h3l⟩ := hl
  obtain ⟨bl, ol, rfl, hbl, hcl⟩ := h3l 0 (by simp)
  simp only [List.length_singleton, List.getD_cons_zero, Nat.add_zero] at hcl h1l
  unfold maxLen at h2 h2l
  obtain ⟨R, hR⟩ : ∃ R, R = (List.range ns.length).filter (goB ns a) := ⟨_, rfl⟩
  rw [← hR]
  have H3 := hid h3
  have HR := hid hR
  have HE := hid hE
  rw [List.length_singleton]
  clear h3 h3l hR hE
  go_enter Try.func48, Try.ntmps48
  go_wp2_with (at_make; refine mkB rfl _ _ 82 rfl Try.underlying82 w.heap.size ns.length _ _ rfl rfl rfl rfl (by omega) (Below.refl _ _) (Nat.le_refl _) ?_; intro v' w1 ho rfl hbel)
  go_loopw [6] (fun i wr => ∃ (k : Nat) (s : Nat → Bool), k ≤ 1 ∧ i = .int .i64 k ∧ OB wr w.heap.size (.slice (some ⟨w.heap.size, 0, none⟩) ns.length ns.length) ns.length s ∧ (∀ x, s x = (decide (k = 1) && decide (x = a))) ∧ Below w.heap.size w wr) (fun i _ => 1 - (intOf i).toNat)
  case atStart => exact ⟨0, _, Nat.zero_le _, rfl, ho, fun x => by simp, hbel⟩
  case round =>
    clear ho hbel
    obtain ⟨k, s, hk, rfl, ho, hsx, hbel⟩ := hrel
    by_cases hk0 : k = 0
    · subst hk0
      have hc' := hcl
      rw [← hbel.cell (p := ⟨bl, ol, none⟩) hbl] at hc'
      obtain ⟨sc, sf⟩ := ho.cell ha
      have HO := hid (ho.set a)
      have HSX := hid hsx
      have hb' := hbel.setCell (p := ⟨w.heap.size, a, none⟩) (Nat.le_refl _) (.bool true)
      clear ho hsx
      go_wp2_with fail
      go_roundw
      case rel => exact ⟨1, _, by omega, rfl, HO.out, fun x => by rw [HSX.out]; simp, hb'⟩
      case measure => simp [intOf]
    · obtain rfl : k = 1 := by omega
      have HS1 := hid (show ∀ x, s x = decide (x = a) from fun x => by rw [hsx]; simp)
      clear hsx hk0
      rw [show ((1 : Nat) : Int) = 1 from rfl]
      go_wp2_with fail
      go_loopw [7, 8] (fun i _ wr => ∃ (k : Nat) (s : Nat → Bool), k ≤ ns.length ∧ i = .int .i64 ((k : Int) - 1) ∧ OB wr w.heap.size (.slice (some ⟨w.heap.size, 0, none⟩) ns.length ns.length) ns.length s ∧ (∀ x, downN ns k s x = goB ns a x) ∧ Below w.heap.size w wr) (fun i _ _ => (intOf i + 1).toNat)
      case atStart => exact ⟨ns.length, s, Nat.le_refl _, rfl, ho, fun x => by unfold goB; rw [show s = (fun x => decide (x = a)) from funext HS1.out], hbel⟩
      case round =>
        clear ho hbel HS1
        obtain ⟨k, s, hk, rfl, ho, hsx, hbel⟩ := hrel
        by_cases hk0 : k = 0
        · subst hk0
          have HS := hid (show ∀ x, s x = goB ns a x from hsx)
          clear hsx
          rw [show ((0 : Nat) : Int) - 1 = -1 from rfl]
          go_wp2_with fail
          go_loopw [9, 10] (fun o i wr => ∃ j : Nat, j ≤ ns.length ∧ i = .int .i64 j ∧ OI wr w.heap.size o (numL ((List.range j).filter s)) ∧ OB wr w.heap.size (.slice (some ⟨w.heap.size, 0, none⟩) ns.length ns.length) ns.length s ∧ Below w.heap.size w wr) (fun _ i _ => ns.length - (intOf i).toNat)
          case atStart =>
            have hm := Mod.alloc wr (.cells #[] 3)
            exact ⟨0, Nat.zero_le _, rfl, OI.fresh0 wr hbel.size, ho.mod hm (Nat.zero_le _), hm.below0 hbel hbel.size⟩
          case round =>
            clear ho hbel
            obtain ⟨j, hj, rfl, ho, hob, hbel⟩ := hrel
            by_cases hlt : j < ns.length
            · obtain ⟨sc, -⟩ := hob.cell hlt
              have hfs := filter_succ s j
              have hfl := filter_len s j
              have HOB := hid hob
              cases hsj : s j
              · rw [hsj] at sc
                rw [hsj, if_neg (by simp), List.append_nil] at hfs
                have HFS := hid hfs
                clear hfs hsj hob
                go_wp2_with fail
                go_roundw
                case rel => exact ⟨j + 1, by omega, by go_num, by rw [HFS.out]; exact ho, HOB.out, hbel⟩
                case measure => simp [intOf]; omega
              · rw [hsj] at sc
                rw [hsj, if_pos rfl] at hfs
                have HFS := hid hfs
                clear hfs hsj hob
                go_wp2_with (at_builtin; refine app1 rfl _ _ 26 rfl Try.underlying26 w.heap.size _ _ _ ho rfl rfl (by rw [numL_length]; omega) hbel hbel.size ?_; intro v' w' ho' hbel' hgr)
                go_roundw
                case rel => exact ⟨j + 1, by omega, by go_num, by rw [HFS.out, numL_app]; exact ho', OB_kept HOB.out ho hgr, hbel'⟩
                case measure => simp [intOf]; omega
            · obtain rfl : j = ns.length := by omega
              go_wp2_with fail
              go_ret
              refine ⟨_, rfl, ?_, hbel⟩
              rw [HR.out, ← show s = goB ns a from funext HS.out]
              exact ho
        · obtain ⟨j, rfl⟩ : ∃ j, k = j + 1 := ⟨k - 1, by omega⟩
          have hj : j < ns.length := by omega
          obtain ⟨b, o, f, r, rfl, hb, c0, c1, c2, hf, hr⟩ := H3.out j hj
          obtain ⟨fs, hfs⟩ : ∃ fs, fs = (ns.getD j nd0).fs := ⟨_, rfl⟩
          rw [← hfs] at hf
          have hfe : ∀ x ∈ fs, 0 ≤ x ∧ x < (j : Int) := fun x hx => HE.out j hj x (by rw [hfs] at hx; exact hx)
          have HFE := hid hfe
          have HFS := hid hfs
          have HSX := hid hsx
          obtain ⟨wo, hwo⟩ : ∃ wo : World, wo = wr := ⟨_, rfl⟩
          obtain ⟨af, cf, rfl, hf1, hf2, hfsz, hf4⟩ := hf
          have HF4 := hid hf4
          have HS0 := hid (show OB wr w.heap.size (.slice (some ⟨w.heap.size, 0, none⟩) ns.length ns.length) ns.length s from ho)
          have HB0 := hid hbel
          unfold maxLen at hf2
          have ej : ((j + 1 : Nat) : Int) - 1 = (j : Int) := by omega
          clear hfe hfs hsx c0 c2 hr hf4 ho hwo hk0
          rw [ej]
          clear ej
          go_wp2_with fail
          go_loopw [8] (fun i wr => ∃ (q : Nat) (t : Nat → Bool), q ≤ fs.length ∧ i = .int .i64 q ∧ OB wr w.heap.size (.slice (some ⟨w.heap.size, 0, none⟩) ns.length ns.length) ns.length t ∧ (∀ x : Nat, t x = (s x || (s j && hasB (fs.take q) x))) ∧ Below w.heap.size w wr) (fun i _ => fs.length - (intOf i).toNat)
          case atStart => exact ⟨0, s, Nat.zero_le _, rfl, HS0.out, fun x => by simp [hasB], HB0.out⟩
          case round =>
            clear HB0 HS0
            obtain ⟨q, t, hq, rfl, ho, htx, hbel⟩ := hrel
            have hk0 := hbel.block b (Nat.lt_of_lt_of_le hb hs)
            have d1 := (World.cell?_of_block (a := ⟨b, o + j * 3 + 1, none⟩) hk0).trans c1
            obtain ⟨tc, -⟩ := ho.cell hj
            have htj : t j = s j := by rw [htx]; cases s j <;> simp
            have HT := hid htx
            have j0 : (0 : Int) ≤ (j : Int) := by omega
            have j1 : (j : Int) < (ns.length : Int) := by omega
            have HDN : Hid (∀ x, downN ns j (fun x => s x || (s j && hasB fs x)) x = goB ns a x) := by rw [HFS.out]; exact HSX
            rw [htj] at tc
            clear hk0 htx htj
            by_cases hlt : q < fs.length
            · cases hsj : s j
              · rw [hsj] at tc
                have HSJ := hid hsj
                clear hsj
                go_wp2_with fail
                go_roundw
                case rel => exact ⟨j, t, by omega, by go_num, ho, fun x => by rw [← HDN.out x]; congr 1; funext y; rw [HT.out, HSJ.out]; simp, hbel⟩
                case measure => simp [intOf]
              · rw [hsj] at tc
                have HSJ := hid hsj
                clear hsj
                obtain ⟨b2, o2, rfl, hb2, hc2⟩ := HF4.out q hlt
                have hx : 0 ≤ fs.getD q 0 ∧ fs.getD q 0 < (j : Int) := HFE.out _ (by have : fs.getD q 0 = fs[q] := by simp [hlt]
                                                                                     rw [this]; exact List.getElem_mem _)
                have ht2 := hasB_take hlt
                obtain ⟨X, hX⟩ := Int.eq_ofNat_of_zero_le hx.1
                have HX := hid hX
                have hx2 : X < j := by omega
                have hxn : X < ns.length := by omega
                obtain ⟨xc, xf⟩ := ho.cell hxn
                rw [hX] at hc2
                have HO := hid (ho.set X)
                have HT2 := hid ht2
                have hb' := hbel.setCell (p := ⟨w.heap.size, X, none⟩) (Nat.le_refl _) (.bool true)
                have x0 : (0 : Int) ≤ (X : Int) := by omega
                have x1 : (X : Int) < (ns.length : Int) := by omega
                have hr2 := (Mod.of_below hbel).block b2 (by omega) (.inr (Nat.zero_le _))
                replace hc2 := (World.cell?_of_block (a := ⟨b2, o2 + q, none⟩) hr2).trans hc2
                clear hX hx ht2 hr2 ho
                go_wp2_with fail
                go_roundw
                case rel => exact ⟨q + 1, _, by omega, by go_num, HO.out, fun x => by
                  rw [HT2.out, HT.out, HSJ.out, HX.out]
                  have e : decide (x = X) = decide ((x : Int) = (X : Int)) := by rw [decide_eq_decide]; omega
                  rw [e]
                  cases s x <;> cases hasB (fs.take q) x <;> simp, hb'⟩
                case measure => simp [intOf]; omega
            · obtain rfl : q = fs.length := by omega
              rw [List.take_length] at HT
              go_wp2_with fail
              go_roundw
              case rel => exact ⟨j, t, by omega, by go_num, ho, fun x => by rw [← HDN.out x]; congr 1; funext y; rw [HT.out], hbel⟩
              case measure => simp [intOf]

theorem OI.take {w : World} {B g n c : Nat} {xs : List Int} (h : OI w B (.slice (some ⟨g, 0, none⟩) n c) xs) {k : Nat} (hk : k ≤ n) : OI w B (.slice (some ⟨g, 0, none⟩) k c) (xs.take k) := by
  obtain ⟨h1, h2⟩ := h
  rcases h2 with ⟨e, _⟩ | ⟨g', cap, cur, e, hg, hh, q1, q2, q3, q4⟩
  · cases e
  · simp only [Value.slice.injEq, Option.some.injEq, Addr.mk.injEq, and_true] at e
    obtain ⟨rfl, rfl, rfl⟩ := e
    have hl : (xs.take k).length = k := by rw [List.length_take]; omega
    refine ⟨by simp, .inr ⟨g, c, cur, by rw [hl], hg, hh, by omega, q2, q3, ?_⟩⟩
    rw [hl, Nat.mul_one, List.map_take, ← q4, Nat.mul_one, List.take_take]
    congr 1
    omega

set_option maxHeartbeats 1000000 in
theorem sneeds_any (v : Value) (ns : List Nd) (hi : Nat) (at_ : Int) (w : World) (h : PL w hi v ns) (hlen : ns.length ≤ 1099511627776) :
    Calls Try.prog 16 #[v, .int .i64 at_] w (PostI w (needsR ns at_)) := by
  obtain ⟨xs, hxs⟩ : ∃ xs, xs = needsR ns at_ := ⟨_, rfl⟩
  rw [← hxs]
  have HXS := hid hxs
  obtain ⟨a, c, rfl, h1, h2, hs, -⟩ := id h
  unfold maxLen at h2
  clear hxs
  have e1 : IntKind.i64.wrap ((ns.length : Int) - 1) = (ns.length : Int) - 1 := IntWalk.i64_in _ (by omega)
  go_enter Try.func16, Try.ntmps16
  go_wp2_with fail
  refine (splan_any _ ns hi w h hlen).mono ?_
  rintro e w2 ⟨rfl, hm2⟩
  have hb2 := hm2.below0 (Below.refl w.heap.size w) (Nat.le_refl _)
  replace h := h.mod hm2 (.inr (Nat.zero_le _))
  by_cases hp : planB ns = true
  · rw [hp]
    have HP := hid hp
    clear hp
    go_wp2_with fail
    refine (l6In_any at_ 0 ((ns.length : Int) - 1) w2).mono ?_
    rintro e _ ⟨rfl, rfl⟩
    rw [inB_at]
    by_cases hin : 0 ≤ at_ ∧ at_ < (ns.length : Int)
    · have hd : (decide (0 ≤ at_) && decide (at_ < (ns.length : Int))) = true := by simp [hin]
      rw [hd]
      obtain ⟨j, rfl⟩ := Int.eq_ofNat_of_zero_le hin.1
      have hj : j < ns.length := by omega
      have hE := Early.plan HP.out
      have hl10 := planB_len HP.out
      have hfg := filter_goB hE hj
      have hnl := needsN_length ns j
      have HFG := hid hfg
      have HE := hid hE
      have HPL := hid h
      have ml := Mod.alloc w2 (.cells #[.int .i64 j] 3)
      have hrl : RL (w2.alloc (.cells #[.int .i64 j] 3)) (.slice (some ⟨w2.heap.size, 0, none⟩) 1 1) [(j : Int)] := ⟨_, 1, rfl, by simp, by unfold maxLen; omega, fun i hi => ⟨w2.heap.size, 0, rfl, by simp, by
        obtain rfl : i = 0 := by simpa using hi
        rw [cell_of_row _ w2.heap.size 0 _ _ _ (heap_alloc_new w2 _)]; rfl⟩⟩
      have HRL := hid hrl
      clear hfg hE h hin hd hrl
      go_wp2_with fail
      refine (l3Needs_any _ _ ns hi j _ (HPL.out.mod ml (.inr (Nat.zero_le _))) HRL.out HE.out hl10 hj).mono ?_
      rintro e w3 ⟨vo, rfl, hvo, hb3⟩
      rw [HFG.out, numL_app] at hvo
      obtain ⟨g, c', rfl, hg, -, hc1, hc2⟩ := hvo.at (i := 0) (by simp [numL])
      unfold maxLen at hc2
      have hll : (numL (needsN ns j) ++ numL [j]).length = (needsN ns j).length + 1 := by simp [numL]
      rw [hll] at hvo hc1 ⊢
      have hT := hvo.take (k := (needsN ns j).length) (by omega)
      have e2 : (numL (needsN ns j) ++ numL [j]).take (needsN ns j).length = numL (needsN ns j) := by
        rw [List.take_append_of_le_length (by rw [numL_length]; omega), List.take_of_length_le (by rw [numL_length]; omega)]
      rw [e2] at hT
      have HT := hid hT
      clear hT hvo hll e2
      go_wp2_with fail
      go_ret
      have hs2 := hb2.size
      refine ⟨_, rfl, ?_, (ml.below0 hb2 hs2).trans (hb3.mono (by rw [World.size_alloc]; omega))⟩
      have e : xs = numL (needsN ns j) := by rw [HXS.out]; unfold needsR; rw [if_pos ⟨HP.out, by omega, by omega⟩, Int.toNat_natCast]
      rw [e]
      exact HT.out.base (by rw [World.size_alloc]; omega)
    · have hd : (decide (0 ≤ at_) && decide (at_ < (ns.length : Int))) = false := by
        rw [Bool.and_eq_false_iff, decide_eq_false_iff_not, decide_eq_false_iff_not]; omega
      rw [hd]
      have e : xs = [] := by rw [HXS.out]; unfold needsR; rw [if_neg (fun h => hin ⟨h.2.1, h.2.2⟩)]
      subst e
      clear hin hd
      go_wp2_with fail
      go_ret
      exact ⟨_, rfl, (OI.fresh0 w2 (Nat.le_refl _)).base hb2.size, (Mod.alloc w2 _).below0 hb2 hb2.size⟩
  · have hp' : planB ns = false := by simpa using hp
    rw [hp']
    have e : xs = [] := by rw [HXS.out]; unfold needsR; rw [if_neg (fun h => hp h.1)]
    subst e
    clear hp hp'
    go_wp2_with fail
    go_ret
    exact ⟨_, rfl, (OI.fresh0 w2 (Nat.le_refl _)).base hb2.size, (Mod.alloc w2 _).below0 hb2 hb2.size⟩
end Go.Proofs.Ythdhjlefkdfkkaa
