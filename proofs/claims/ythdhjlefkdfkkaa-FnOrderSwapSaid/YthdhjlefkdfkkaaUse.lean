/- Who needs a node, which nodes are ends: the contracts of the program and of the reference. No condition. -/
import Derived.Test.YthdhjlefkdfkkaaPlanValid
import Derived.Test.YthdhjlefkdfkkaaUsePure
namespace Go.Proofs.Ythdhjlefkdfkkaa
open Go.RowKit
set_option maxRecDepth 100000

set_option maxHeartbeats 1000000 in
theorem has_any (v : Value) (xs : List Int) (n : Int) (w : World) (h : RL w v xs) :
    Calls Try.prog 59 #[v, .int .i64 n] w fun e w' => e = .returned (.bool (hasB xs n)) ∧ w = w' := by
  obtain ⟨a, c, rfl, h1, h2, h3⟩ := h
  unfold maxLen at h2
  obtain ⟨b, hb⟩ : ∃ b, b = hasB xs n := ⟨_, rfl⟩
  rw [← hb]
  have HB := hid hb
  have H3 := hid h3
  clear h3 hb
  go_enter Try.func59, Try.ntmps59
  go_wp2_with fail
  go_loop [5] (fun i => ∃ k : Nat, k ≤ xs.length ∧ i = .int .i64 k ∧ ∀ j, j < k → xs.getD j 0 ≠ n) (fun i => xs.length - (intOf i).toNat)
  case atStart => exact ⟨0, Nat.zero_le _, rfl, fun j hj => by omega⟩
  case round =>
    obtain ⟨k, hk, rfl, hall⟩ := hrel
    by_cases hlt : k < xs.length
    · obtain ⟨b', o, rfl, hbs, hc⟩ := H3.out k hlt
      obtain ⟨x, hx⟩ : ∃ x, x = xs.getD k 0 := ⟨_, rfl⟩
      rw [← hx] at hc
      have HX := hid hx
      have HALL := hid hall
      clear hx hall
      by_cases hxn : x = n
      · subst hxn
        have hd : hasB xs x = true := hasB_at hlt HX.out.symm
        have HD := hid hd
        clear hd
        go_wp2_with fail
        go_ret
        exact ⟨by rw [HB.out, HD.out]; rfl, rfl⟩
      · have hne : (x == n) = false := by simpa using hxn
        have HXN := hid hxn
        clear hxn
        go_wp2_with fail
        go_round
        case rel =>
          refine ⟨k + 1, by omega, by go_num, fun j hj => ?_⟩
          by_cases e : j = k
          · subst e; rw [← HX.out]; exact HXN.out
          · exact HALL.out j (by omega)
        case measure => simp [intOf]; omega
    · obtain rfl : k = xs.length := by omega
      have hd := hasB_not hall
      have HD := hid hd
      clear hd hall
      go_wp2_with fail
      go_ret
      exact ⟨by rw [HB.out, HD.out]; rfl, rfl⟩
set_option maxHeartbeats 1000000 in
theorem hasInt_any (v : Value) (xs : List Int) (n : Int) (w : World) (h : RL w v xs) :
    Calls Try.prog 19 #[v, .int .i64 n] w fun e w' => e = .returned (.bool (hasB xs n)) ∧ w = w' := by
  obtain ⟨a, c, rfl, h1, h2, h3⟩ := h
  unfold maxLen at h2
  obtain ⟨b, hb⟩ : ∃ b, b = hasB xs n := ⟨_, rfl⟩
  rw [← hb]
  have HB := hid hb
  have H3 := hid h3
  clear h3 hb
  go_enter Try.func19, Try.ntmps19
  go_wp2_with fail
  go_loop [5] (fun i => ∃ k : Nat, k ≤ xs.length ∧ i = .int .i64 k ∧ ∀ j, j < k → xs.getD j 0 ≠ n) (fun i => xs.length - (intOf i).toNat)
  case atStart => exact ⟨0, Nat.zero_le _, rfl, fun j hj => by omega⟩
  case round =>
    obtain ⟨k, hk, rfl, hall⟩ := hrel
    by_cases hlt : k < xs.length
    · obtain ⟨b', o, rfl, hbs, hc⟩ := H3.out k hlt
      obtain ⟨x, hx⟩ : ∃ x, x = xs.getD k 0 := ⟨_, rfl⟩
      rw [← hx] at hc
      have HX := hid hx
      have HALL := hid hall
      clear hx hall
      by_cases hxn : x = n
      · subst hxn
        have hd : hasB xs x = true := hasB_at hlt HX.out.symm
        have HD := hid hd
        clear hd
        go_wp2_with fail
        go_ret
        exact ⟨by rw [HB.out, HD.out]; rfl, rfl⟩
      · have hne : (x == n) = false := by simpa using hxn
        have HXN := hid hxn
        clear hxn
        go_wp2_with fail
        go_round
        case rel =>
          refine ⟨k + 1, by omega, by go_num, fun j hj => ?_⟩
          by_cases e : j = k
          · subst e; rw [← HX.out]; exact HXN.out
          · exact HALL.out j (by omega)
        case measure => simp [intOf]; omega
    · obtain rfl : k = xs.length := by omega
      have hd := hasB_not hall
      have HD := hid hd
      clear hd hall
      go_wp2_with fail
      go_ret
      exact ⟨by rw [HB.out, HD.out]; rfl, rfl⟩

theorem isNode_any (a : Option Addr) (n c : Nat) (at_ : Int) (w : World) :
    Calls Try.prog 45 #[.slice a n c, .int .i64 at_] w fun e w' => e = .returned (.bool (decide (0 ≤ at_ ∧ at_ < (n : Int)))) ∧ w = w' := by
  by_cases h0 : 0 ≤ at_
  · by_cases h1 : at_ < (n : Int)
    · have hd : decide (0 ≤ at_ ∧ at_ < (n : Int)) = true := decide_eq_true ⟨h0, h1⟩
      rw [hd]
      clear hd
      go_enter Try.func45, Try.ntmps45
      go_wp2_with fail
      go_ret
      exact ⟨rfl, rfl⟩
    · have hd : decide (0 ≤ at_ ∧ at_ < (n : Int)) = false := decide_eq_false (fun h => h1 h.2)
      rw [hd]
      clear hd
      go_enter Try.func45, Try.ntmps45
      go_wp2_with fail
      go_ret
      exact ⟨rfl, rfl⟩
  · have hd : decide (0 ≤ at_ ∧ at_ < (n : Int)) = false := decide_eq_false (fun h => h0 h.1)
    rw [hd]
    clear hd
    go_enter Try.func45, Try.ntmps45
    go_wp2_with fail
    go_ret
    exact ⟨rfl, rfl⟩

/-- A slice of pointers of the graph: its cells, and the nodes that they lead to. -/
theorem St.row {w : World} {B k m : Nat} {vg : Value} {P : Nat → Nat} {L : Nat → Nat → List Nat} (h : St w B k m vg P L) {s j : Nat} (hs : s = 1 ∨ s = 2) (hj : j < k) (hL : ∀ x ∈ L s j, x < k) :
    ∃ a c, w.cell? ⟨P j, s, none⟩ = some (.slice a (L s j).length c) ∧ (L s j).length ≤ c ∧ c ≤ maxLen ∧ P j < w.heap.size ∧
      ∀ q, q < (L s j).length → ∃ g, a = some ⟨g, 0, none⟩ ∧ g < w.heap.size ∧ w.cell? ⟨g, q, none⟩ = some (.pointer (some ⟨P ((L s j).getD q 0), 0, none⟩)) ∧
        w.cell? ⟨P ((L s j).getD q 0), 0, none⟩ = some (.int .i64 ((L s j).getD q 0 : Nat)) ∧ P ((L s j).getD q 0) < w.heap.size ∧ (L s j).getD q 0 < k := by
  obtain ⟨own, V, h⟩ := h
  obtain ⟨c1, c2, -, -, -, hP, -⟩ := h.at hj
  obtain ⟨hv, -⟩ := h.2.1 j s hj hs
  obtain ⟨a, c, e, h1, h2⟩ := hv.shape
  rw [List.length_map] at e h1
  refine ⟨a, c, ?_, h1, h2, hP, fun q hq => ?_⟩
  · rcases hs with rfl | rfl
    · rw [c1, e]
    · rw [c2, e]
  · obtain ⟨g, c', e', hg, hc⟩ := hv.cell (i := q) (by rw [List.length_map]; exact hq)
    rw [e] at e'
    simp only [Value.slice.injEq] at e'
    have hx : (L s j).getD q 0 < k := hL _ (getD_mem hq)
    obtain ⟨-, -, c3, -, -, hPx, -⟩ := h.at hx
    refine ⟨g, e'.1, hg, ?_, c3, hPx, hx⟩
    rw [hc]
    have hmg : ((L s j).map P).getD q 0 = P ((L s j).getD q 0) := by simp [hq]
    rw [hmg]; rfl
theorem numL_take {l : List Nat} {k : Nat} (h : k < l.length) : numL (l.take (k + 1)) = numL (l.take k) ++ [((l.getD k 0 : Nat) : Int)] := by
  rw [List.take_add_one, numL_app]; simp [numL, h]
theorem St.head {w : World} {B k m : Nat} {vg : Value} {P : Nat → Nat} {L : Nat → Nat → List Nat} (h : St w B k m vg P L) (hm : m ≤ k) :
    ∃ a c, vg = .slice a m c ∧ m ≤ c ∧ c ≤ maxLen ∧ ∀ x, x < m → ∃ g, a = some ⟨g, 0, none⟩ ∧ g < w.heap.size ∧ w.cell? ⟨g, x, none⟩ = some (.pointer (some ⟨P x, 0, none⟩)) ∧ w.cell? ⟨P x, 0, none⟩ = some (.int .i64 x) ∧ P x < w.heap.size := by
  obtain ⟨own, V, h⟩ := h
  obtain ⟨a, c, rfl, h1, h2⟩ := h.2.2.1.shape
  rw [List.length_map, List.length_range] at h1
  refine ⟨a, c, by rw [List.length_map, List.length_range], h1, h2, fun x hx => ?_⟩
  obtain ⟨g, c', e', hg, hc⟩ := h.2.2.1.cell (i := x) (by simpa using hx)
  simp only [Value.slice.injEq] at e'
  obtain ⟨-, -, c3, -, -, hPx, -⟩ := h.at (show x < k by omega)
  refine ⟨g, e'.1, hg, ?_, c3, hPx⟩
  rw [hc]
  simp [hx, ptr]

set_option maxHeartbeats 2000000 in
theorem iuses_any (v : Value) (ns : List Nd) (hi : Nat) (at_ : Int) (w : World) (h : PL w hi v ns) :
    Calls Try.prog 20 #[v, .int .i64 at_] w (PostI w (usesR ns at_)) := by
  obtain ⟨xs, hxs⟩ : ∃ xs, xs = usesR ns at_ := ⟨_, rfl⟩
  rw [← hxs]
  have HXS := hid hxs
  obtain ⟨a, c, rfl, h1, h2, hs, -⟩ := id h
  unfold maxLen at h2
  clear hxs
  go_enter Try.func20, Try.ntmps20
  go_wp2_with fail
  refine (graph_any _ ns hi w h).mono ?_
  rintro e w1 ⟨hb, ⟨hp, vg, P, rfl, hst⟩ | ⟨hp, rfl⟩⟩
  · have HP := hid hp
    clear hp
    go_wp2_with fail
    refine (isNode_any _ _ _ at_ w1).mono ?_
    rintro e _ ⟨rfl, rfl⟩
    by_cases hin : 0 ≤ at_ ∧ at_ < (ns.length : Int)
    · rw [decide_eq_true hin]
      obtain ⟨j, rfl⟩ := Int.eq_ofNat_of_zero_le hin.1
      have hj : j < ns.length := by omega
      obtain ⟨ag, cg, rfl, hg1, hg2, hgc⟩ := hst.head (Nat.le_refl _)
      obtain ⟨g, rfl, hgs, gc, -, -⟩ := hgc j hj
      have hbnd := lk_bnd ns.length (fits_plan HP.out)
      have hsp : lk ns ns.length 2 j = usesN ns j ns.length := (lk_spec ns.length (Early.plan HP.out)).2.2 j
      have hul := usesN_length ns j ns.length
      have hlen := planB_len HP.out
      obtain ⟨ar, cr, rc, hr1, hr2, hPj, hrow⟩ := hst.row (s := 2) (.inr rfl) hj (hbnd.1 2 j)
      rw [hsp] at rc hr1 hrow
      obtain ⟨us, hus⟩ : ∃ us, us = usesN ns j ns.length := ⟨_, rfl⟩
      rw [← hus] at rc hr1 hrow hul
      have HUS := hid hus
      have HROW := hid hrow
      unfold maxLen at hg2 hr2
      clear hus hrow hsp hbnd hgc hst hin
      go_wp2_with fail
      go_loopw [7, 31] (fun o i wr => ∃ k : Nat, k ≤ us.length ∧ i = .int .i64 k ∧ OI wr w1.heap.size o (numL (us.take k)) ∧ Below w1.heap.size w1 wr) (fun _ i _ => us.length - (intOf i).toNat)
      case atStart => exact ⟨0, Nat.zero_le _, rfl, OI.nil _ _, Below.refl _ _⟩
      case round =>
        obtain ⟨k, hk, rfl, ho, hbel⟩ := hrel
        by_cases hlt : k < us.length
        · obtain ⟨g2, rfl, hg3, d1, d2, hPx, hxk⟩ := HROW.out k hlt
          rw [← hbel.cell (p := ⟨g2, k, none⟩) hg3] at d1
          rw [← hbel.cell (p := ⟨P (us.getD k 0), 0, none⟩) hPx] at d2
          have HT := hid (numL_take hlt)
          obtain ⟨x, hx⟩ : ∃ x, x = us.getD k 0 := ⟨_, rfl⟩
          rw [← hx] at d1 d2 HT
          clear hx hPx
          go_wp2_with (at_builtin; refine app1 rfl _ _ 26 rfl Try.underlying26 w1.heap.size _ _ _ ho rfl rfl (by rw [numL_length, List.length_take]; omega) hbel hbel.size ?_; intro v' w' ho' hbel' _)
          go_roundw
          case rel => exact ⟨k + 1, by omega, by go_num, by rw [HT.out]; exact ho', hbel'⟩
          case measure => simp [intOf]; omega
        · obtain rfl : k = us.length := by omega
          go_wp2_with fail
          go_ret
          refine ⟨_, rfl, ?_, hb.trans (hbel.mono hb.size)⟩
          rw [List.take_length, HUS.out] at ho
          have e : xs = numL (usesN ns j ns.length) := by rw [HXS.out]; unfold usesR; rw [if_pos HP.out]
          rw [e]
          exact ho.base hb.size
    · rw [decide_eq_false hin]
      have e : xs = [] := by rw [HXS.out]; exact usesR_out (by omega)
      subst e
      clear hin
      go_wp2_with fail
      go_ret
      exact ⟨_, rfl, OI.nil _ _, hb⟩
  · have e : xs = [] := by rw [HXS.out]; unfold usesR; rw [if_neg (by rw [hp]; simp)]
    subst e
    clear hp
    go_wp2_with fail
    go_ret
    exact ⟨_, rfl, OI.nil _ _, hb⟩

set_option maxHeartbeats 2000000 in
theorem suses_any (v : Value) (ns : List Nd) (hi : Nat) (at_ : Int) (w : World) (h : PL w hi v ns) (hlen : ns.length ≤ 1099511627776) :
    Calls Try.prog 56 #[v, .int .i64 at_] w (PostI w (usesR ns at_)) := by
  obtain ⟨xs, hxs⟩ : ∃ xs, xs = usesR ns at_ := ⟨_, rfl⟩
  rw [← hxs]
  have HXS := hid hxs
  have HP := h
  obtain ⟨a, c, rfl, h1, h2, hs, h3⟩ := h
  unfold maxLen at h2
  have H3 := hid h3
  clear h3 hxs
  go_enter Try.func56, Try.ntmps56
  go_wp2_with fail
  go_loopw [5, 6] (fun o i wr => ∃ k : Nat, k ≤ ns.length ∧ i = .int .i64 k ∧ OI wr w.heap.size o (numL (usesN ns at_ k)) ∧ Below w.heap.size w wr ∧ (0 < k → planB ns = true)) (fun _ i _ => ns.length - (intOf i).toNat)
  case atStart => exact ⟨0, Nat.zero_le _, rfl, OI.fresh0 w (Nat.le_refl _), (Below.refl _ _).alloc (Nat.le_refl _) _, fun h => by omega⟩
  case round =>
    obtain ⟨k, hk, rfl, ho, hbel, hpk⟩ := hrel
    by_cases hlt : k < ns.length
    · have HPK := hid hpk
      have hpl := HP.mod (Mod.of_below hbel) (.inr (Nat.zero_le _))
      clear hpk
      go_wp2_with fail
      refine (splan_any _ ns hi wr hpl hlen).mono ?_
      rintro e w2 ⟨rfl, hm2⟩
      have hb2 := hm2.below0 hbel hbel.size
      replace ho := ho.mod hm2 (Nat.zero_le _)
      obtain ⟨b, o, f, r, rfl, hb, c0, c1, c2, hf, hr⟩ := H3.out k hlt
      have hk0 := hb2.block b (Nat.lt_of_lt_of_le hb hs)
      replace c1 := (World.cell?_of_block (a := ⟨b, o + k * 3 + 1, none⟩) hk0).trans c1
      replace hf := hf.mod (Mod.of_below hb2) (.inr (Nat.zero_le _))
      clear c0 c2 hr hk0
      by_cases hp : planB ns = true
      · rw [hp]
        have HPB := hid hp
        have hus := usesN_succ ns at_ k
        have hul := usesN_length ns at_ k
        obtain ⟨fs, hfs⟩ : ∃ fs, fs = fsN ns k := ⟨_, rfl⟩
        rw [← hfs] at hus
        have hfs' : fs = (ns.getD k nd0).fs := hfs
        rw [← hfs'] at hf
        obtain ⟨af, cf, rfl, -⟩ := id hf
        clear hfs hfs' hp
        cases hh : hasB fs at_
        · rw [hh, if_neg (by simp), List.append_nil] at hus
          have HUS := hid hus
          have HH := hid hh
          clear hus hh
          go_wp2_with fail
          refine (has_any _ fs at_ w2 hf.rl).mono ?_
          rintro e _ ⟨rfl, rfl⟩
          rw [HH.out]
          go_wp2_with fail
          go_roundw
          case rel => exact ⟨k + 1, by omega, by go_num, by rw [HUS.out]; exact ho, hb2, fun _ => HPB.out⟩
          case measure => simp [intOf]; omega
        · rw [hh, if_pos rfl] at hus
          have HUS := hid hus
          have HH := hid hh
          clear hus hh
          go_wp2_with fail
          refine (has_any _ fs at_ w2 hf.rl).mono ?_
          rintro e _ ⟨rfl, rfl⟩
          rw [HH.out]
          go_wp2_with (at_builtin; refine app1 rfl _ _ 26 rfl Try.underlying26 w.heap.size _ _ _ ho rfl rfl (by rw [numL_length]; omega) hb2 hb2.size ?_; intro v' w' ho' hbel' _)
          go_roundw
          case rel => exact ⟨k + 1, by omega, by go_num, by rw [HUS.out, numL_app]; exact ho', hbel', fun _ => HPB.out⟩
          case measure => simp [intOf]; omega
      · have hp' : planB ns = false := by simpa using hp
        have hk0 : k = 0 := by
          rcases Nat.eq_zero_or_pos k with h | h
          · exact h
          · exact absurd (HPK.out h) hp
        subst hk0
        have e : xs = [] := by rw [HXS.out]; unfold usesR; rw [if_neg hp]
        subst e
        rw [hp']
        clear hp hp'
        go_wp2_with fail
        go_ret
        exact ⟨_, rfl, ho, hb2⟩
    · obtain rfl : k = ns.length := by omega
      have HPK := hid hpk
      clear hpk
      go_wp2_with fail
      go_ret
      refine ⟨_, rfl, ?_, hbel⟩
      by_cases h0 : 0 < ns.length
      · have e : xs = numL (usesN ns at_ ns.length) := by rw [HXS.out]; unfold usesR; rw [if_pos (HPK.out h0)]
        rw [e]; exact ho
      · have e : numL (usesN ns at_ ns.length) = xs := by
          have h0' : ns.length = 0 := by omega
          rw [HXS.out]; unfold usesR; rw [h0']; split <;> rfl
        rw [← e]; exact ho

set_option maxHeartbeats 2000000 in
theorem iends_any (v : Value) (ns : List Nd) (hi : Nat) (w : World) (h : PL w hi v ns) :
    Calls Try.prog 28 #[v] w (PostI w (endsR ns)) := by
  obtain ⟨xs, hxs⟩ : ∃ xs, xs = endsR ns := ⟨_, rfl⟩
  rw [← hxs]
  have HXS := hid hxs
  obtain ⟨a, c, rfl, h1, h2, hs, -⟩ := id h
  unfold maxLen at h2
  clear hxs
  go_enter Try.func28, Try.ntmps28
  go_wp2_with fail
  refine (graph_any _ ns hi w h).mono ?_
  rintro e w1 ⟨hb, ⟨hp, vg, P, rfl, hst⟩ | ⟨hp, rfl⟩⟩
  · have hbnd := lk_bnd ns.length (fits_plan hp)
    have hsp : ∀ j, lk ns ns.length 2 j = usesN ns j ns.length := fun j => (lk_spec ns.length (Early.plan hp)).2.2 j
    have hrow := fun j (hj : j < ns.length) => hst.row (s := 2) (.inr rfl) hj (hbnd.1 2 j)
    have hlen := planB_len hp
    obtain ⟨ag, cg, rfl, hg1, hg2, hgc⟩ := hst.head (Nat.le_refl _)
    have HP := hid hp
    have HSP := hid hsp
    have HROW := hid hrow
    have HGC := hid hgc
    unfold maxLen at hg2
    clear hp hsp hbnd hrow hgc hst
    go_wp2_with fail
    go_loopw [5, 17] (fun o i wr => ∃ k : Nat, k ≤ ns.length ∧ i = .int .i64 k ∧ OI wr w1.heap.size o (numL (endsN ns k)) ∧ Below w1.heap.size w1 wr) (fun _ i _ => ns.length - (intOf i).toNat)
    case atStart => exact ⟨0, Nat.zero_le _, rfl, OI.nil _ _, Below.refl _ _⟩
    case round =>
      obtain ⟨k, hk, rfl, ho, hbel⟩ := hrel
      by_cases hlt : k < ns.length
      · obtain ⟨g, rfl, hgs, gc, nc, hPk⟩ := HGC.out k hlt
        obtain ⟨ar, cr, rc, -, -, -, -⟩ := HROW.out k hlt
        rw [HSP.out] at rc
        rw [← hbel.cell (p := ⟨g, k, none⟩) hgs] at gc
        rw [← hbel.cell (p := ⟨P k, 0, none⟩) hPk] at nc
        rw [← hbel.cell (p := ⟨P k, 2, none⟩) hPk] at rc
        have hul := endsN_length ns k
        have hes := endsN_succ ns k
        by_cases hu : usesN ns k ns.length = []
        · rw [if_pos hu] at hes
          rw [hu, List.length_nil] at rc
          have HES := hid hes
          clear hes hu hPk
          go_wp2_with (at_builtin; refine app1 rfl _ _ 26 rfl Try.underlying26 w1.heap.size _ _ _ ho rfl rfl (by rw [numL_length]; omega) hbel hbel.size ?_; intro v' w' ho' hbel' _)
          go_roundw
          case rel => exact ⟨k + 1, by omega, by go_num, by rw [HES.out, numL_app]; exact ho', hbel'⟩
          case measure => simp [intOf]; omega
        · rw [if_neg hu, List.append_nil] at hes
          have HES := hid hes
          have hpos : 0 < (usesN ns k ns.length).length := List.length_pos_iff.2 hu
          have hz : (((usesN ns k ns.length).length : Int) == 0) = false := by simpa using hu
          clear hes hu hPk
          go_wp2_with fail
          go_roundw
          case rel => exact ⟨k + 1, by omega, by go_num, by rw [HES.out]; exact ho, hbel⟩
          case measure => simp [intOf]; omega
      · obtain rfl : k = ns.length := by omega
        go_wp2_with fail
        go_ret
        refine ⟨_, rfl, ?_, hb.trans (hbel.mono hb.size)⟩
        have e : xs = numL (endsN ns ns.length) := by rw [HXS.out]; unfold endsR; rw [if_pos HP.out]
        rw [e]
        exact ho.base hb.size
  · have e : xs = [] := by rw [HXS.out]; unfold endsR; rw [if_neg (by rw [hp]; simp)]
    subst e
    clear hp
    go_wp2_with fail
    go_ret
    exact ⟨_, rfl, OI.nil _ _, hb⟩

set_option maxHeartbeats 2000000 in
theorem sends_any (v : Value) (ns : List Nd) (hi : Nat) (w : World) (h : PL w hi v ns) (hlen : ns.length ≤ 1099511627776) :
    Calls Try.prog 29 #[v] w (PostI w (endsR ns)) := by
  obtain ⟨xs, hxs⟩ : ∃ xs, xs = endsR ns := ⟨_, rfl⟩
  rw [← hxs]
  have HXS := hid hxs
  have HP := h
  obtain ⟨a, c, rfl, h1, h2, hs, -⟩ := h
  unfold maxLen at h2
  clear hxs
  go_enter Try.func29, Try.ntmps29
  go_wp2_with fail
  go_loopw [3, 4] (fun o i wr => ∃ k : Nat, k ≤ ns.length ∧ i = .int .i64 k ∧ OI wr w.heap.size o (numL (endsN ns k)) ∧ Below w.heap.size w wr ∧ (0 < k → planB ns = true)) (fun _ i _ => ns.length - (intOf i).toNat)
  case atStart => exact ⟨0, Nat.zero_le _, rfl, OI.fresh0 w (Nat.le_refl _), (Below.refl _ _).alloc (Nat.le_refl _) _, fun h => by omega⟩
  case round =>
    obtain ⟨k, hk, rfl, ho, hbel, hpk⟩ := hrel
    by_cases hlt : k < ns.length
    · have HPK := hid hpk
      have hpl := HP.mod (Mod.of_below hbel) (.inr (Nat.zero_le _))
      clear hpk
      go_wp2_with fail
      refine (splan_any _ ns hi wr hpl hlen).mono ?_
      rintro e w2 ⟨rfl, hm2⟩
      have hb2 := hm2.below0 hbel hbel.size
      replace ho := ho.mod hm2 (Nat.zero_le _)
      replace hpl := hpl.mod hm2 (.inr (Nat.zero_le _))
      by_cases hp : planB ns = true
      · rw [hp]
        have HPB := hid hp
        have hes := endsN_succ ns k
        have hul := endsN_length ns k
        have hur : usesR ns k = numL (usesN ns k ns.length) := by unfold usesR; rw [if_pos hp]
        have HUR := hid hur
        clear hp hur
        go_wp2_with fail
        refine (suses_any _ ns hi k w2 hpl hlen).mono ?_
        rintro e w3 ⟨vo, rfl, hvo, hb3⟩
        rw [HUR.out] at hvo
        obtain ⟨ao, co, rfl, -⟩ := hvo.rl
        rw [numL_length]
        replace ho := ho.mod (Mod.of_below hb3) (Nat.zero_le _)
        have hb4 := (Mod.of_below hb3).below0 hb2 hb2.size
        by_cases hu : usesN ns k ns.length = []
        · rw [if_pos hu] at hes
          rw [hu, List.length_nil]
          have HES := hid hes
          clear hes hu hvo
          go_wp2_with (at_builtin; refine app1 rfl _ _ 26 rfl Try.underlying26 w.heap.size _ _ _ ho rfl rfl (by rw [numL_length]; omega) hb4 hb4.size ?_; intro v' w' ho' hbel' _)
          go_roundw
          case rel => exact ⟨k + 1, by omega, by go_num, by rw [HES.out, numL_app]; exact ho', hbel', fun _ => HPB.out⟩
          case measure => simp [intOf]; omega
        · rw [if_neg hu, List.append_nil] at hes
          have HES := hid hes
          have hpos : 0 < (usesN ns k ns.length).length := List.length_pos_iff.2 hu
          have hz : (((usesN ns k ns.length).length : Int) == 0) = false := by simpa using hu
          clear hes hu hvo
          go_wp2_with fail
          go_roundw
          case rel => exact ⟨k + 1, by omega, by go_num, by rw [HES.out]; exact ho, hb4, fun _ => HPB.out⟩
          case measure => simp [intOf]; omega
      · have hp' : planB ns = false := by simpa using hp
        have hk0 : k = 0 := by
          rcases Nat.eq_zero_or_pos k with h | h
          · exact h
          · exact absurd (HPK.out h) hp
        subst hk0
        have e : xs = [] := by rw [HXS.out]; unfold endsR; rw [if_neg hp]
        subst e
        rw [hp']
        clear hp hp'
        go_wp2_with fail
        go_ret
        exact ⟨_, rfl, ho, hb2⟩
    · obtain rfl : k = ns.length := by omega
      have HPK := hid hpk
      clear hpk
      go_wp2_with fail
      go_ret
      refine ⟨_, rfl, ?_, hbel⟩
      by_cases h0 : 0 < ns.length
      · have e : xs = numL (endsN ns ns.length) := by rw [HXS.out]; unfold endsR; rw [if_pos (HPK.out h0)]
        rw [e]; exact ho
      · have e : numL (endsN ns ns.length) = xs := by
          have h0' : ns.length = 0 := by omega
          rw [HXS.out]; unfold endsR; rw [h0']; split <;> rfl
        rw [← e]; exact ho
end Go.Proofs.Ythdhjlefkdfkkaa
