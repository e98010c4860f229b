/- Who needs a node, which nodes are ends: the contracts of the program and of the reference. No condition. -/
import Derived.Test.YteelobokjidphaaGraphOf
import Derived.Test.YteelobokjidphaaUsePure
namespace Go.Proofs.Yteelobokjidphaa
open Go.RowKit
set_option maxRecDepth 100000

set_option maxHeartbeats 1000000 in
theorem has_any (v : Value) (xs : List Int) (n : Int) (w : World) (h : RL w v xs) :
    Calls Try.prog 86 #[v, .int .i64 n] w fun e w' => e = .returned (.bool (hasB xs n)) ∧ w = w' := by
  obtain ⟨a, c, rfl, h1, h2, h3⟩ := h
  unfold maxLen at h2
  obtain ⟨b, hb⟩ : ∃ b, b = hasB xs n := ⟨_, rfl⟩
  rw [← hb]
  have HB := hid hb
  have H3 := hid h3
  clear h3 hb
  go_enter Try.func86, Try.ntmps86
  go_wp2_with fail
  go_loop [5] (fun i => ∃ k : Nat, k ≤ xs.length ∧ i = .int .i64 k ∧ ∀ j, j < k → xs.getD j 0 ≠ n) (fun i => xs.length - (intOf i).toNat)
  case atStart => exact ⟨0, Nat.zero_le _, rfl, fun j hj => by omega⟩
  case round =>
    obtain ⟨k, hk, rfl, hall⟩ := hrel
    by_cases hlt : k < xs.length
    · obtain ⟨b', o, rfl, hbs, hc⟩ := H3.out k hlt
      obtain ⟨x, hx⟩ : ∃ x, x = xs.getD k 0 := ⟨_, rfl⟩
      rw [← hx] at hc
      have HX := hid hx
      have HALL := hid hall
      clear hx hall
      by_cases hxn : x = n
      · subst hxn
        have hd : hasB xs x = true := hasB_at hlt HX.out.symm
        have HD := hid hd
        clear hd
        go_wp2_with fail
        go_ret
        exact ⟨by rw [HB.out, HD.out]; rfl, rfl⟩
      · have hne : (x == n) = false := by simpa using hxn
        have HXN := hid hxn
        clear hxn
        go_wp2_with fail
        go_round
        case rel =>
          refine ⟨k + 1, by omega, by go_num, fun j hj => ?_⟩
          by_cases e : j = k
          · subst e; rw [← HX.out]; exact HXN.out
          · exact HALL.out j (by omega)
        case measure => simp [intOf]; omega
    · obtain rfl : k = xs.length := by omega
      have hd := hasB_not hall
      have HD := hid hd
      clear hd hall
      go_wp2_with fail
      go_ret
      exact ⟨by rw [HB.out, HD.out]; rfl, rfl⟩
set_option maxHeartbeats 1000000 in
theorem hasInt_any (v : Value) (xs : List Int) (n : Int) (w : World) (h : RL w v xs) :
    Calls Try.prog 57 #[v, .int .i64 n] w fun e w' => e = .returned (.bool (hasB xs n)) ∧ w = w' := by
  obtain ⟨a, c, rfl, h1, h2, h3⟩ := h
  unfold maxLen at h2
  obtain ⟨b, hb⟩ : ∃ b, b = hasB xs n := ⟨_, rfl⟩
  rw [← hb]
  have HB := hid hb
  have H3 := hid h3
  clear h3 hb
  go_enter Try.func57, Try.ntmps57
  go_wp2_with fail
  go_loop [5] (fun i => ∃ k : Nat, k ≤ xs.length ∧ i = .int .i64 k ∧ ∀ j, j < k → xs.getD j 0 ≠ n) (fun i => xs.length - (intOf i).toNat)
  case atStart => exact ⟨0, Nat.zero_le _, rfl, fun j hj => by omega⟩
  case round =>
    obtain ⟨k, hk, rfl, hall⟩ := hrel
    by_cases hlt : k < xs.length
    · obtain ⟨b', o, rfl, hbs, hc⟩ := H3.out k hlt
      obtain ⟨x, hx⟩ : ∃ x, x = xs.getD k 0 := ⟨_, rfl⟩
      rw [← hx] at hc
      have HX := hid hx
      have HALL := hid hall
      clear hx hall
      by_cases hxn : x = n
      · subst hxn
        have hd : hasB xs x = true := hasB_at hlt HX.out.symm
        have HD := hid hd
        clear hd
        go_wp2_with fail
        go_ret
        exact ⟨by rw [HB.out, HD.out]; rfl, rfl⟩
      · have hne : (x == n) = false := by simpa using hxn
        have HXN := hid hxn
        clear hxn
        go_wp2_with fail
        go_round
        case rel =>
          refine ⟨k + 1, by omega, by go_num, fun j hj => ?_⟩
          by_cases e : j = k
          · subst e; rw [← HX.out]; exact HXN.out
          · exact HALL.out j (by omega)
        case measure => simp [intOf]; omega
    · obtain rfl : k = xs.length := by omega
      have hd := hasB_not hall
      have HD := hid hd
      clear hd hall
      go_wp2_with fail
      go_ret
      exact ⟨by rw [HB.out, HD.out]; rfl, rfl⟩

theorem isNode_any (a : Option Addr) (n c : Nat) (at_ : Int) (w : World) :
    Calls Try.prog 61 #[.slice a n c, .int .i64 at_] w fun e w' => e = .returned (.bool (decide (0 ≤ at_ ∧ at_ < (n : Int)))) ∧ w = w' := by
  by_cases h0 : 0 ≤ at_
  · by_cases h1 : at_ < (n : Int)
    · have hd : decide (0 ≤ at_ ∧ at_ < (n : Int)) = true := decide_eq_true ⟨h0, h1⟩
      rw [hd]
      clear hd
      go_enter Try.func61, Try.ntmps61
      go_wp2_with fail
      go_ret
      exact ⟨rfl, rfl⟩
    · have hd : decide (0 ≤ at_ ∧ at_ < (n : Int)) = false := decide_eq_false (fun h => h1 h.2)
      rw [hd]
      clear hd
      go_enter Try.func61, Try.ntmps61
      go_wp2_with fail
      go_ret
      exact ⟨rfl, rfl⟩
  · have hd : decide (0 ≤ at_ ∧ at_ < (n : Int)) = false := decide_eq_false (fun h => h0 h.1)
    rw [hd]
    clear hd
    go_enter Try.func61, Try.ntmps61
    go_wp2_with fail
    go_ret
    exact ⟨rfl, rfl⟩

/-- A slice of pointers of the graph: its cells, and the nodes that they lead to. -/
theorem St.row {w : World} {B k m : Nat} {vg : Value} {P : Nat → Nat} {L : Nat → Nat → List Nat} (h : St w B k m vg P L) {s j : Nat} (hs : s = 1 ∨ s = 2) (hj : j < k) (hL : ∀ x ∈ L s j, x < k) :
    ∃ a c, w.cell? ⟨P j, s, none⟩ = some (.slice a (L s j).length c) ∧ (L s j).length ≤ c ∧ c ≤ maxLen ∧ P j < w.heap.size ∧
      ∀ q, q < (L s j).length → ∃ g, a = some ⟨g, 0, none⟩ ∧ g < w.heap.size ∧ w.cell? ⟨g, q, none⟩ = some (.pointer (some ⟨P ((L s j).getD q 0), 0, none⟩)) ∧
        w.cell? ⟨P ((L s j).getD q 0), 0, none⟩ = some (.int .i64 ((L s j).getD q 0 : Nat)) ∧ P ((L s j).getD q 0) < w.heap.size ∧ (L s j).getD q 0 < k := by
  obtain ⟨own, V, h⟩ := h
  obtain ⟨c1, c2, -, -, -, hP, -⟩ := h.at hj
  obtain ⟨hv, -⟩ := h.2.1 j s hj hs
  obtain ⟨a, c, e, h1, h2⟩ := hv.shape
  rw [List.length_map] at e h1
  refine ⟨a, c, ?_, h1, h2, hP, fun q hq => ?_⟩
  · rcases hs with rfl | rfl
    · rw [c1, e]
    · rw [c2, e]
  · obtain ⟨g, c', e', hg, hc⟩ := hv.cell (i := q) (by rw [List.length_map]; exact hq)
    rw [e] at e'
    simp only [Value.slice.injEq] at e'
    have hx : (L s j).getD q 0 < k := hL _ (getD_mem hq)
    obtain ⟨-, -, c3, -, -, hPx, -⟩ := h.at hx
    refine ⟨g, e'.1, hg, ?_, c3, hPx, hx⟩
    rw [hc]
    have hmg : ((L s j).map P).getD q 0 = P ((L s j).getD q 0) := by simp [hq]
    rw [hmg]; rfl
theorem numL_take {l : List Nat} {k : Nat} (h : k < l.length) : numL (l.take (k + 1)) = numL (l.take k) ++ [((l.getD k 0 : Nat) : Int)] := by
  rw [List.take_add_one, numL_app]; simp [numL, h]
theorem St.head {w : World} {B k m : Nat} {vg : Value} {P : Nat → Nat} {L : Nat → Nat → List Nat} (h : St w B k m vg P L) (hm : m ≤ k) :
    ∃ a c, vg = .slice a m c ∧ m ≤ c ∧ c ≤ maxLen ∧ ∀ x, x < m → ∃ g, a = some ⟨g, 0, none⟩ ∧ g < w.heap.size ∧ w.cell? ⟨g, x, none⟩ = some (.pointer (some ⟨P x, 0, none⟩)) ∧ w.cell? ⟨P x, 0, none⟩ = some (.int .i64 x) ∧ P x < w.heap.size := by
  obtain ⟨own, V, h⟩ := h
  obtain ⟨a, c, rfl, h1, h2⟩ := h.2.2.1.shape
  rw [List.length_map, List.length_range] at h1
  refine ⟨a, c, by rw [List.length_map, List.length_range], h1, h2, fun x hx => ?_⟩
  obtain ⟨g, c', e', hg, hc⟩ := h.2.2.1.cell (i := x) (by simpa using hx)
  simp only [Value.slice.injEq] at e'
  obtain ⟨-, -, c3, -, -, hPx, -⟩ := h.at (show x < k by omega)
  refine ⟨g, e'.1, hg, ?_, c3, hPx⟩
  rw [hc]
  simp [hx, ptr]

set_option maxHeartbeats 2000000 in
theorem iuses_any (v : Value) (ns : List Nd) (hi : Nat) (at_ : Int) (w : World) (h : PL w hi v ns) :
    Calls Try.prog 53 #[v, .int .i64 at_] w (PostI w (usesR ns at_)) := by
  obtain ⟨xs, hxs⟩ : ∃ xs, xs = usesR ns at_ := ⟨_, rfl⟩
  rw [← hxs]
  have HXS := hid hxs
  obtain ⟨a, c, rfl, h1, h2, hs, -⟩ := id h
  unfold maxLen at h2
  clear hxs
  go_enter Try.func53, Try.ntmps53
  go_wp2_with fail
  refine (graph_any _ ns hi w h).mono ?_
  rintro e w1 ⟨hb, ⟨hp, vg, P, rfl, hst⟩ | ⟨hp, rfl⟩⟩
  · have HP := hid hp
    clear hp
    go_wp2_with fail
    refine (isNode_any _ _ _ at_ w1).mono ?_
    rintro e _ ⟨rfl, rfl⟩
    by_cases hin : 0 ≤ at_ ∧ at_ < (ns.length : Int)
    · rw [decide_eq_true hin]
      obtain ⟨j, rfl⟩ := Int.eq_ofNat_of_zero_le hin.1
      have hj : j < ns.length := by omega
      obtain ⟨ag, cg, rfl, hg1, hg2, hgc⟩ := hst.head (Nat.le_refl _)
      obtain ⟨g, rfl, hgs, gc, -, -⟩ := hgc j hj
      have hbnd := lk_bnd ns.length (fits_plan HP.out)
      have hsp : lk ns ns.length 2 j = usesN ns j ns.length := (lk_spec ns.length (Early.plan HP.out)).2.2 j
      have hul := usesN_length ns j ns.length
      have hlen := planB_len HP.out
      obtain ⟨ar, cr, rc, hr1, hr2, hPj, hrow⟩ := hst.row (s := 2) (.inr rfl) hj (hbnd.1 2 j)
      rw [hsp] at rc hr1 hrow
      obtain ⟨us, hus⟩ : ∃ us, us = usesN ns j ns.length := ⟨_, rfl⟩
      rw [← hus] at rc hr1 hrow hul
      have HUS := hid hus
      have HROW := hid hrow
      unfold maxLen at hg2 hr2
      clear hus hrow hsp hbnd hgc hst hin
      go_wp2_with fail
      go_loopw [7, 31] (fun o i wr => ∃ k : Nat, k ≤ us.length ∧ i = .int .i64 k ∧ OI wr w1.heap.size o (numL (us.take k)) ∧ Below w1.heap.size w1 wr) (fun _ i _ => us.length - (intOf i).toNat)
      case atStart => exact ⟨0, Nat.zero_le _, rfl, OI.nil _ _, Below.refl _ _⟩
      case round =>
        obtain ⟨k, hk, rfl, ho, hbel⟩ := hrel
        by_cases hlt : k < us.length
        · obtain ⟨g2, rfl, hg3, d1, d2, hPx, hxk⟩ := HROW.out k hlt
          rw [← hbel.cell (p := ⟨g2, k, none⟩) hg3] at d1
          rw [← hbel.cell (p := ⟨P (us.getD k 0), 0, none⟩) hPx] at d2
          have HT := hid (numL_take hlt)
          obtain ⟨x, hx⟩ : ∃ x, x = us.getD k 0 := ⟨_, rfl⟩
          rw [← hx] at d1 d2 HT
          clear hx hPx
          go_wp2_with (at_builtin; refine app1 rfl _ _ 24 rfl Try.underlying24 w1.heap.size _ _ _ ho rfl rfl (by rw [numL_length, List.length_take]; omega) hbel hbel.size ?_; intro v' w' ho' hbel' _)
          go_roundw
          case rel => exact ⟨k + 1, by omega, by go_num, by rw [HT.out]; exact ho', hbel'⟩
          case measure => simp [intOf]; omega
        · obtain rfl : k = us.length := by omega
          go_wp2_with fail
          go_ret
          refine ⟨_, rfl, ?_, hb.trans (hbel.mono hb.size)⟩
          rw [List.take_length, HUS.out] at ho
          have e : xs = numL (usesN ns j ns.length) := by rw [HXS.out]; unfold usesR; rw [if_pos HP.out]
          rw [e]
          exact ho.base hb.size
    · rw [decide_eq_false hin]
      have e : xs = [] := by rw [HXS.out]; exact usesR_out (by omega)
      subst e
      clear hin
      go_wp2_with fail
      go_ret
      exact ⟨_, rfl, OI.nil _ _, hb⟩
  · have e : xs = [] := by rw [HXS.out]; unfold usesR; rw [if_neg (by rw [hp]; simp)]
    subst e
    clear hp
    go_wp2_with fail
    go_ret
    exact ⟨_, rfl, OI.nil _ _, hb⟩

end Go.Proofs.Yteelobokjidphaa
