/- The program's graphOf. No condition. -/
import Derived.Test.YteelobokjidphaaPlanPure
import Derived.OwnWalk
namespace Go.Proofs.Yteelobokjidphaa
open Go.RowKit
set_option maxRecDepth 100000

/-- A node laid in a new block. -/
theorem St.node {w : World} {B k m : Nat} {vg : Value} {P : Nat → Nat} {L : Nat → Nat → List Nat} (h : St w B k m vg P L) (hB : B ≤ w.heap.size) (hb : ∀ s i x, x ∈ L s i → x < k) (h0 : ∀ s, L s k = []) (hm : m ≤ k) :
    St (w.alloc (.cells #[.int .i64 k, .slice none 0 0, .slice none 0 0] 105)) B (k + 1) m vg (fun i => if i = k then w.heap.size else P i) L := by
  obtain ⟨own, V, h⟩ := h
  have h' := h.kept (w' := w.alloc (.cells #[.int .i64 k, .slice none 0 0, .slice none 0 0] 105)) fun b hb _ => heap_alloc_old w _ hb
  obtain ⟨h1, h2, h3, h4⟩ := h'
  have e0 : ∀ i, i < k → (if i = k then w.heap.size else P i) = P i := fun i hi => if_neg (by omega)
  have em : ∀ l : List Nat, (∀ x ∈ l, x < k) → l.map (fun i => if i = k then w.heap.size else P i) = l.map P := fun l hl => List.map_congr_left fun x hx => e0 x (hl x hx)
  refine ⟨fun b => if b = w.heap.size then 3 * (k : Int) else own b, fun s i => if i = k then .slice none 0 0 else V s i, fun i hi => ?_, fun i s hi hs => ?_, ?_, fun b hb' => ?_⟩
  · by_cases e : i = k
    · subst e
      simp only [if_true]
      exact ⟨heap_alloc_new w _, hB, trivial⟩
    · obtain ⟨q1, q2, q3⟩ := h1 i (by omega)
      have hlt := (Array.getElem?_eq_some_iff.1 ((h.1 i (by omega)).1)).1
      simp only [if_neg e]
      exact ⟨q1, q2, (if_neg (by omega)).trans q3⟩
  · by_cases e : i = k
    · subst e
      simp only [if_true, h0]
      exact ⟨OP.nil _ _, fun b hb => by simp [Value.ownBlock] at hb⟩
    · obtain ⟨q1, q2⟩ := h2 i s (by omega) hs
      simp only [if_neg e]
      rw [em _ (hb s i)]
      refine ⟨q1, fun b hb => (if_neg ?_).trans (q2 b hb)⟩
      have := ((h.2.1 i s (by omega) hs).1.lt b hb).2
      omega
  · rw [em _ (fun x hx => by simp at hx; omega)]
    exact h3
  · have := (h.2.2.1.lt b hb').2
    exact (if_neg (by omega)).trans (h4 b hb')

/-- The slice of nodes has got one pointer more. -/
theorem St.grow {w w' : World} {B k m g cap n : Nat} {vg : Value} {P : Nat → Nat} {L : Nat → Nat → List Nat} (h : St w B k m vg P L)
    (ho : OP w' B (.slice (some ⟨g, 0, none⟩) n cap) ((List.range m).map P ++ [P m])) (hk : ∀ b, b < w.heap.size → vg.ownBlock ≠ some b → w'.heap[b]? = w.heap[b]?) (hg : vg.ownBlock = some g ∨ w.heap.size ≤ g) :
    St w' B k (m + 1) (.slice (some ⟨g, 0, none⟩) n cap) P L := by
  obtain ⟨own, V, h1, h2, h3, h4⟩ := h
  have hne : ∀ b, own b ≠ -1 → b < w.heap.size → w'.heap[b]? = w.heap[b]? ∧ b ≠ g := fun b hb hlt =>
    ⟨hk b hlt fun e => hb (h4 b e), fun e => by
      subst e
      rcases hg with hg | hg
      · exact hb (h4 _ hg)
      · omega⟩
  refine ⟨fun b => if b = g then -1 else own b, V, fun i hi => ?_, fun i s hi hs => ?_, ?_, fun b hb => ?_⟩
  · obtain ⟨q1, q2, q3⟩ := h1 i hi
    obtain ⟨e1, e2⟩ := hne (P i) (by omega) (Array.getElem?_eq_some_iff.1 q1).1
    exact ⟨e1.trans q1, q2, (if_neg e2).trans q3⟩
  · obtain ⟨q1, q2⟩ := h2 i s hi hs
    have hb' : ∀ b, (V s i).ownBlock = some b → own b ≠ -1 := fun b hb => by have := q2 b hb; omega
    exact ⟨q1.kept fun b hb => (hne b (hb' b hb) (q1.lt b hb).2).1, fun b hb => (if_neg (hne b (hb' b hb) (q1.lt b hb).2).2).trans (q2 b hb)⟩
  · rw [List.range_succ, List.map_append]
    exact ho
  · simp [Value.ownBlock] at hb
    exact if_pos hb.symm
theorem St.kept {w w' : World} {B k m : Nat} {vg : Value} {P : Nat → Nat} {L : Nat → Nat → List Nat} (h : St w B k m vg P L) (hm : Mod 0 0 w w') : St w' B k m vg P L := by
  obtain ⟨own, V, h⟩ := h
  exact ⟨own, V, h.kept fun b hb _ => hm.block b hb (.inr (Nat.zero_le _))⟩

theorem St.vg {w : World} {B k m c : Nat} {vg : Option Addr} {P : Nat → Nat} {L : Nat → Nat → List Nat} (h : St w B k m (.slice vg m c) P L) {x : Nat} (hx : x < m) : ∃ g, vg = some ⟨g, 0, none⟩ ∧ w.cell? ⟨g, x, none⟩ = some (ptr (P x)) := by
  obtain ⟨own, V, -, -, q, -⟩ := h
  obtain ⟨g, c', e, -, hc⟩ := q.cell (i := x) (by simpa using hx)
  simp only [Value.slice.injEq] at e
  refine ⟨g, e.1, ?_⟩
  rw [hc]
  simp [hx]

def GraphOf (ns : List Nd) (w : World) (e : Ending) (w' : World) : Prop :=
  Below w.heap.size w w' ∧ ((planB ns = true ∧ ∃ vg P, e = .returned (.tuple #[vg, .bool true]) ∧ St w' w.heap.size ns.length ns.length vg P (lk ns ns.length)) ∨ (planB ns = false ∧ e = .returned (.tuple #[.slice none 0 0, .bool false])))

set_option maxHeartbeats 8000000 in
theorem graph_any (v : Value) (ns : List Nd) (hi : Nat) (w : World) (h : PL w hi v ns) :
    Calls Try.prog 83 #[v] w (GraphOf ns w) := by
  obtain ⟨a, c, rfl, h1, h2, hs, h3⟩ := h
  unfold maxLen at h2
  have H3 := hid h3
  clear h3
  by_cases hlen : 10 < ns.length
  · have hpb : planB ns = false := by
      cases hp : planB ns
      · rfl
      · have := planB_len hp; omega
    have HPB := hid hpb
    clear hpb
    go_enter Try.func83, Try.ntmps83
    go_wp2_with fail
    go_ret2
    exact ⟨Below.refl _ _, .inr ⟨HPB.out, rfl⟩⟩
  have hlen' : ns.length ≤ 10 := by omega
  clear hlen
  obtain ⟨i0, hi0, hz0, hz1, hz2⟩ := info_parts infoPtr
  go_enter Try.func83, Try.ntmps83
  go_wp2_with (at_make; refine wpList_make_own _ rfl _ _ 101 rfl w.heap.size 106 i0 (.pointer none) 1 Try.underlying101 hi0 hz0 hz1 .i64 .i64 _ ns.length rfl rfl rfl (by rw [hz2]; omega) (by unfold maxLen; omega) (Nat.le_refl _) ?_; intro w1 ho hgr)
  go_loopw [4, 5, 19] (fun g wd i wr => ∃ (k : Nat) (P : Nat → Nat) (vg : Option Addr) (c' : Nat), k ≤ ns.length ∧ i = .int .i64 (k : Nat) ∧ g = .slice vg k c' ∧ St wr w.heap.size k k (.slice vg k c') P (lk ns k) ∧ Below w.heap.size w wr ∧ (∀ j : Nat, j < k → nodeB (ns.getD j nd0) j (wideF ns) = true) ∧
    ((wd = .int .i64 (-1) ∧ wideF (ns.drop k) = wideF ns) ∨ (wd = .int .i64 (wideF ns)))) (fun _ _ i _ => ns.length - (intOf i).toNat)
  case atStart =>
    refine ⟨0, fun _ => 0, _, _, Nat.zero_le _, rfl, rfl, ⟨fun _ => -1, fun _ _ => .slice none 0 0, fun i hi => by omega, fun i s hi _ => by omega, ho, fun b hb => rfl⟩, (Below.refl _ _).grown hgr (Nat.le_refl _) (by simp), fun j hj => by omega, .inl ⟨rfl, rfl⟩⟩
  case round =>
    obtain ⟨k, P, vg, c', hk, rfl, rfl, hst, hbel, hall, hwd⟩ := hrel
    clear ho hgr
    by_cases hlt : k < ns.length
    · obtain ⟨b, o, f, r, rfl, hb, c0, c1, c2, hf, hr⟩ := H3.out k hlt
      have hm := Mod.of_below hbel
      have hk0 := hm.block b (Nat.lt_of_lt_of_le hb hs) (.inr (Nat.zero_le _))
      replace c0 := (World.cell?_of_block (a := ⟨b, o + k * 3, none⟩) hk0).trans c0
      replace c1 := (World.cell?_of_block (a := ⟨b, o + k * 3 + 1, none⟩) hk0).trans c1
      replace c2 := (World.cell?_of_block (a := ⟨b, o + k * 3 + 2, none⟩) hk0).trans c2
      have hf0 := hf
      replace hf := hf.mod hm (.inr (Nat.zero_le _))
      replace hr := hr.mod hm (.inr (Nat.zero_le _))
      obtain ⟨n, hn⟩ : ∃ n, n = ns.getD k nd0 := ⟨_, rfl⟩
      rw [← hn] at c0 hf hr hf0
      obtain ⟨kd, fs, row⟩ := n
      simp only at c0 hf hr hf0
      obtain ⟨af, cf, rfl, -⟩ := id hf
      obtain ⟨ar, cr, rfl, -⟩ := id hr
      have HN := hid hn
      have HALL := hid hall
      have HST := hid hst
      have HWD := hid hwd
      have HF := hid (show RR w hi (.slice af fs.length cf) fs from hf0)
      clear hn hall hk0 hst hwd hf0
      have mX := Mod.alloc wr (.cells #[.int .i64 kd, .slice af fs.length cf, .slice ar row.length cr] 48)
      go_wp2_with fail
      refine (fits_any kd _ _ fs row k _ (hf.mod mX (.inr (Nat.zero_le _))).rl (hr.mod mX (.inr (Nat.zero_le _))).rl).mono ?_
      rintro e w5 ⟨rfl, hm5⟩
      have mw5 := mX.trans hm5
      have hb5 := mw5.below0 hbel hbel.size
      have hX5 : (wr.alloc (.cells #[.int .i64 kd, .slice af fs.length cf, .slice ar row.length cr] 48)).heap[wr.heap.size]? = some (.cells #[.int .i64 kd, .slice af fs.length cf, .slice ar row.length cr] 48 (0, 0)) := heap_alloc_new wr _
      rw [← hm5.block wr.heap.size (by rw [World.size_alloc]; omega) (.inr (Nat.zero_le _))] at hX5
      have x0 : w5.cell? ⟨wr.heap.size, 0, none⟩ = some (.int .i64 kd) := by unfold World.cell?; simp [hX5]
      have x1 : w5.cell? ⟨wr.heap.size, 1, none⟩ = some (.slice af fs.length cf) := by unfold World.cell?; simp [hX5]
      have x2 : w5.cell? ⟨wr.heap.size, 2, none⟩ = some (.slice ar row.length cr) := by unfold World.cell?; simp [hX5]
      have hlt5 : wr.heap.size < w5.heap.size := Nat.lt_of_lt_of_le (by rw [World.size_alloc]; omega) hm5.size
      have hne5 : wr.heap.size ≠ w5.heap.size := by omega
      have y1 : (w5.alloc (.cells #[.int .i64 k, .slice none 0 0, .slice none 0 0] 105)).cell? ⟨wr.heap.size, 1, none⟩ = some (.slice af fs.length cf) := (World.cell?_of_block (a := ⟨wr.heap.size, 1, none⟩) (heap_alloc_old w5 _ hlt5)).trans x1
      clear hX5 c0 c1 c2
      cases hfit : fitsB ⟨kd, fs, row⟩ k
      · have hnb : nodeB (ns.getD k nd0) k (wideF ns) = false := by rw [← HN.out, nodeB_fits, hfit]; rfl
        have hpb : planB ns = false := planB_false hlt hnb
        have HPB := hid hpb
        clear hpb hnb hfit
        go_wp2_with fail
        go_ret2
        exact ⟨hb5, .inr ⟨HPB.out, rfl⟩⟩
      have HFIT := hid hfit
      obtain ⟨hp1, hp2⟩ := fits_parts hfit
      have hp1' : fs.length ≤ 2 := by have := knI_le kd; simp only at hp1; omega
      have HP2 := hid hp2
      have hfits : ∀ j : Nat, j < k → fitsB (ns.getD j nd0) j = true := fun j hj => by
        have := HALL.out j hj
        rw [nodeB_fits] at this
        simp only [Bool.and_eq_true] at this
        exact this.1
      have hbn := lk_bnd k hfits
      have HLK := hid (fun q (hq : q ≤ fs.length) => hbn.up.links (j := k) (fs := fs) (by omega) (fun q hq => by have := hp2 q hq; simp only at this; omega) q hq)
      have hst5 := HST.out.kept mw5
      have hst6 := hst5.node hb5.size hbn.1 (fun s => hbn.2.2 s k (Nat.le_refl _)) (Nat.le_refl _)
      obtain ⟨P', hP', hst6⟩ : ∃ P' : Nat → Nat, P' k = w5.heap.size ∧ St (w5.alloc (.cells #[.int .i64 k, .slice none 0 0, .slice none 0 0] 105)) w.heap.size (k + 1) k (.slice vg k c') P' (lk ns k) := ⟨fun i => if i = k then w5.heap.size else P i, if_pos rfl, hst6⟩
      have HPK := hid hP'
      have HS6 := hid (show St (w5.alloc (.cells #[.int .i64 k, .slice none 0 0, .slice none 0 0] 105)) w.heap.size (k + 1) k (.slice vg k c') P' (links (lk ns k) k (fs.take 0)) from hst6)
      have hb6 := hb5.alloc hb5.size (.cells #[.int .i64 k, .slice none 0 0, .slice none 0 0] 105)
      have hwide := HWD.out
      rw [drop_nd hlt, wideF_cons, ← HN.out] at hwide
      have HWIDE := hid hwide
      have hk10 : k < 10 := by omega
      clear hfit hp1 hp2 hfits hbn hst5 hst6 hP' hwide HWD
      by_cases hz : kd = 0
      · subst hz
        have hwn := wideF_nonneg ns
        rcases HWIDE.out with ⟨rfl, hwf⟩ | rfl
        · simp only [if_true] at hwf
          have HWF := hid hwf
          clear hwf
          go_wp2_with fail
          go_loopw [49] (fun i wq => ∃ q : Nat, q ≤ fs.length ∧ i = .int .i64 (q : Nat) ∧ St wq w.heap.size (k + 1) k (.slice vg k c') P' (links (lk ns k) k (fs.take q)) ∧ Below w.heap.size w wq) (fun i _ => fs.length - (intOf i).toNat)
          case atStart => exact ⟨0, Nat.zero_le _, rfl, HS6.out, hb6⟩
          case round =>
            obtain ⟨q, hq, rfl, hsq, hbq⟩ := hrel
            by_cases hql : q < fs.length
            · have hfq := HF.out.mod (Mod.of_below hbq) (.inr (Nat.zero_le _))
              obtain ⟨_, _, e', -, -, -, h9⟩ := id hfq
              cases e'
              obtain ⟨bf, of, rfl, hbf, hcf⟩ := h9 q hql
              obtain ⟨hx0, hx1⟩ := HP2.out q hql
              obtain ⟨x, hx⟩ := Int.eq_ofNat_of_zero_le hx0
              have hlk := HLK.out q (by omega)
              have hxk : x < k := by omega
              obtain ⟨g0, hvg, hgc⟩ := hsq.vg hxk
              subst hvg
              have htk := links_take (L := lk ns k) (j := k) hql
              rw [hx] at hcf htk
              have hll := link_any wr w.heap.size (k + 1) k _ P' _ hsq x k (by omega) (by omega) (fun y hy => hlk.1 _ _ _ hy) hbq.size (by have := hlk.2.1 1 k; omega) (by have := hlk.2.1 2 x; omega)
              rw [HPK.out] at hll
              unfold ptr at hgc
              have HLL := hid hll
              have HTK := hid htk
              have hx2 : (0 : Int) ≤ (x : Int) := by omega
              have hx3 : (x : Int) < (k : Int) := by omega
              clear hll htk hx h9 hsq hlk hx0 hx1
              go_wp2_with fail
              refine (HLL.out).mono ?_
              rintro e w7 ⟨rfl, hs7, hb7⟩
              have HS7 := hid hs7
              clear hs7
              go_wp2_with fail
              go_roundw
              case rel => exact ⟨q + 1, by omega, by go_num, by rw [HTK.out]; exact HS7.out, hbq.trans hb7⟩
              case measure => simp [intOf]; omega
            · obtain rfl : q = fs.length := by omega
              rw [List.take_length] at hsq
              obtain ⟨own, V, hso⟩ := id hsq
              have hvo := hso.2.2.1
              have hpk := HPK.out
              have HSQ := hid hsq
              have hvl : ((List.range k).map P').length = k := by simp
              clear hso hsq
              go_wp2_with (at_builtin; refine appP rfl _ _ 101 rfl Try.underlying101 w.heap.size _ _ w5.heap.size hvo rfl rfl (by rw [hvl]; omega) hbq.size ?_; intro g cap w9 ho9 hk9 hb9 hg9; rw [hvl, ← hpk] at ho9; rw [hvl]; have HS9 := hid (HSQ.out.grow ho9 hk9 hg9); clear ho9 hk9 hg9)
              go_roundw
              case rel =>
                refine ⟨k + 1, P', _, cap, by omega, by go_num, rfl, ?_, hbq.trans hb9, fun j hj => ?_, .inr (by rw [HWF.out])⟩
                · show St w9 w.heap.size (k + 1) (k + 1) _ P' (links (lk ns k) k (ns.getD k nd0).fs)
                  rw [← HN.out]
                  exact HS9.out
                · by_cases e : j = k
                  · subst e
                    exact by rw [← HN.out, nodeB_fits, HFIT.out]; simp [HWF.out]
                  · exact HALL.out j (by omega)
              case measure => simp [intOf]; omega
        · by_cases hrw : (row.length : Int) = wideF ns
          · have hne : ((row.length : Int) != wideF ns) = false := by simp [hrw]
            have HWF := hid hrw
            clear hrw
            go_wp2_with fail
            go_loopw [49] (fun i wq => ∃ q : Nat, q ≤ fs.length ∧ i = .int .i64 (q : Nat) ∧ St wq w.heap.size (k + 1) k (.slice vg k c') P' (links (lk ns k) k (fs.take q)) ∧ Below w.heap.size w wq) (fun i _ => fs.length - (intOf i).toNat)
            case atStart => exact ⟨0, Nat.zero_le _, rfl, HS6.out, hb6⟩
            case round =>
              obtain ⟨q, hq, rfl, hsq, hbq⟩ := hrel
              by_cases hql : q < fs.length
              · have hfq := HF.out.mod (Mod.of_below hbq) (.inr (Nat.zero_le _))
                obtain ⟨_, _, e', -, -, -, h9⟩ := id hfq
                cases e'
                obtain ⟨bf, of, rfl, hbf, hcf⟩ := h9 q hql
                obtain ⟨hx0, hx1⟩ := HP2.out q hql
                obtain ⟨x, hx⟩ := Int.eq_ofNat_of_zero_le hx0
                have hlk := HLK.out q (by omega)
                have hxk : x < k := by omega
                obtain ⟨g0, hvg, hgc⟩ := hsq.vg hxk
                subst hvg
                have htk := links_take (L := lk ns k) (j := k) hql
                rw [hx] at hcf htk
                have hll := link_any wr w.heap.size (k + 1) k _ P' _ hsq x k (by omega) (by omega) (fun y hy => hlk.1 _ _ _ hy) hbq.size (by have := hlk.2.1 1 k; omega) (by have := hlk.2.1 2 x; omega)
                rw [HPK.out] at hll
                unfold ptr at hgc
                have HLL := hid hll
                have HTK := hid htk
                have hx2 : (0 : Int) ≤ (x : Int) := by omega
                have hx3 : (x : Int) < (k : Int) := by omega
                clear hll htk hx h9 hsq hlk hx0 hx1
                go_wp2_with fail
                refine (HLL.out).mono ?_
                rintro e w7 ⟨rfl, hs7, hb7⟩
                have HS7 := hid hs7
                clear hs7
                go_wp2_with fail
                go_roundw
                case rel => exact ⟨q + 1, by omega, by go_num, by rw [HTK.out]; exact HS7.out, hbq.trans hb7⟩
                case measure => simp [intOf]; omega
              · obtain rfl : q = fs.length := by omega
                rw [List.take_length] at hsq
                obtain ⟨own, V, hso⟩ := id hsq
                have hvo := hso.2.2.1
                have hpk := HPK.out
                have HSQ := hid hsq
                have hvl : ((List.range k).map P').length = k := by simp
                clear hso hsq
                go_wp2_with (at_builtin; refine appP rfl _ _ 101 rfl Try.underlying101 w.heap.size _ _ w5.heap.size hvo rfl rfl (by rw [hvl]; omega) hbq.size ?_; intro g cap w9 ho9 hk9 hb9 hg9; rw [hvl, ← hpk] at ho9; rw [hvl]; have HS9 := hid (HSQ.out.grow ho9 hk9 hg9); clear ho9 hk9 hg9)
                go_roundw
                case rel =>
                  refine ⟨k + 1, P', _, cap, by omega, by go_num, rfl, ?_, hbq.trans hb9, fun j hj => ?_, .inr (by rw [HWF.out])⟩
                  · show St w9 w.heap.size (k + 1) (k + 1) _ P' (links (lk ns k) k (ns.getD k nd0).fs)
                    rw [← HN.out]
                    exact HS9.out
                  · by_cases e : j = k
                    · subst e
                      exact by rw [← HN.out, nodeB_fits, HFIT.out]; simp [HWF.out]
                    · exact HALL.out j (by omega)
                case measure => simp [intOf]; omega
          · have hne : ((row.length : Int) != wideF ns) = true := by simpa using hrw
            have hnb : nodeB (ns.getD k nd0) k (wideF ns) = false := by rw [← HN.out, nodeB_fits]; simp [hrw]
            have hpb : planB ns = false := planB_false hlt hnb
            have HPB := hid hpb
            clear hpb hnb hrw
            go_wp2_with fail
            go_ret2
            exact ⟨hb5, .inr ⟨HPB.out, rfl⟩⟩
      · have hz' : (kd == 0) = false := by simpa using hz
        have HZ := hid hz
        clear hz
        go_wp2_with fail
        go_loopw [49] (fun i wq => ∃ q : Nat, q ≤ fs.length ∧ i = .int .i64 (q : Nat) ∧ St wq w.heap.size (k + 1) k (.slice vg k c') P' (links (lk ns k) k (fs.take q)) ∧ Below w.heap.size w wq) (fun i _ => fs.length - (intOf i).toNat)
        case atStart => exact ⟨0, Nat.zero_le _, rfl, HS6.out, hb6⟩
        case round =>
          obtain ⟨q, hq, rfl, hsq, hbq⟩ := hrel
          by_cases hql : q < fs.length
          · have hfq := HF.out.mod (Mod.of_below hbq) (.inr (Nat.zero_le _))
            obtain ⟨_, _, e', -, -, -, h9⟩ := id hfq
            cases e'
            obtain ⟨bf, of, rfl, hbf, hcf⟩ := h9 q hql
            obtain ⟨hx0, hx1⟩ := HP2.out q hql
            obtain ⟨x, hx⟩ := Int.eq_ofNat_of_zero_le hx0
            have hlk := HLK.out q (by omega)
            have hxk : x < k := by omega
            obtain ⟨g0, hvg, hgc⟩ := hsq.vg hxk
            subst hvg
            have htk := links_take (L := lk ns k) (j := k) hql
            rw [hx] at hcf htk
            have hll := link_any wr w.heap.size (k + 1) k _ P' _ hsq x k (by omega) (by omega) (fun y hy => hlk.1 _ _ _ hy) hbq.size (by have := hlk.2.1 1 k; omega) (by have := hlk.2.1 2 x; omega)
            rw [HPK.out] at hll
            unfold ptr at hgc
            have HLL := hid hll
            have HTK := hid htk
            have hx2 : (0 : Int) ≤ (x : Int) := by omega
            have hx3 : (x : Int) < (k : Int) := by omega
            clear hll htk hx h9 hsq hlk hx0 hx1
            go_wp2_with fail
            refine (HLL.out).mono ?_
            rintro e w7 ⟨rfl, hs7, hb7⟩
            have HS7 := hid hs7
            clear hs7
            go_wp2_with fail
            go_roundw
            case rel => exact ⟨q + 1, by omega, by go_num, by rw [HTK.out]; exact HS7.out, hbq.trans hb7⟩
            case measure => simp [intOf]; omega
          · obtain rfl : q = fs.length := by omega
            rw [List.take_length] at hsq
            obtain ⟨own, V, hso⟩ := id hsq
            have hvo := hso.2.2.1
            have hpk := HPK.out
            have HSQ := hid hsq
            have hvl : ((List.range k).map P').length = k := by simp
            clear hso hsq
            go_wp2_with (at_builtin; refine appP rfl _ _ 101 rfl Try.underlying101 w.heap.size _ _ w5.heap.size hvo rfl rfl (by rw [hvl]; omega) hbq.size ?_; intro g cap w9 ho9 hk9 hb9 hg9; rw [hvl, ← hpk] at ho9; rw [hvl]; have HS9 := hid (HSQ.out.grow ho9 hk9 hg9); clear ho9 hk9 hg9)
            go_roundw
            case rel =>
              refine ⟨k + 1, P', _, cap, by omega, by go_num, rfl, ?_, hbq.trans hb9, fun j hj => ?_, by rcases HWIDE.out with ⟨h1, h2⟩ | h1; exact .inl ⟨h1, by rw [if_neg HZ.out] at h2; exact h2⟩; exact .inr h1⟩
              · show St w9 w.heap.size (k + 1) (k + 1) _ P' (links (lk ns k) k (ns.getD k nd0).fs)
                rw [← HN.out]
                exact HS9.out
              · by_cases e : j = k
                · subst e
                  exact by rw [← HN.out, nodeB_fits, HFIT.out]; simp [HZ.out]
                · exact HALL.out j (by omega)
            case measure => simp [intOf]; omega
    · obtain rfl : k = ns.length := by omega
      have hpb := planB_of hall
      rw [decide_eq_true hlen'] at hpb
      have HPB := hid hpb
      have HST := hid hst
      clear hpb hall hwd hst
      go_wp2_with fail
      go_ret2
      exact ⟨hbel, .inl ⟨HPB.out, _, P, rfl, HST.out⟩⟩

set_option maxRecDepth 100000

theorem iplan_any (v : Value) (ns : List Nd) (hi : Nat) (w : World) (h : PL w hi v ns) :
    Calls Try.prog 51 #[v] w fun e w' => e = .returned (.bool (planB ns)) ∧ Mod 0 0 w w' := by
  obtain ⟨pb, hpb⟩ : ∃ pb, pb = planB ns := ⟨_, rfl⟩
  rw [← hpb]
  have HPB := hid hpb
  obtain ⟨a, c, rfl, -⟩ := id h
  clear hpb
  go_enter Try.func51, Try.ntmps51
  go_wp2_with fail
  refine (graph_any _ ns hi w h).mono ?_
  rintro e w1 ⟨hb, ⟨hp, vg, P, rfl, -⟩ | ⟨hp, rfl⟩⟩
  · go_wp2_with fail
    go_ret
    exact ⟨by rw [HPB.out, hp]; rfl, Mod.of_below hb⟩
  · go_wp2_with fail
    go_ret
    exact ⟨by rw [HPB.out, hp]; rfl, Mod.of_below hb⟩
end Go.Proofs.Yteelobokjidphaa
