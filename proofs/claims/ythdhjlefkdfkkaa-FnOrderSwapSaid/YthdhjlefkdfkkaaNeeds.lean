/- What a node needs, directly or not: the contracts of the program and of the reference. No condition. -/
import Derived.Test.YthdhjlefkdfkkaaUse
import Derived.Test.YthdhjlefkdfkkaaOrderPure
import Derived.Test.YthdhjlefkdfkkaaOwn
import Derived.RegionTactic
namespace Go.Proofs.Ythdhjlefkdfkkaa
open Go.RowKit
set_option maxRecDepth 100000

/-! ### The program's array of marks -/
def marksA (s : Nat → Bool) : Array Value := ((List.range 10).map fun x => Value.bool (s x)).toArray
/-- Block S is an array of marks. -/
def SB (w : World) (S : Nat) (s : Nat → Bool) : Prop := w.heap[S]? = some (.cells (marksA s) 60 (0, 0))
theorem marksA_at (s : Nat → Bool) {x : Nat} (h : x < 10) : (marksA s)[x]? = some (.bool (s x)) := by simp [marksA, h]
theorem SB.cell {w : World} {S : Nat} {s : Nat → Bool} (h : SB w S s) {x : Nat} (hx : x < 10) : w.cell? ⟨S, x, none⟩ = some (.bool (s x)) := by
  rw [cell_of_row w S x _ _ _ h, marksA_at s hx]
theorem SB.frozen {w : World} {S : Nat} {s : Nat → Bool} (h : SB w S s) (x : Nat) : w.frozen? ⟨S, x, none⟩ = false := by
  unfold World.frozen?; rw [h]; simp
theorem marksA_set (s : Nat → Bool) {x : Nat} (hx : x < 10) : (marksA s).setIfInBounds x (.bool true) = marksA fun y => s y || decide (y = x) := by
  have hx' : x < (marksA s).size := by simp [marksA, hx]
  refine Array.ext_getElem? fun j => ?_
  by_cases hj : j < 10
  · rw [marksA_at _ hj, Array.getElem?_setIfInBounds]
    by_cases e : x = j
    · subst e; simp [hx']
    · rw [if_neg e, marksA_at _ hj]
      have : decide (j = x) = false := decide_eq_false (fun h => e h.symm)
      rw [this, Bool.or_false]
  · rw [Array.getElem?_eq_none (by simp [marksA]; omega), Array.getElem?_eq_none (by simp [marksA]; omega)]
theorem SB.set {w : World} {S : Nat} {s : Nat → Bool} (h : SB w S s) {x : Nat} (hx : x < 10) : SB (w.setCell ⟨S, x, none⟩ (.bool true)) S fun y => s y || decide (y = x) := by
  unfold SB
  rw [setCell_heap _ _ _ _ h, marksA_set s hx]
theorem SB.lt {w : World} {S : Nat} {s : Nat → Bool} (h : SB w S s) : S < w.heap.size := (Array.getElem?_eq_some_iff.1 h).1
theorem SB.mod {w w' : World} {S A B : Nat} {s : Nat → Bool} (h : SB w S s) (hm : Mod A B w w') (hS : S < A ∨ B ≤ S) : SB w' S s := by
  unfold SB; rw [hm.block S h.lt hS]; exact h
theorem SB.made (w : World) : SB (w.alloc (.cells (marksA fun _ => false) 60)) w.heap.size fun _ => false := heap_alloc_new w _

theorem marksA_index (s : Nat → Bool) (w : World) {k : Nat} (hk : k < 10) : (Instr.index 60 (.agg (marksA s)) (.int .i64 k)).run Try.prog w = .ok (.bool (s k)) w := by
  have h := Try.underlying60
  have hn : 0 ≤ (k : Int) ∧ (k : Int) < 10 := by omega
  simp [Instr.index, run_underlying h, asIntOf, hn, go_sem]
  rw [if_pos hk, marksA_at s hk]
  rfl
theorem marksA_none : marksA (fun _ => false) = #[.bool false, .bool false, .bool false, .bool false, .bool false, .bool false, .bool false, .bool false, .bool false, .bool false] := by rfl
theorem filter_succ (p : Nat → Bool) (k : Nat) : (List.range (k + 1)).filter p = (List.range k).filter p ++ if p k = true then [k] else [] := by
  rw [List.range_succ, List.filter_append]
  by_cases h : p k = true <;> simp [h]
theorem filter_len (p : Nat → Bool) (k : Nat) : ((List.range k).filter p).length ≤ k := by
  have := List.length_filter_le p (List.range k)
  simpa using this

/-- What a marking leaves. -/
def Marked (w1 w : World) (S : Nat) (s : Nat → Bool) (e : Ending) (w' : World) : Prop := e = .returned (.tuple #[]) ∧ SB w' S s ∧ Below w1.heap.size w1 w' ∧ Mod S (S + 1) w w'

set_option maxHeartbeats 4000000 in
theorem markNeeds_any (w1 : World) (B k m : Nat) (vg : Value) (P : Nat → Nat) (L : Nat → Nat → List Nat) (hst : St w1 B k m vg P L) (hL : ∀ i x, x ∈ L 1 i → x < i) (hk : k ≤ 10) :
    ∀ (f n : Nat) (S : Nat) (s : Nat → Bool) (w : World), n < f → n < k → Below w1.heap.size w1 w → w1.heap.size ≤ S → SB w S s →
      Calls Try.prog 46 #[.pointer (some ⟨P n, 0, none⟩), .pointer (some ⟨S, 0, none⟩)] w (Marked w1 w S (markF (L 1) f n s)) := by
  intro f
  induction f with
  | zero => intro n S s w h; omega
  | succ f ih =>
    intro n S s w hn hnk hbel hS hsb
    have HIH := hid ih
    obtain ⟨a, c, rc, hr1, hr2, hPn, hrow⟩ := hst.row (s := 1) (.inl rfl) hnk (fun x hx => by have := hL n x hx; omega)
    rw [← hbel.cell (p := ⟨P n, 1, none⟩) hPn] at rc
    have hmem : ∀ q, q < (L 1 n).length → (L 1 n).getD q 0 < n := fun q hq => hL n _ (getD_mem hq)
    have htake : ∀ q, q < (L 1 n).length → (L 1 n).take (q + 1) = (L 1 n).take q ++ [(L 1 n).getD q 0] := fun q hq => by rw [List.take_add_one]; simp [hq]
    obtain ⟨l, hl⟩ : ∃ l, l = L 1 n := ⟨_, rfl⟩
    have hF : markF (L 1) (f + 1) n s = markG (L 1) f l s := by rw [hl]; rfl
    rw [hF]
    rw [← hl] at rc hr1 hrow hmem htake
    have HROW := hid hrow
    have HMEM := hid hmem
    have HTAKE := hid htake
    have HSB := hid hsb
    unfold maxLen at hr2
    clear hrow hmem htake hsb hl hF ih
    go_enter Try.func46, Try.ntmps46
    go_wp2_with fail
    go_loopw [11] (fun i wr => ∃ q : Nat, q ≤ l.length ∧ i = .int .i64 q ∧ SB wr S (markG (L 1) f (l.take q) s) ∧ Below w1.heap.size w1 wr ∧ Mod S (S + 1) w wr) (fun i _ => l.length - (intOf i).toNat)
    case atStart => exact ⟨0, Nat.zero_le _, rfl, HSB.out, hbel, Mod.refl _ _ _⟩
    case round =>
      obtain ⟨q, hq, rfl, hsb, hb, hm⟩ := hrel
      by_cases hlt : q < l.length
      · obtain ⟨g, rfl, hg, gc, nc, hPx, hxk⟩ := HROW.out q hlt
        have hxn := HMEM.out q hlt
        have ht := HTAKE.out q hlt
        rw [← hb.cell (p := ⟨g, q, none⟩) hg] at gc
        rw [← hb.cell (p := ⟨P (l.getD q 0), 0, none⟩) hPx] at nc
        obtain ⟨x, hx⟩ : ∃ x, x = l.getD q 0 := ⟨_, rfl⟩
        rw [← hx] at gc nc hxk hxn ht hPx
        obtain ⟨t, hts⟩ : ∃ t, t = markG (L 1) f (l.take q) s := ⟨_, rfl⟩
        have hnext : markG (L 1) f (l.take (q + 1)) s = if t x = true then t else markF (L 1) f x fun y => t y || decide (y = x) := by rw [ht, markG_snoc, ← hts]
        rw [← hts] at hsb
        have sc := hsb.cell (x := x) (by omega)
        have sf := hsb.frozen x
        have HSB' := hid hsb
        have HN := hid hnext
        have x0 : (0 : Int) ≤ (x : Int) := by omega
        have x1 : (x : Int) < 10 := by omega
        have x2 : x < 10 := by omega
        clear hts hx ht hsb hnext
        by_cases htx : t x = true
        · rw [htx] at sc
          have HTX := hid htx
          clear htx
          go_wp2_with fail
          go_quiet (fail)
          go_wp2_with fail
          go_roundw
          case rel => exact ⟨q + 1, by omega, by go_num, by rw [HN.out, if_pos HTX.out]; exact HSB'.out, bdrewN hb _, hm.trans (Mod.drewN _ _).zero⟩
          case measure => simp [intOf]; omega
        · rw [show t x = false by simpa using htx] at sc
          have HTX := hid htx
          clear htx
          go_wp2_with fail
          go_quiet (fail)
          go_wp2_with fail
          go_region
          all_goals
            go_wp2_with fail
            have mset : Mod S (S + 1) wr ((wr.drewN (nq + 1)).setCell ⟨S, x, none⟩ (.bool true)) := (Mod.drewN wr (nq + 1)).zero.trans (Mod.setCell (a := ⟨S, x, none⟩) (Nat.le_refl _) (Nat.lt_succ_self _) _)
            refine (HIH.out x S (fun y => t y || decide (y = x)) _ (by omega) hxk (mset.below hb hS hb.size) hS ((HSB'.out.mod (Mod.drewN wr (nq + 1)) (.inr (Nat.zero_le _))).set x2)).mono ?_
            rintro e w3 ⟨rfl, hsb3, hb3, hm3⟩
            go_wp2_with fail
            go_roundw
            case rel => exact ⟨q + 1, by omega, by go_num, by rw [HN.out, if_neg HTX.out]; exact hsb3, hb3, hm.trans (mset.trans hm3)⟩
            case measure => simp [intOf]; omega
      · obtain rfl : q = l.length := by omega
        rw [List.take_length] at hsb
        go_wp2_with fail
        refine bodyPost_ret (results_none rfl _ _ _) rfl ?_
        exact ⟨rfl, hsb, hb, hm⟩


set_option maxHeartbeats 4000000 in
theorem ineeds_any (v : Value) (ns : List Nd) (hi : Nat) (at_ : Int) (w : World) (h : PL w hi v ns) :
    Calls Try.prog 15 #[v, .int .i64 at_] w (PostI w (needsR ns at_)) := by
  obtain ⟨xs, hxs⟩ : ∃ xs, xs = needsR ns at_ := ⟨_, rfl⟩
  rw [← hxs]
  have HXS := hid hxs
  obtain ⟨a, c, rfl, h1, h2, hs, -⟩ := id h
  unfold maxLen at h2
  clear hxs
  go_enter Try.func15, Try.ntmps15
  go_wp2_with fail
  refine (graph_any _ ns hi w h).mono ?_
  rintro e w1 ⟨hb, ⟨hp, vg, P, rfl, hst⟩ | ⟨hp, rfl⟩⟩
  · have HP := hid hp
    clear hp
    go_wp2_with fail
    refine (isNode_any _ _ _ at_ w1).mono ?_
    rintro e _ ⟨rfl, rfl⟩
    by_cases hin : 0 ≤ at_ ∧ at_ < (ns.length : Int)
    · rw [decide_eq_true hin]
      obtain ⟨j, rfl⟩ := Int.eq_ofNat_of_zero_le hin.1
      have hj : j < ns.length := by omega
      obtain ⟨ag, cg, rfl, hg1, hg2, hgc⟩ := hst.head (Nat.le_refl _)
      obtain ⟨g, rfl, hgs, gc, -, -⟩ := hgc j hj
      have hbnd := lk_bnd ns.length (fits_plan HP.out)
      have hE := Early.plan HP.out
      obtain ⟨i1, i2, -⟩ := lk_spec ns.length hE
      have hL : ∀ i x, x ∈ lk ns ns.length 1 i → x < i := fun i x hx => by
        by_cases hi : i < ns.length
        · have := hE i hi _ ((i2 i hi x).1 hx); omega
        · rw [i1 i (by omega)] at hx; simp at hx
      have hlen := planB_len HP.out
      have hnm := needs_mark hE (f := j + 1) (n := 10) hj (Nat.lt_succ_self _) (by omega)
      have hmk := markNeeds_any w1 _ _ _ _ P (lk ns ns.length) hst hL hlen (j + 1) j w1.heap.size (fun _ => false) (w1.alloc (.cells (marksA fun _ => false) 60)) (Nat.lt_succ_self _) hj ((Below.refl _ _).alloc (Nat.le_refl _) _) (Nat.le_refl _) (SB.made w1)
      rw [marksA_none] at hmk
      obtain ⟨t, ht⟩ : ∃ t, t = markF (lk ns ns.length 1) (j + 1) j fun _ => false := ⟨_, rfl⟩
      rw [← ht] at hmk hnm
      have HNM := hid hnm
      have HMK := hid hmk
      unfold maxLen at hg2
      clear hgc hbnd hE i1 i2 hL hnm hmk hst hin ht
      go_wp2_with fail
      refine HMK.out.mono ?_
      rintro e w2 ⟨rfl, hsb2, hb2, hm2⟩
      have HSB := hid hsb2
      have HIX := hid (fun (w : World) (k : Nat) (hk : k < 10) => marksA_index t w hk)
      have HBA := hid (show ∃ A, A = marksA t from ⟨_, rfl⟩)
      obtain ⟨A, hA⟩ := HBA.out
      have hA' : w2.heap[w1.heap.size]? = some (.cells A 60 (0, 0)) := by rw [hA]; exact hsb2
      have hAs : A.size = 10 := by rw [hA]; simp [marksA]
      have HA := hid hA
      have HA' := hid hA'
      have HAS := hid hAs
      clear hA hA' hAs HBA hsb2
      go_wp2_with (with_reducible refine wpList_load_row rfl 60 _ rfl w1.heap.size rfl _ A _ _ HA'.out Try.underlying60 rfl ((by kernel_rfl : (Try.prog.info? 60).map (·.size) = some 10).trans (congrArg some HAS.out.symm)) ?_)
      go_loopw [8, 30] (fun o i wr => ∃ k : Nat, k ≤ 10 ∧ i = .int .i64 k ∧ OI wr w2.heap.size o (numL ((List.range k).filter t)) ∧ Below w2.heap.size w2 wr) (fun _ i _ => 10 - (intOf i).toNat)
      case atStart => exact ⟨0, Nat.zero_le _, rfl, OI.nil _ _, Below.refl _ _⟩
      case round =>
        obtain ⟨k, hk, rfl, ho, hbel⟩ := hrel
        by_cases hlt : k < 10
        · have hix := fun w => HIX.out w k hlt
          rw [← HA.out] at hix
          have hfs := filter_succ t k
          have hfl := filter_len t k
          cases htk : t k
          · rw [htk] at hix
            rw [htk, if_neg (by simp), List.append_nil] at hfs
            have HFS := hid hfs
            clear hfs htk
            go_wp2_with fail
            go_roundw
            case rel => exact ⟨k + 1, by omega, by go_num, by rw [HFS.out]; exact ho, hbel⟩
            case measure => simp [intOf]; omega
          · rw [htk] at hix
            rw [htk, if_pos rfl] at hfs
            have HFS := hid hfs
            clear hfs htk
            go_wp2_with (at_builtin; refine app1 rfl _ _ 26 rfl Try.underlying26 w2.heap.size _ _ _ ho rfl rfl (by rw [numL_length]; omega) hbel hbel.size ?_; intro v' w' ho' hbel' _)
            go_roundw
            case rel => exact ⟨k + 1, by omega, by go_num, by rw [HFS.out, numL_app]; exact ho', hbel'⟩
            case measure => simp [intOf]; omega
        · obtain rfl : k = 10 := by omega
          go_wp2_with fail
          go_ret
          have hs2 := hm2.size
          have hs1 := hb.size
          have hs3 : w1.heap.size ≤ w2.heap.size := hb2.size
          refine ⟨_, rfl, ?_, (hb.trans (hb2.mono hs1)).trans (hbel.mono (by omega))⟩
          rw [HNM.out] at ho
          have e : xs = numL (needsN ns j) := by rw [HXS.out]; unfold needsR; rw [if_pos ⟨HP.out, by omega, by omega⟩, Int.toNat_natCast]
          rw [e]
          exact ho.base (by omega)
    · rw [decide_eq_false hin]
      have e : xs = [] := by rw [HXS.out]; unfold needsR; rw [if_neg (fun h => hin ⟨h.2.1, h.2.2⟩)]
      subst e
      clear hin
      go_wp2_with fail
      go_ret
      exact ⟨_, rfl, OI.nil _ _, hb⟩
  · have e : xs = [] := by rw [HXS.out]; unfold needsR; rw [if_neg (by rw [hp]; simp)]
    subst e
    clear hp
    go_wp2_with fail
    go_ret
    exact ⟨_, rfl, OI.nil _ _, hb⟩

/-! ### The reference's slice of marks -/
theorem infoBool : (Try.prog.info? 4).map (fun i => (i.zero, i.size, i.bytes)) = some (some (.bool false), 1, 1) := by kernel_rfl
def OB (w : World) (B : Nat) (v : Value) (n : Nat) (s : Nat → Bool) : Prop := w.ownsRow B 4 1 v n ((List.range n).map fun x => .bool (s x))
theorem OB.mod {w w' : World} {lo A B n : Nat} {v : Value} {s : Nat → Bool} (h : OB w lo v n s) (hm : Mod A B w w') (hB : B ≤ lo) : OB w' lo v n s :=
  ownsRow_blk h fun k hk => hm.block k (World.ownsRow.lt h k hk).2 (by have := (World.ownsRow.lt h k hk).1; omega)
theorem OB.cell {w : World} {B g n c : Nat} {s : Nat → Bool} (h : OB w B (.slice (some ⟨g, 0, none⟩) n c) n s) {x : Nat} (hx : x < n) : w.cell? ⟨g, x, none⟩ = some (.bool (s x)) ∧ w.frozen? ⟨g, x, none⟩ = false :=
  ⟨by rw [World.ownsRow.cellAt h x (by omega)]; simp [hx], World.ownsRow.frozenAt h x⟩
theorem OB.set {w : World} {B g n c : Nat} {s : Nat → Bool} (h : OB w B (.slice (some ⟨g, 0, none⟩) n c) n s) (x : Nat) : OB (w.setCell ⟨g, x, none⟩ (.bool true)) B (.slice (some ⟨g, 0, none⟩) n c) n (fun y => s y || decide (y = x)) := by
  have := (World.ownsRow.stored h x (.bool true)).1
  unfold OB
  have e : ((List.range n).map fun x => Value.bool (s x)).set x (.bool true) = (List.range n).map fun y => Value.bool (s y || decide (y = x)) := by
    refine List.ext_getElem (by simp) fun i h1 h2 => ?_
    rw [List.getElem_set]
    by_cases e : x = i
    · subst e; simp
    · rw [if_neg e]
      have e' : decide (i = x) = false := decide_eq_false (fun h => e h.symm)
      simp [e']
  rw [e] at this
  exact this
theorem OB.congr {w : World} {B n : Nat} {v : Value} {s t : Nat → Bool} (h : OB w B v n s) (hst : ∀ x, s x = t x) : OB w B v n t := by
  rw [show t = s from funext fun x => (hst x).symm]; exact h

/-- `make([]bool, n)`. -/
theorem mkB {w w0 : World} {ops : Array Oper} {rest : List Oper} {o : Oper} {a : Act} {Q : Exit → Act → World → Prop}
    (hg : o.guard = none) (l c : Operand) (T : TypeId) (hop : o.op = Op.makeSlice T l c)
    (hT : Try.prog.underlying T = some (.slice 4)) (B n : Nat) (L C : Int) (hl : a.eval l = .int .i64 L) (hc : a.eval c = .int .i64 C) (hL : L = (n : Int)) (hC : C = (n : Int))
    (hlen : n < 17592186044416) (hbel : Below B w0 w) (hB : B ≤ w.heap.size)
    (hK : ∀ v' w', OB w' B v' n (fun _ => false) → v' = .slice (some ⟨w.heap.size, 0, none⟩) n n → Below B w0 w' → wpList Try.prog ops Q rest (a.put o.dst v') w') :
    wpList Try.prog ops Q (o :: rest) a w := by
  obtain ⟨i0, hi, hz0, hz1, hz2⟩ := info_parts infoBool
  obtain ⟨w', hrun, ho, hgr⟩ := run_make_full (P := Try.prog) w B T 4 i0 (.bool false) 1 hT hi hz0 hz1 .i64 .i64 n (by rw [hz2]; omega) (by unfold maxLen; omega) hB
  refine wpList_plain hg fun K hK' => ?_
  subst hL
  subst hC
  unfold Oper.wp
  simp [execOp, hop, hl, hc, hrun, Result.andThen]
  refine hK' _ w' (hK _ w' ?_ rfl (hbel.grown hgr hB (by simp)))
  unfold OB
  rw [Nat.mul_one] at ho
  have e : (madeCells (Value.bool false).cells n).toList = (List.range n).map fun _ => Value.bool false := by
    rw [show (Value.bool false).cells = #[.bool false] from rfl, toList_madeCells_one]
    refine List.ext_getElem (by simp) fun i h1 h2 => by simp
  rw [e] at ho
  exact ho
end Go.Proofs.Ythdhjlefkdfkkaa
