/- The program's ValuesOf: its two closures, what it computes. No condition. -/
import Derived.Test.YteelobokjidphaaValuesPure
import Derived.Test.YteelobokjidphaaBits
import Derived.Test.YteelobokjidphaaLawRows
import Derived.Test.YteelobokjidphaaCopy
import Derived.Test.YteelobokjidphaaGraphOf
namespace Go.Proofs.Yteelobokjidphaa
open Go.RowKit
set_option maxRecDepth 100000

theorem OV.blk {w w' : World} {A : Nat} {v : Value} {vs : List Value} (h : OV w A v vs) (hb : ∀ k, v.ownBlock = some k → w'.heap[k]? = w.heap[k]?) : OV w' A v vs := ownsRow_blk h hb
theorem GridD.blk {w w' : World} {B : Nat} {o : Value} {xss : List (List Int)} (h : GridD w B o xss) (hb : ∀ (k : Nat) (cs : Array Value) (t : TypeId), w.heap[k]? = some (Obj.cells cs t (0, 0)) → t = 24 ∨ t = 3 → w'.heap[k]? = w.heap[k]?) : GridD w' B o xss := by
  obtain ⟨vs, h1, h2, h3, h4⟩ := h
  refine ⟨vs, h1, h2.blk fun k hk => ?_, fun i hi => (h3 i hi).blk fun k hk => ?_, h4⟩
  · rcases h2.2 with ⟨rfl, _⟩ | ⟨g, cap, cur, rfl, _, hh, _⟩
    · cases hk
    · simp [Value.ownBlock] at hk
      subst hk
      exact hb _ _ _ hh (.inl rfl)
  · rcases (h3 i hi).2 with ⟨e, _⟩ | ⟨g, cap, cur, e, _, hh, _⟩
    · rw [e] at hk; cases hk
    · rw [e] at hk
      simp [Value.ownBlock] at hk
      subst hk
      exact hb _ _ _ hh (.inr rfl)

theorem cell_other {w : World} {g i b o : Nat} (V : Value) (h : ¬ b = g) : (w.setCell ⟨g, i, none⟩ V).cell? ⟨b, o, none⟩ = w.cell? ⟨b, o, none⟩ :=
  World.cell?_of_block (a := ⟨b, o, none⟩) (Below.heap_setCell _ _ _ _ (by exact h))
/-- What the closures find: the boxes of what they have caught, the rows as far as they are made. -/
structure Memo (w : World) (B P R M G F g hi : Nat) (vp : Value) (ns : List Nd) (xss : List (List Int)) (s : Nat → Bool) : Prop where
  p : w.heap[P]? = some (.cells #[vp] 27 (0, 0))
  r : w.heap[R]? = some (.cells #[.slice (some ⟨g, 0, none⟩) ns.length ns.length] 34 (0, 0))
  m : SB w M s
  gf : w.heap[G]? = some (.cells #[.func (Fn.func 64) #[] #[.pointer (some ⟨F, 0, none⟩)]] 75 (0, 0))
  ff : w.heap[F]? = some (.cells #[.func (Fn.func 62) #[] #[.pointer (some ⟨M, 0, none⟩), .pointer (some ⟨R, 0, none⟩), .pointer (some ⟨P, 0, none⟩), .pointer (some ⟨G, 0, none⟩)]] 77 (0, 0))
  grid : GridD w B (.slice (some ⟨g, 0, none⟩) ns.length ns.length) xss
  len : xss.length = ns.length
  plan : PL w hi vp ns
  gB : B ≤ g
  mB : B ≤ M
  hiB : hi ≤ B
  base : B ≤ w.heap.size

section
variable {w w' : World} {B P R M G F g hi : Nat} {vp : Value} {ns : List Nd} {xss : List (List Int)} {s : Nat → Bool}
theorem Memo.mod (h : Memo w B P R M G F g hi vp ns xss s) (hm : Mod 0 0 w w') : Memo w' B P R M G F g hi vp ns xss s := by
  have hb : ∀ k (o : Obj), w.heap[k]? = some o → w'.heap[k]? = some o := fun k o ho => (hm.block k (Array.getElem?_eq_some_iff.1 ho).1 (.inr (Nat.zero_le _))).trans ho
  exact ⟨hb _ _ h.p, hb _ _ h.r, hb _ _ h.m, hb _ _ h.gf, hb _ _ h.ff, h.grid.mod hm (Nat.zero_le _), h.len, h.plan.mod hm (.inr (Nat.zero_le _)), h.gB, h.mB, h.hiB, Nat.le_trans h.base hm.size⟩
/-- A row is laid down and marked. -/
theorem Memo.put {w1 w2 : World} (h : Memo w1 B P R M G F g hi vp ns xss s) (hb : Below w1.heap.size w1 w2) {u : Value} {xs : List Int} (hu : OI w2 w1.heap.size u xs) {i : Nat} (hi10 : i < 10) :
    Memo ((w2.setCell ⟨g, i, none⟩ u).setCell ⟨M, i, none⟩ (.bool true)) B P R M G F g hi vp ns (xss.set i xs) (fun y => s y || decide (y = i)) := by
  have h2 := h.mod (Mod.of_below hb)
  have hgrid := h.grid.put hb h.base hu i
  obtain ⟨vs, q1, q2, -⟩ := h2.grid
  have hgb' : ∀ (k : Nat) (cs : Array Value) (t : TypeId), w2.heap[k]? = some (Obj.cells cs t (0, 0)) → t ≠ 24 → k ≠ g := fun k cs t hk ht => by
    rcases q2.2 with ⟨e, _⟩ | ⟨g', cap, cur, e, _, hh, _⟩
    · cases e
    · simp only [Value.slice.injEq, Option.some.injEq, Addr.mk.injEq, and_true] at e
      obtain ⟨rfl, -, -⟩ := e
      intro e
      subst e
      rw [hh] at hk
      simp at hk
      exact ht hk.2.symm
  have hM := h2.m
  have k1 : ∀ (k : Nat) (cs : Array Value) (t : TypeId), w2.heap[k]? = some (Obj.cells cs t (0, 0)) → t ≠ 24 → t ≠ 74 → ((w2.setCell ⟨g, i, none⟩ u).setCell ⟨M, i, none⟩ (.bool true)).heap[k]? = some (Obj.cells cs t (0, 0)) := fun k cs t hk ht1 ht2 => by
    have hkM : k ≠ M := fun e => by subst e; unfold SB at hM; rw [hM] at hk; simp at hk; exact ht2 hk.2.symm
    rw [Below.heap_setCell _ _ _ _ (by exact hkM), Below.heap_setCell _ _ _ _ (by exact hgb' k cs t hk ht1)]
    exact hk
  have hM1 : SB (w2.setCell ⟨g, i, none⟩ u) M s := by
    unfold SB
    rw [Below.heap_setCell _ _ _ _ (by exact hgb' _ _ _ hM (by decide))]
    exact hM
  have hpl : Mod B ((w2.setCell ⟨g, i, none⟩ u).heap.size + g + M + 1) w2 ((w2.setCell ⟨g, i, none⟩ u).setCell ⟨M, i, none⟩ (.bool true)) :=
    (Mod.setCell (a := ⟨g, i, none⟩) h.gB (by show g < _; omega) u).trans (Mod.setCell (a := ⟨M, i, none⟩) h.mB (by show M < _; omega) _)
  exact ⟨k1 _ _ _ h2.p (by decide) (by decide), k1 _ _ _ h2.r (by decide) (by decide), hM1.set hi10, k1 _ _ _ h2.gf (by decide) (by decide), k1 _ _ _ h2.ff (by decide) (by decide),
    hgrid.blk fun k cs t hk ht => Below.heap_setCell _ _ _ _ (by
      show k ≠ M
      intro e
      subst e
      unfold SB at hM1
      rw [hM1] at hk
      simp at hk
      rcases ht with ht | ht <;> (rw [← hk.2] at ht; revert ht; decide)),
    by rw [List.length_set]; exact h.len, h2.plan.mod hpl (.inl h.hiB), h.gB, h.mB, h.hiB, Nat.le_trans h2.base hpl.size⟩
theorem Memo.ne (h : Memo w B P R M G F g hi vp ns xss s) : ¬ R = g ∧ ¬ M = g ∧ ¬ R = M ∧ ¬ G = g := by
  obtain ⟨vs, -, q2, -⟩ := h.grid
  have hgb' : ∀ (k : Nat) (cs : Array Value) (t : TypeId), w.heap[k]? = some (Obj.cells cs t (0, 0)) → t ≠ 24 → k ≠ g := fun k cs t hk ht => by
    rcases q2.2 with ⟨e, _⟩ | ⟨g', cap, cur, e, _, hh, _⟩
    · cases e
    · simp only [Value.slice.injEq, Option.some.injEq, Addr.mk.injEq, and_true] at e
      obtain ⟨rfl, -, -⟩ := e
      intro e
      subst e
      rw [hh] at hk
      simp at hk
      exact ht hk.2.symm
  refine ⟨hgb' _ _ _ h.r (by decide), hgb' _ _ _ h.m (by decide), fun e => ?_, hgb' _ _ _ h.gf (by decide)⟩
  have h1 := h.r
  have h2 := h.m
  unfold SB at h2
  rw [e, h2] at h1
  simp at h1
theorem Memo.row (h : Memo w B P R M G F g hi vp ns xss s) {k : Nat} (hk : k < ns.length) : ∃ u, w.cell? ⟨g, k, none⟩ = some u ∧ w.frozen? ⟨g, k, none⟩ = false ∧ OI w B u (xss.getD k []) ∧ g < w.heap.size := by
  obtain ⟨vs, h1, h2, h3, -⟩ := h.grid
  have hv : k < vs.length := by rw [h1, h.len]; exact hk
  obtain ⟨c1, c2⟩ := OV.cell h2 hv
  obtain ⟨g', c', e, -, hg, -⟩ := h2.at hv
  simp only [Value.slice.injEq, Option.some.injEq, Addr.mk.injEq, and_true] at e
  obtain ⟨rfl, -, -⟩ := e
  exact ⟨_, c1, c2, h3 k hv, hg⟩
end

set_option maxHeartbeats 1000000 in
theorem rowOf_made {w : World} {B P R M G F g hi : Nat} {vp : Value} {ns : List Nd} {xss : List (List Int)} {s : Nat → Bool} (h : Memo w B P R M G F g hi vp ns xss s) (k : Nat) (hk : k < ns.length) (hn : ns.length ≤ 10) (hs : s k = true) (u : Value) (cu : w.cell? ⟨g, k, none⟩ = some u) :
    Calls Try.prog 62 #[.int .i64 k, .pointer (some ⟨M, 0, none⟩), .pointer (some ⟨R, 0, none⟩), .pointer (some ⟨P, 0, none⟩), .pointer (some ⟨G, 0, none⟩)] w
      fun e w' => e = .returned u ∧ w = w' := by
  have hk10 : k < 10 := by omega
  have cm := h.m.cell hk10
  rw [hs] at cm
  have cr := cell_of_one h.r
  have k0 : (0 : Int) ≤ (k : Int) := by omega
  have k1 : (k : Int) < (ns.length : Int) := by omega
  have k2 : (k : Int) < 10 := by omega
  go_enter Try.func62, Try.ntmps62
  go_wp2_with fail
  go_ret
  exact ⟨rfl, rfl⟩

set_option maxHeartbeats 2000000 in
theorem gather_any {w : World} {B P R M G F g hi : Nat} {vp : Value} {ns : List Nd} {xss : List (List Int)} {s : Nat → Bool} (h : Memo w B P R M G F g hi vp ns xss s) (hn : ns.length ≤ 10) (vf : Value) (fs : List Int) (hf : RL w vf fs)
    (hfs : ∀ q, q < fs.length → 0 ≤ fs.getD q 0 ∧ fs.getD q 0 < ns.length ∧ s (fs.getD q 0).toNat = true) (hl : fs.length ≤ 1000) :
    Calls Try.prog 64 #[vf, .pointer (some ⟨F, 0, none⟩)] w fun e w' => ∃ vo, e = .returned vo ∧ RS w' w'.heap.size vo (pickR xss fs) ∧ Below w.heap.size w w' := by
  obtain ⟨a, c, rfl, h1, h2, h3⟩ := hf
  unfold maxLen at h2
  have H3 := hid h3
  have HFS := hid hfs
  have H := hid h
  clear h3 hfs h
  go_enter Try.func64, Try.ntmps64
  go_wp2_with (at_make; refine mkV rfl _ _ 34 rfl Try.underlying34 w.heap.size fs.length _ _ rfl rfl rfl rfl (by omega) (Below.refl _ _) (Nat.le_refl _) ?_; intro v' w1 ho rfl hbel _)
  go_loopw [12] (fun i wr => ∃ k : Nat, k ≤ fs.length ∧ i = .int .i64 k ∧ (∃ us : List Value, us.length = fs.length ∧ OV wr w.heap.size (.slice (some ⟨w.heap.size, 0, none⟩) fs.length fs.length) us ∧ ∀ j, j < k → RR wr w.heap.size (us.getD j undef) ((pickR xss fs).getD j [])) ∧ Below w.heap.size w wr)
    (fun i _ => fs.length - (intOf i).toNat)
  case atStart => exact ⟨0, Nat.zero_le _, rfl, ⟨_, by simp, ho, fun j hj => by omega⟩, hbel⟩
  case round =>
    clear ho hbel
    obtain ⟨k, hk, rfl, ⟨us, hul, hov, hall⟩, hbel⟩ := hrel
    by_cases hlt : k < fs.length
    · obtain ⟨b, o, rfl, hb, hc⟩ := H3.out k hlt
      rw [← hbel.cell (p := ⟨b, o + k, none⟩) hb] at hc
      obtain ⟨q0, q1, q2⟩ := HFS.out k hlt
      have hpg := pickR_get (rows := xss) hlt
      obtain ⟨f, hfe⟩ := Int.eq_ofNat_of_zero_le q0
      rw [hfe] at hc q1 q2 hpg
      rw [Int.toNat_natCast] at q2 hpg
      have hM := H.out.mod (Mod.of_below hbel)
      have cf := cell_of_one hM.ff
      obtain ⟨u, cu, -, ou, hgl⟩ := H.out.row (k := f) (by omega)
      rw [← hbel.cell (p := ⟨g, f, none⟩) hgl] at cu
      obtain ⟨xs, hxs⟩ : ∃ xs, xs = xss.getD f [] := ⟨_, rfl⟩
      rw [← hxs] at ou
      have HXS := hid hxs
      clear hxs
      have RU := hid (ou.rr.mod (Mod.of_below hbel) (.inr (Nat.zero_le _)))
      obtain ⟨au, cu', rfl, -⟩ := id ou.rl
      obtain ⟨d1, d2⟩ := OV.cell hov (i := k) (by omega)
      have k0 : (0 : Int) ≤ (k : Int) := by omega
      have k1 : (k : Int) < (fs.length : Int) := by omega
      have HFE := hid hfe
      have HPG := hid hpg
      have HALL := hid hall
      have HUL := hid hul
      have HOV := hid hov
      clear hfe hpg hall hul hov
      go_wp2_with (first
        | (go_at_call 62; refine (rowOf_made hM f (by omega) hn q2 _ cu).mono ?_; rintro e _ ⟨rfl, rfl⟩)
        | fail)
      go_roundw
      case rel =>
        refine ⟨k + 1, by omega, by go_num, ⟨us.set k (.slice au xs.length cu'), by rw [List.length_set]; exact HUL.out, HOV.out.set k _, fun j hj => ?_⟩, hbel.setCell (Nat.le_refl _) _⟩
        have hul := HUL.out
        have mS : Mod w.heap.size (w.heap.size + 1) wr (wr.setCell ⟨w.heap.size, k, none⟩ (.slice au xs.length cu')) := Mod.setCell (a := ⟨w.heap.size, k, none⟩) (Nat.le_refl _) (Nat.lt_succ_self _) _
        by_cases e : j = k
        · subst e
          have e1 : (us.set j (.slice au xs.length cu')).getD j undef = .slice au xs.length cu' := by simp [show j < us.length by omega]
          rw [e1, HPG.out, ← HXS.out]
          exact RU.out.mod mS (.inl (Nat.le_refl _))
        · have e1 : (us.set k (.slice au xs.length cu')).getD j undef = us.getD j undef := by simp [show ¬ k = j from fun e' => e e'.symm]
          rw [e1]
          exact (HALL.out j (by omega)).mod mS (.inl (Nat.le_refl _))
      case measure => simp [intOf]; omega
    · obtain rfl : k = fs.length := by omega
      go_wp2_with fail
      go_ret
      refine ⟨_, rfl, ?_, hbel⟩
      exact hov.rs (by rw [hul, pickR_length]) rfl fun i hi => (hall i (by omega)).up hbel.size (Nat.le_refl _)

set_option maxHeartbeats 4000000 in
theorem rowOf_new {w : World} {B P R M G F g hi : Nat} {vp : Value} {ns : List Nd} {xss : List (List Int)} {s : Nat → Bool} (h : Memo w B P R M G F g hi vp ns xss s) (k : Nat) (hk : k < ns.length) (hp : planB ns = true) (hs : s k = false) (hprev : ∀ i, i < k → s i = true) :
    Calls Try.prog 62 #[.int .i64 k, .pointer (some ⟨M, 0, none⟩), .pointer (some ⟨R, 0, none⟩), .pointer (some ⟨P, 0, none⟩), .pointer (some ⟨G, 0, none⟩)] w
      fun e w' => (∃ u, e = .returned u) ∧ Memo w' B P R M G F g hi vp ns (xss.set k (stepL (ns.getD k nd0) xss)) (fun y => s y || decide (y = k)) ∧ Below B w w' := by
  have hn := planB_len hp
  obtain ⟨p1, p2, p3⟩ := node_parts hp hk
  have hk10 : k < 10 := by omega
  have cm := h.m.cell hk10
  rw [hs] at cm
  have cr := cell_of_one h.r
  have cp := cell_of_one h.p
  have cg := cell_of_one h.gf
  have k0 : (0 : Int) ≤ (k : Int) := by omega
  have k1 : (k : Int) < (ns.length : Int) := by omega
  have k2 : (k : Int) < 10 := by omega
  have H := hid h
  obtain ⟨a, c, rfl, -, -, hsz, hnd⟩ := id h.plan
  obtain ⟨b, o, f, r, rfl, hb, c0, c1, c2, hf, hr⟩ := hnd k hk
  obtain ⟨nd, hnde⟩ : ∃ nd, nd = ns.getD k nd0 := ⟨_, rfl⟩
  rw [← hnde] at c0 hf hr p1 p2 p3 ⊢
  obtain ⟨kd, fs, row⟩ := nd
  simp only at c0 hf hr p1 p2 p3
  obtain ⟨af, cf, rfl, -⟩ := id hf
  obtain ⟨ar, cr', rfl, -⟩ := id hr
  have mA := Mod.alloc w (.cells #[.int .i64 kd, .slice af fs.length cf, .slice ar row.length cr'] 48)
  obtain ⟨X, hX⟩ : ∃ X, X = w.alloc (.cells #[.int .i64 kd, .slice af fs.length cf, .slice ar row.length cr'] 48) := ⟨_, rfl⟩
  rw [← hX] at mA
  have HX := hid hX
  by_cases hz : kd = 0
  · have hst : stepL ⟨kd, fs, row⟩ xss = row := by unfold stepL; rw [if_pos hz]
    rw [hst]
    subst hz
    have hrl := rvB_len (p3 rfl).1
    have x2 : X.drew.cell? ⟨w.heap.size, 2, none⟩ = some (.slice ar row.length cr') := by
      show X.cell? _ = _
      rw [hX, cell_of_row _ w.heap.size 2 _ _ _ (heap_alloc_new w _)]; rfl
    have l0 : w.heap.size < X.drew.heap.size := by show _ < X.heap.size; rw [hX, World.size_alloc]; exact Nat.lt_succ_self _
    have mX : Mod 0 0 w X.drew := mA.trans (Mod.drewN X 1)
    have crX := cell_of_one (h.mod mX).r
    obtain ⟨n1, n2, n3, n4⟩ := h.ne
    have n2' : ¬ g = M := fun e => n2 e.symm
    have n5 : ¬ w.heap.size = g := by obtain ⟨_, _, _, _, hgl⟩ := h.row hk; omega
    have hrX := (hr.mod mX (.inr (Nat.zero_le _))).rl
    clear hX hnd h p1 p2 p3 hst
    go_enter Try.func62, Try.ntmps62
    go_wp2_with fail
    rw [← HX.out]
    go_region_held3 (fun w' => w'.cell? ⟨R, 0, none⟩ = some (.slice (some ⟨g, 0, none⟩) ns.length ns.length) ∧ w'.cell? ⟨w.heap.size, 2, none⟩ = some (.slice ar row.length cr'))
      (first | go_keep | exact ⟨kr5 _, kx5 _⟩)
      (first
        | ((go_at_call 63; refine (copyInts_any _ row X.drew hrX (by omega)).mono ?_; rintro e w5 ⟨vo, rfl, ho5, hb5⟩
            obtain ⟨a5, c5, rfl, -⟩ := id ho5.rl
            have HO5 := hid ho5
            have HM5 := hid ((H.out.mod mX).mod (Mod.of_below hb5))
            obtain ⟨u5, gc5, gz5, -, gl5⟩ := HM5.out.row hk
            have cr5 := cell_of_one HM5.out.r
            have cm5 := HM5.out.m.cell hk10
            have zm5 := HM5.out.m.frozen k
            rw [hs] at cm5
            have xc5 := (hb5.cell (p := ⟨w.heap.size, 2, none⟩) l0).trans x2
            have kr5 : ∀ V, (w5.setCell ⟨g, k, none⟩ V).cell? ⟨R, 0, none⟩ = some (.slice (some ⟨g, 0, none⟩) ns.length ns.length) := fun V => (cell_other V n1).trans cr5
            have kx5 : ∀ V, (w5.setCell ⟨g, k, none⟩ V).cell? ⟨w.heap.size, 2, none⟩ = some (.slice ar row.length cr') := fun V => (cell_other V n5).trans xc5
            clear ho5))
        | fail)
    have HP := hid ((H.out.mod mX).put hb5 HO5.out hk10)
    have HB5 : Hid (Below B w ((w5.setCell ⟨g, k, none⟩ (.slice a5 row.length c5)).setCell ⟨M, k, none⟩ (.bool true))) := hid ((((Mod.of_below hb5).below0 (mX.below0 (Below.refl B w) H.out.base) (Nat.le_trans H.out.base mX.size)).setCell (by exact H.out.gB) _).setCell (by exact H.out.mB) _)
    go_wp2_with fail
    go_ret
    exact ⟨⟨_, rfl⟩, HP.out, HB5.out⟩
  · have hst : stepL ⟨kd, fs, row⟩ xss = krL kd (pickR xss fs) := by unfold stepL; rw [if_neg hz]
    rw [hst]
    have hne : (kd == 0) = false := by simpa using hz
    have hfs : ∀ q, q < fs.length → 0 ≤ fs.getD q 0 ∧ fs.getD q 0 < ns.length ∧ s (fs.getD q 0).toNat = true := fun q hq => by
      have := p2 q hq
      exact ⟨this.1, by omega, hprev _ (by omega)⟩
    have hfl : fs.length ≤ 1000 := by have := knI_le kd; omega
    have x0 : X.drew.cell? ⟨w.heap.size, 0, none⟩ = some (.int .i64 kd) := by
      show X.cell? _ = _
      rw [hX, cell_of_row _ w.heap.size 0 _ _ _ (heap_alloc_new w _)]; rfl
    have x1 : X.drew.cell? ⟨w.heap.size, 1, none⟩ = some (.slice af fs.length cf) := by
      show X.cell? _ = _
      rw [hX, cell_of_row _ w.heap.size 1 _ _ _ (heap_alloc_new w _)]; rfl
    have l0 : w.heap.size < X.drew.heap.size := by show _ < X.heap.size; rw [hX, World.size_alloc]; exact Nat.lt_succ_self _
    have mX : Mod 0 0 w X.drew := mA.trans (Mod.drewN X 1)
    have crX := cell_of_one (h.mod mX).r
    have cgX := cell_of_one (h.mod mX).gf
    obtain ⟨n1, n2, n3, n4⟩ := h.ne
    have n2' : ¬ g = M := fun e => n2 e.symm
    have n5 : ¬ w.heap.size = g := by obtain ⟨_, _, _, _, hgl⟩ := h.row hk; omega
    have hfX := (hf.mod mX (.inr (Nat.zero_le _))).rl
    have HFS := hid hfs
    have HXS := hid hX
    have HZ := hid hz
    clear hX hnd h p1 p2 p3 hst hfs hz
    go_enter Try.func62, Try.ntmps62
    go_wp2_with fail
    rw [← HX.out]
    go_region_held3 (fun w' => w'.cell? ⟨R, 0, none⟩ = some (.slice (some ⟨g, 0, none⟩) ns.length ns.length) ∧ w'.cell? ⟨G, 0, none⟩ = some (.func (Fn.func 64) #[] #[.pointer (some ⟨F, 0, none⟩)]) ∧ w'.cell? ⟨w.heap.size, 0, none⟩ = some (.int .i64 kd) ∧ w'.cell? ⟨w.heap.size, 1, none⟩ = some (.slice af fs.length cf))
      (first | go_keep | exact ⟨kr6 _, kg6 _, kx6 _, ky6 _⟩)
      (first
        | ((go_at_call 64; refine (gather_any (H.out.mod mX) hn _ fs hfX HFS.out hfl).mono ?_; rintro e w5 ⟨vo, rfl, ho5, hb5⟩
            obtain ⟨a5, c5, rfl, -⟩ := id ho5
            have HM5 := hid ((H.out.mod mX).mod (Mod.of_below hb5))
            have cr5 := cell_of_one HM5.out.r
            have cg5 := cell_of_one HM5.out.gf
            have xc5 := (hb5.cell (p := ⟨w.heap.size, 0, none⟩) l0).trans x0
            have xd5 := (hb5.cell (p := ⟨w.heap.size, 1, none⟩) l0).trans x1
            have l5 := Nat.lt_of_lt_of_le l0 hb5.size))
        | ((go_at_call 47; refine (ikr_any kd _ _ (pickR xss fs) w5 ho5).mono ?_; rintro e w6 ⟨vr, rfl, ho6, hb6⟩
            obtain ⟨a6, c6, rfl, -⟩ := id ho6.rl
            have HO6 := hid ho6
            have HM6 := hid (HM5.out.mod (Mod.of_below hb6))
            obtain ⟨u6, gc6, gz6, -, gl6⟩ := HM6.out.row hk
            have cr6 := cell_of_one HM6.out.r
            have cg6 := cell_of_one HM6.out.gf
            have cm6 := HM6.out.m.cell hk10
            have zm6 := HM6.out.m.frozen k
            rw [hs] at cm6
            have xc6 := (hb6.cell (p := ⟨w.heap.size, 0, none⟩) l5).trans xc5
            have xd6 := (hb6.cell (p := ⟨w.heap.size, 1, none⟩) l5).trans xd5
            have kr6 : ∀ V, (w6.setCell ⟨g, k, none⟩ V).cell? ⟨R, 0, none⟩ = some (.slice (some ⟨g, 0, none⟩) ns.length ns.length) := fun V => (cell_other V n1).trans cr6
            have kg6 : ∀ V, (w6.setCell ⟨g, k, none⟩ V).cell? ⟨G, 0, none⟩ = some (.func (Fn.func 64) #[] #[.pointer (some ⟨F, 0, none⟩)]) := fun V => (cell_other V n4).trans cg6
            have kx6 : ∀ V, (w6.setCell ⟨g, k, none⟩ V).cell? ⟨w.heap.size, 0, none⟩ = some (.int .i64 kd) := fun V => (cell_other V n5).trans xc6
            have ky6 : ∀ V, (w6.setCell ⟨g, k, none⟩ V).cell? ⟨w.heap.size, 1, none⟩ = some (.slice af fs.length cf) := fun V => (cell_other V n5).trans xd6
            clear ho6))
        | fail)
    have HP := hid (HM5.out.put hb6 HO6.out hk10)
    have hb56 := ((Mod.of_below hb5).below0 (mX.below0 (Below.refl B w) H.out.base) (Nat.le_trans H.out.base mX.size))
    have HB6 : Hid (Below B w ((w6.setCell ⟨g, k, none⟩ (.slice a6 (krL kd (pickR xss fs)).length c6)).setCell ⟨M, k, none⟩ (.bool true))) := hid ((((Mod.of_below hb6).below0 hb56 HM5.out.base).setCell (by exact H.out.gB) _).setCell (by exact H.out.mB) _)
    go_wp2_with fail
    go_ret
    exact ⟨⟨_, rfl⟩, HP.out, HB6.out⟩

set_option maxRecDepth 100000

/-- The rows as far as they are made; behind them empty ones. -/
def fillV (ns : List Nd) (k : Nat) : List (List Int) := valsN ns k ++ List.replicate (ns.length - k) []
theorem fillV_zero (ns : List Nd) : fillV ns 0 = List.replicate ns.length [] := by simp [fillV, valsN]
theorem fillV_all (ns : List Nd) : fillV ns ns.length = valsN ns ns.length := by simp [fillV]
theorem fillV_get {ns : List Nd} {k i : Nat} (h : i < k) : (fillV ns k).getD i [] = (valsN ns k).getD i [] := by
  have : i < (valsN ns k).length := by rw [valsN_length]; exact h
  unfold fillV
  rw [List.getD, List.getElem?_append_left this]
  rfl
theorem fillV_set {ns : List Nd} (h : planB ns = true) {k : Nat} (hk : k < ns.length) : (fillV ns k).set k (stepL (ns.getD k nd0) (fillV ns k)) = fillV ns (k + 1) := by
  obtain ⟨-, p2, -⟩ := node_parts h hk
  have e : pickR (fillV ns k) (ns.getD k nd0).fs = pickR (valsN ns k) (ns.getD k nd0).fs := pickR_congr fun q hq => by
    have := p2 q hq
    exact fillV_get (by omega)
  have e2 : stepL (ns.getD k nd0) (fillV ns k) = stepL (ns.getD k nd0) (valsN ns k) := by unfold stepL; rw [e]
  rw [e2]
  have hl : (valsN ns k).length = k := valsN_length ns k
  have er : List.replicate (ns.length - k) ([] : List Int) = [] :: List.replicate (ns.length - (k + 1)) [] := by
    rw [show ns.length - k = (ns.length - (k + 1)) + 1 by omega, List.replicate_succ]
  unfold fillV
  rw [List.set_append_right _ _ (by omega), hl, Nat.sub_self, er, List.set_cons_zero]
  show _ = (valsN ns k ++ [_]) ++ _
  rw [List.append_assoc]
  rfl

/-- What ValuesOf hands back. -/
def Valued (w : World) (ns : List Nd) (e : Ending) (w' : World) : Prop :=
  ∃ vo, e = .returned (.tuple #[vo, .bool (planB ns)]) ∧ GridD w' w.heap.size vo (valsR ns) ∧ Below w.heap.size w w'
theorem GridD.nil (w : World) (B : Nat) : GridD w B (.slice none 0 0) [] :=
  ⟨[], rfl, World.ownsRow_nil _ _ _ _, fun i hi => by simp at hi, fun i j b hi => by simp at hi⟩

/-- The four boxes, laid behind the slice of the rows. -/
def boxed (w3 : World) (P g n : Nat) : World :=
  (((w3.alloc (.cells #[.slice (some ⟨g, 0, none⟩) n n] 34)).alloc (.cells #[.bool false, .bool false, .bool false, .bool false, .bool false, .bool false, .bool false, .bool false, .bool false, .bool false] 74)).alloc
    (.cells #[.func (Fn.func 64) #[] #[.pointer (some ⟨w3.heap.size + 1 + 1 + 1, 0, none⟩)]] 75)).alloc
    (.cells #[.func (Fn.func 62) #[] #[.pointer (some ⟨w3.heap.size + 1, 0, none⟩), .pointer (some ⟨w3.heap.size, 0, none⟩), .pointer (some ⟨P, 0, none⟩), .pointer (some ⟨w3.heap.size + 1 + 1, 0, none⟩)]] 77)
theorem boxed_mod (w3 : World) (P g n : Nat) : Mod 0 0 w3 (boxed w3 P g n) := (((Mod.alloc _ _).trans (Mod.alloc _ _)).trans (Mod.alloc _ _)).trans (Mod.alloc _ _)
theorem boxed_memo {w3 : World} {B P g hi : Nat} {vp : Value} {ns : List Nd} (hp : w3.heap[P]? = some (.cells #[vp] 27 (0, 0))) (ho : OV w3 B (.slice (some ⟨g, 0, none⟩) ns.length ns.length) (List.replicate ns.length (.slice none 0 0)))
    (hpl : PL w3 hi vp ns) (gB : B ≤ g) (hiB : hi ≤ B) (hB : B ≤ w3.heap.size) :
    Memo (boxed w3 P g ns.length) B P w3.heap.size (w3.heap.size + 1) (w3.heap.size + 1 + 1) (w3.heap.size + 1 + 1 + 1) g hi vp ns (fillV ns 0) (fun y => decide (y < 0)) := by
  have m := boxed_mod w3 P g ns.length
  have old : ∀ {w : World} {k : Nat} {o o' : Obj}, w.heap[k]? = some o' → (w.alloc o).heap[k]? = some o' := fun {w k o o'} h => (heap_alloc_old w o (Array.getElem?_eq_some_iff.1 h).1).trans h
  have e1 := World.size_alloc w3 (.cells #[.slice (some ⟨g, 0, none⟩) ns.length ns.length] 34)
  have hg : GridD w3 B (.slice (some ⟨g, 0, none⟩) ns.length ns.length) (fillV ns 0) := by
    have hl : (fillV ns 0).length = ns.length := by rw [fillV_zero]; simp
    have := GridD.made (w := w3) (B := B) (v := .slice (some ⟨g, 0, none⟩) ns.length ns.length) (xss := fillV ns 0) (by rw [hl]; exact ho)
    rw [part_zero, hl] at this
    rw [fillV_zero]
    exact this
  refine ⟨?_, ?_, ?_, ?_, ?_, hg.mod m (Nat.zero_le _), by rw [fillV_zero]; simp, hpl.mod m (.inr (Nat.zero_le _)), gB, by omega, hiB, Nat.le_trans hB m.size⟩
  · exact (m.block _ (Array.getElem?_eq_some_iff.1 hp).1 (.inr (Nat.zero_le _))).trans hp
  · exact old (old (old (heap_alloc_new _ _)))
  · have h : ((w3.alloc (.cells #[.slice (some ⟨g, 0, none⟩) ns.length ns.length] 34)).alloc (.cells #[.bool false, .bool false, .bool false, .bool false, .bool false, .bool false, .bool false, .bool false, .bool false, .bool false] 74)).heap[w3.heap.size + 1]? = some (.cells #[.bool false, .bool false, .bool false, .bool false, .bool false, .bool false, .bool false, .bool false, .bool false, .bool false] 74 (0, 0)) := by
      have := heap_alloc_new (w3.alloc (.cells #[.slice (some ⟨g, 0, none⟩) ns.length ns.length] 34)) (.cells #[.bool false, .bool false, .bool false, .bool false, .bool false, .bool false, .bool false, .bool false, .bool false, .bool false] 74)
      rw [e1] at this
      exact this
    exact old (old h)
  · refine old ?_
    have := heap_alloc_new ((w3.alloc (.cells #[.slice (some ⟨g, 0, none⟩) ns.length ns.length] 34)).alloc (.cells #[.bool false, .bool false, .bool false, .bool false, .bool false, .bool false, .bool false, .bool false, .bool false, .bool false] 74)) (.cells #[.func (Fn.func 64) #[] #[.pointer (some ⟨w3.heap.size + 1 + 1 + 1, 0, none⟩)]] 75)
    rw [World.size_alloc, World.size_alloc] at this
    exact this
  · have := heap_alloc_new (((w3.alloc (.cells #[.slice (some ⟨g, 0, none⟩) ns.length ns.length] 34)).alloc (.cells #[.bool false, .bool false, .bool false, .bool false, .bool false, .bool false, .bool false, .bool false, .bool false, .bool false] 74)).alloc
      (.cells #[.func (Fn.func 64) #[] #[.pointer (some ⟨w3.heap.size + 1 + 1 + 1, 0, none⟩)]] 75))
      (.cells #[.func (Fn.func 62) #[] #[.pointer (some ⟨w3.heap.size + 1, 0, none⟩), .pointer (some ⟨w3.heap.size, 0, none⟩), .pointer (some ⟨P, 0, none⟩), .pointer (some ⟨w3.heap.size + 1 + 1, 0, none⟩)]] 77)
    rw [World.size_alloc, World.size_alloc, World.size_alloc] at this
    exact this

set_option maxHeartbeats 4000000 in
theorem ivalues_any (v : Value) (ns : List Nd) (hi : Nat) (w : World) (h : PL w hi v ns) :
    Calls Try.prog 27 #[v] w (Valued w ns) := by
  obtain ⟨R, hR⟩ : ∃ R, R = valsR ns := ⟨_, rfl⟩
  unfold Valued
  rw [← hR]
  have HR := hid hR
  obtain ⟨a, c, rfl, -, -, hsz, -⟩ := id h
  have mA := Mod.alloc w (.cells #[.slice a ns.length c] 27)
  obtain ⟨X, hX⟩ : ∃ X, X = w.alloc (.cells #[.slice a ns.length c] 27) := ⟨_, rfl⟩
  rw [← hX] at mA
  have x0 : X.heap[w.heap.size]? = some (.cells #[.slice a ns.length c] 27 (0, 0)) := by rw [hX]; exact heap_alloc_new w _
  have l0 : X.heap.size = w.heap.size + 1 := by rw [hX, World.size_alloc]
  have HX := hid hX
  clear hR hX
  cases hpb : planB ns
  · have eR : R = [] := by rw [HR.out, valsR_no hpb]
    subst eR
    have HPB := hid hpb
    clear hpb
    go_enter Try.func27, Try.ntmps27
    go_wp2_with fail
    rw [← HX.out]
    refine (iplan_any _ ns hi X (h.mod mA (.inr (Nat.zero_le _)))).mono ?_
    rintro e w2 ⟨rfl, m2⟩
    rw [HPB.out]
    go_wp2_with fail
    go_ret2
    exact ⟨_, rfl, GridD.nil _ _, (mA.trans m2).below0 (Below.refl _ _) (Nat.le_refl _)⟩
  · have hn := planB_len hpb
    have HPB := hid hpb
    clear hpb
    go_enter Try.func27, Try.ntmps27
    go_wp2_with fail
    rw [← HX.out]
    refine (iplan_any _ ns hi X (h.mod mA (.inr (Nat.zero_le _)))).mono ?_
    rintro e w2 ⟨rfl, m2⟩
    rw [HPB.out]
    have m02 := mA.trans m2
    have p2 := (m2.block w.heap.size (by omega) (.inr (Nat.zero_le _))).trans x0
    have cp2 := cell_of_one p2
    have s2 := m2.size
    have hpl2 : PL w2 hi (.slice a ns.length c) ns := h.mod m02 (.inr (Nat.zero_le _))
    have HPL2 := hid hpl2
    clear hpl2 h
    go_wp2_with (first
      | (at_make; refine mkV rfl _ _ 34 rfl Try.underlying34 w2.heap.size ns.length _ _ rfl rfl rfl rfl (by omega) (Below.refl _ _) (Nat.le_refl _) ?_; intro v' w3 ho rfl hb3 _
         have m3 := Mod.of_below hb3
         have hM := boxed_memo (P := w.heap.size) ((m3.block w.heap.size (by omega) (.inr (Nat.zero_le _))).trans p2) (ho.base (show w.heap.size ≤ w2.heap.size by omega)) (HPL2.out.mod m3 (.inr (Nat.zero_le _))) (by omega) hsz (by have := m3.size; omega)
         have cpY := cell_of_one hM.p
         unfold boxed at cpY)
      | fail)
    have mY := (m02.trans m3).trans (boxed_mod w3 w.heap.size w2.heap.size ns.length)
    have hbY := mY.below0 (Below.refl w.heap.size w) (Nat.le_refl _)
    obtain ⟨R', hR'⟩ : ∃ R', R' = w3.heap.size := ⟨_, rfl⟩
    have HM := hid hM
    have HBY := hid hbY
    unfold boxed at HM HBY
    clear hM hbY cpY mY m3 hb3 ho cp2 p2 m02 m2 mA hR'
    go_loopw [19] (fun i wr => ∃ k : Nat, k ≤ ns.length ∧ i = .int .i64 k ∧ Memo wr w.heap.size w.heap.size w3.heap.size (w3.heap.size + 1) (w3.heap.size + 1 + 1) (w3.heap.size + 1 + 1 + 1) w2.heap.size hi (.slice a ns.length c) ns (fillV ns k) (fun y => decide (y < k)) ∧ Below w.heap.size w wr)
      (fun i _ => ns.length - (intOf i).toNat)
    case atStart => exact ⟨0, Nat.zero_le _, rfl, HM.out, HBY.out⟩
    case round =>
      clear HM HBY
      obtain ⟨k, hk, rfl, hM, hb⟩ := hrel
      by_cases hlt : k < ns.length
      · have cfF := cell_of_one hM.ff
        have HS := hid (fillV_set HPB.out hlt)
        have HM := hid hM
        clear hM
        go_wp2_with (first
          | (go_at_call 62; refine (rowOf_new HM.out k hlt HPB.out (by simp) (fun i hi => by simp [hi])).mono ?_; rintro e w5 ⟨⟨u, rfl⟩, hM5, hb5⟩
             have HM5 := hid hM5
             clear hM5)
          | fail)
        go_roundw
        case rel =>
          refine ⟨k + 1, by omega, by go_num, ?_, hb.trans hb5⟩
          have := HM5.out
          rw [HS.out] at this
          have e : (fun y => decide (y < k) || decide (y = k)) = fun y => decide (y < k + 1) := by
            funext y
            rw [← Bool.decide_or, decide_eq_decide]
            omega
          rw [e] at this
          exact this
        case measure => simp [intOf]; omega
      · obtain rfl : k = ns.length := by omega
        have crR := cell_of_one hM.r
        have HM := hid hM
        clear hM
        go_wp2_with fail
        go_ret2
        refine ⟨_, rfl, ?_, hb⟩
        rw [HR.out, valsR_of HPB.out, ← fillV_all]
        exact HM.out.grid
end Go.Proofs.Yteelobokjidphaa
