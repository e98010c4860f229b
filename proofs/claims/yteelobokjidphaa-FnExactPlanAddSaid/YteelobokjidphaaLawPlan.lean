/- The contracts of the statements' own helpers over plans: copy, mark, held. No condition. -/
import Derived.Test.YteelobokjidphaaOwnMore
import Derived.Test.YteelobokjidphaaLawCopy
namespace Go.Proofs.Yteelobokjidphaa
open Go.RowKit
set_option maxRecDepth 100000

theorem setCells_size (w : World) (a b c : Addr) (x y z : Value) : (((w.setCell a x).setCell b y).setCell c z).heap.size = w.heap.size := by simp

set_option maxHeartbeats 2000000 in
theorem toNodes_any (v : Value) (ns : List Nd) (hi : Nat) (w : World) (h : PL w hi v ns) (hlen : ns.length ≤ 1048576) (hl : ∀ i, i < ns.length → ((ns.getD i nd0).fs.length : Int) ≤ 1048576 ∧ ((ns.getD i nd0).row.length : Int) ≤ 1048576) :
    Calls Try.prog 19 #[v] w (fun e w' => ∃ vo, e = .returned vo ∧ PR True w' w.heap.size w'.heap.size vo ns ∧ Below w.heap.size w w') := by
  obtain ⟨a, c, rfl, h1, h2, hs, h3⟩ := h
  unfold maxLen at h2
  have H3 := hid h3
  clear h3
  go_enter Try.func19, Try.ntmps19
  go_wp2_with (at_make; refine mkN rfl _ _ 27 rfl Try.underlying27 w.heap.size ns.length _ _ rfl rfl rfl rfl (by omega) (Below.refl _ _) (Nat.le_refl _) ?_; intro v' w1 ho rfl hbel _)
  go_loopw [4] (fun i wr => ∃ k : Nat, k ≤ ns.length ∧ i = .int .i64 k ∧ PR True wr w.heap.size wr.heap.size (.slice (some ⟨w.heap.size, 0, none⟩) ns.length ns.length) (partN ns k) ∧ Below w.heap.size w wr)
    (fun i _ => ns.length - (intOf i).toNat)
  case atStart => exact ⟨0, Nat.zero_le _, rfl, by rw [partN_zero]; exact ho, hbel⟩
  case round =>
    clear ho hbel
    obtain ⟨k, hk, rfl, ho, hbel⟩ := hrel
    by_cases hlt : k < ns.length
    · obtain ⟨b, o, f, r, rfl, hb, c0, c1, c2, hf, hr⟩ := H3.out k hlt
      have hm := Mod.of_below hbel
      have hk0 := hm.block b (Nat.lt_of_lt_of_le hb hs) (.inr (Nat.zero_le _))
      replace c0 := (World.cell?_of_block (a := ⟨b, o + k * 3, none⟩) hk0).trans c0
      replace c1 := (World.cell?_of_block (a := ⟨b, o + k * 3 + 1, none⟩) hk0).trans c1
      replace c2 := (World.cell?_of_block (a := ⟨b, o + k * 3 + 2, none⟩) hk0).trans c2
      replace hf := hf.mod hm (.inr (Nat.zero_le _))
      replace hr := hr.mod hm (.inr (Nat.zero_le _))
      obtain ⟨hlf, hlr⟩ := hl k hlt
      have HSET := hid (partN_set ns k)
      obtain ⟨n, hn⟩ : ∃ n, n = ns.getD k nd0 := ⟨_, rfl⟩
      rw [← hn] at c0 hf hr hlf hlr HSET
      obtain ⟨kd, fs, row⟩ := n
      simp only at c0 hf hr hlf hlr
      obtain ⟨af, cf, rfl, -⟩ := id hf
      obtain ⟨ar, cr, rfl, -⟩ := id hr
      clear hn hk0
      go_wp2_with fail
      refine (toNode_any kd _ _ fs row wr hf.rl hr.rl (by omega) (by omega)).mono ?_
      rintro e w2 ⟨vf, vr, M, rfl, hvf, hvfM, hvr, hM, hb2⟩
      have hsz := hb2.size
      have ho2 := ho.mod (Mod.of_below hb2) (.inr (Nat.zero_le _))
      have hkl : k < (partN ns k).length := by rw [partN_length]; exact hlt
      have HP := hid (ho2.put hkl (hvf.base hbel.size) (hvr.base (by have := hbel.size; omega)) (Apart.of_lt hM (fun b hb => ⟨(hvf.lt b hb).1, hvfM b hb⟩) fun b hb => (hvr.lt b hb).1) kd)
      obtain ⟨f0, r0, d0, d1, d2, -, -⟩ := ho2.cells hkl
      have z0 := ho2.frozen (k * 3)
      have z1 := ho2.frozen (k * 3 + 1)
      have z2 := ho2.frozen (k * 3 + 2)
      obtain ⟨af', cf', rfl, -⟩ := id hvf.rl
      obtain ⟨ar', cr', rfl, -⟩ := id hvr.rl
      have hbw := (Mod.of_below hb2).below0 hbel hbel.size
      clear hkl ho ho2 c0 c1 c2
      go_wp2_with fail
      go_roundw
      case rel =>
        refine ⟨k + 1, by omega, by go_num, ?_, ((hbw.setCell (Nat.le_refl _) _).setCell (Nat.le_refl _) _).setCell (Nat.le_refl _) _⟩
        have hp := HP.out
        rw [HSET.out] at hp
        exact hp.up (by simp) (by simp)
      case measure => simp [intOf]; omega
    · go_wp2_with fail
      go_ret
      obtain rfl : k = ns.length := by omega
      exact ⟨_, rfl, by rw [partN_all] at ho; exact ho, hbel⟩

/-- The marks of a plan, from k on. -/
def sumN : List Nd → Int
  | [] => 0
  | n :: ns => 1 + (n.fs.length : Int) + (n.row.length : Int) + sumN ns
def marksN : Int → List Nd → List Nd
  | _, [] => []
  | k, n :: ns => ⟨k, marks (k + 1) n.fs.length, marks (k + 1 + n.fs.length) n.row.length⟩ :: marksN (k + 1 + n.fs.length + n.row.length) ns
theorem sumN_nonneg : ∀ ns : List Nd, 0 ≤ sumN ns
  | [] => Int.le_refl _
  | n :: ns => by unfold sumN; have := sumN_nonneg ns; omega
theorem marksN_length : ∀ (k : Int) (ns : List Nd), (marksN k ns).length = ns.length
  | _, [] => rfl
  | k, n :: ns => by simp [marksN, marksN_length _ ns]
theorem sumN_app : ∀ ns ms : List Nd, sumN (ns ++ ms) = sumN ns + sumN ms
  | [], ms => by simp [sumN]
  | n :: ns, ms => by simp only [List.cons_append, sumN]; rw [sumN_app ns ms]; omega
theorem marksN_app : ∀ (k : Int) (ns ms : List Nd), marksN k (ns ++ ms) = marksN k ns ++ marksN (k + sumN ns) ms
  | k, [], ms => by simp [sumN, marksN]
  | k, n :: ns, ms => by
    simp only [List.cons_append, marksN, sumN]
    rw [marksN_app _ ns ms]
    congr 3
    omega
theorem take_nd {ns : List Nd} {k : Nat} (h : k < ns.length) : ns.take (k + 1) = ns.take k ++ [ns.getD k nd0] := by
  rw [List.take_add_one]; simp [h]
theorem sumN_take {ns : List Nd} {k : Nat} (h : k < ns.length) : sumN (ns.take (k + 1)) = sumN (ns.take k) + (1 + ((ns.getD k nd0).fs.length : Int) + ((ns.getD k nd0).row.length : Int)) := by
  rw [take_nd h, sumN_app]; simp [sumN]
theorem sumN_le {ns : List Nd} (c : Int) (hl : ∀ i, i < ns.length → ((ns.getD i nd0).fs.length : Int) ≤ c ∧ ((ns.getD i nd0).row.length : Int) ≤ c) : ∀ k : Nat, k ≤ ns.length → sumN (ns.take k) ≤ (k : Int) * (1 + 2 * c)
  | 0, _ => by simp [sumN]
  | k + 1, hk => by
    rw [sumN_take (by omega)]
    have := sumN_le c hl k (by omega)
    have := hl k (by omega)
    have e : ((k + 1 : Nat) : Int) * (1 + 2 * c) = (k : Int) * (1 + 2 * c) + (1 + 2 * c) := by rw [Int.natCast_add, Int.add_mul]; omega
    omega
/-- A plan that is marked as far as node j. -/
def markedN (k : Int) (ns : List Nd) (j : Nat) : List Nd := marksN k (ns.take j) ++ ns.drop j
theorem markedN_zero (k : Int) (ns : List Nd) : markedN k ns 0 = ns := by simp [markedN, marksN]
theorem markedN_all (k : Int) (ns : List Nd) : markedN k ns ns.length = marksN k ns := by simp [markedN]
theorem markedN_length (k : Int) (ns : List Nd) {j : Nat} (h : j ≤ ns.length) : (markedN k ns j).length = ns.length := by simp [markedN, marksN_length]; omega
theorem markedN_get (k : Int) {ns : List Nd} {j : Nat} (h : j < ns.length) : (markedN k ns j).getD j nd0 = ns.getD j nd0 := by
  have hl : (marksN k (ns.take j)).length = j := by rw [marksN_length, List.length_take]; omega
  unfold markedN
  rw [List.getD, List.getElem?_append_right (by omega), hl, Nat.sub_self, List.getElem?_drop]
  simp [List.getD]
theorem markedN_set (k : Int) {ns : List Nd} {j : Nat} (h : j < ns.length) {x : Nd} (hx : x = ⟨k + sumN (ns.take j), marks (k + sumN (ns.take j) + 1) (ns.getD j nd0).fs.length, marks (k + sumN (ns.take j) + 1 + (ns.getD j nd0).fs.length) (ns.getD j nd0).row.length⟩) :
    (markedN k ns j).set j x = markedN k ns (j + 1) := by
  have hl : (marksN k (ns.take j)).length = j := by rw [marksN_length, List.length_take]; omega
  unfold markedN
  rw [List.set_append_right _ _ (by omega), hl, Nat.sub_self, drop_nd h, List.set_cons_zero, take_nd h, marksN_app, List.append_assoc]
  subst hx
  rfl

section
variable {w w' : World} {lo hi g n c i : Nat} {ns : List Nd}
/-- A row of the plan is written: the needs, the given row. -/
theorem PR.openF (h : PR True w lo hi (.slice (some ⟨g, 0, none⟩) n c) ns) (hi' : i < ns.length) :
    ∃ f, w.cell? ⟨g, i * 3 + 1, none⟩ = some f ∧ OR w lo hi f (ns.getD i nd0).fs ∧ ∀ w' ys, OI w' lo f ys → w.grownBy w' f.ownBlock → PR True w' lo hi (.slice (some ⟨g, 0, none⟩) n c) (ns.set i ⟨(ns.getD i nd0).kind, ys, (ns.getD i nd0).row⟩) := by
  obtain rfl := h.len
  obtain ⟨h0, U, own, h1, h2, h3⟩ := h
  obtain ⟨q1, q2⟩ := h3 (2 * i) (by omega)
  have q1' := q1
  rw [rowN_0] at q1
  refine ⟨U (2 * i), by rw [World.ownsRow.cellAt h1 _ (by omega), cellsN_at (by omega), cN_1], ⟨q1, h0, fun k hk => (q2 k hk).1⟩, fun w' ys ho hg => ?_⟩
  have hget : ∀ j, j < ns.length → (ns.set i ⟨(ns.getD i nd0).kind, ys, (ns.getD i nd0).row⟩).getD j nd0 = if i = j then ⟨(ns.getD i nd0).kind, ys, (ns.getD i nd0).row⟩ else ns.getD j nd0 := fun j hj => by
    by_cases e : i = j
    · subst e; simp [hj]
    · simp [e]
  have he : cellsN ns U = cellsN (ns.set i ⟨(ns.getD i nd0).kind, ys, (ns.getD i nd0).row⟩) U := by
    refine cells_ext (by simp [cellsN_length]) (fun j hj => ?_) (fun j hj => ?_) (fun j hj => ?_)
    · rw [List.length_set] at hj
      rw [hget j hj, cellsN_at (by omega), cN_0]
      by_cases e : i = j
      · subst e; rw [if_pos rfl]
      · rw [if_neg e]
    · rw [List.length_set] at hj
      rw [cellsN_at (by omega), cN_1]
    · rw [List.length_set] at hj
      rw [cellsN_at (by omega), cN_2]
  have hkeep : ∀ k, (Value.slice (some ⟨g, 0, none⟩) ns.length c).ownBlock = some k → w'.heap[k]? = w.heap[k]? := fun k hk => hg.block k (World.ownsRow.lt h1 k hk).2 (fun e => node_OI_ne h1 q1' k e.symm hk)
  refine ⟨Nat.le_trans h0 hg.size, U, own, by rw [List.length_set, ← he]; exact ownsRow_blk h1 hkeep, h2, ?_⟩
  refine rowN_cases (P := fun r xs => OI w' lo (U r) xs ∧ ∀ b, (U r).ownBlock = some b → b < hi ∧ (True → own b = r)) (fun j hj => ?_) (fun j hj => ?_)
  · rw [List.length_set] at hj
    rw [hget j hj]
    by_cases e : i = j
    · subst e; rw [if_pos rfl]; exact ⟨ho, q2⟩
    · rw [if_neg e, ← rowN_0]
      obtain ⟨p1, p2⟩ := h3 (2 * j) (by omega)
      exact ⟨p1.kept hg fun b hb e2 => by have := (p2 b hb).2 trivial; have := (q2 b e2).2 trivial; omega, p2⟩
  · rw [List.length_set] at hj
    obtain ⟨p1, p2⟩ := h3 (2 * j + 1) (by omega)
    rw [rowN_1] at p1
    have e3 : ((ns.set i ⟨(ns.getD i nd0).kind, ys, (ns.getD i nd0).row⟩).getD j nd0).row = (ns.getD j nd0).row := by
      rw [hget j hj]
      by_cases e : i = j
      · subst e; rw [if_pos rfl]
      · rw [if_neg e]
    rw [e3]
    exact ⟨p1.kept hg fun b hb e2 => by have := (p2 b hb).2 trivial; have := (q2 b e2).2 trivial; omega, p2⟩
theorem PR.openR (h : PR True w lo hi (.slice (some ⟨g, 0, none⟩) n c) ns) (hi' : i < ns.length) :
    ∃ f, w.cell? ⟨g, i * 3 + 2, none⟩ = some f ∧ OR w lo hi f (ns.getD i nd0).row ∧ ∀ w' ys, OI w' lo f ys → w.grownBy w' f.ownBlock → PR True w' lo hi (.slice (some ⟨g, 0, none⟩) n c) (ns.set i ⟨(ns.getD i nd0).kind, (ns.getD i nd0).fs, ys⟩) := by
  obtain rfl := h.len
  obtain ⟨h0, U, own, h1, h2, h3⟩ := h
  obtain ⟨q1, q2⟩ := h3 (2 * i + 1) (by omega)
  have q1' := q1
  rw [rowN_1] at q1
  refine ⟨U (2 * i + 1), by rw [World.ownsRow.cellAt h1 _ (by omega), cellsN_at (by omega), cN_2], ⟨q1, h0, fun k hk => (q2 k hk).1⟩, fun w' ys ho hg => ?_⟩
  have hget : ∀ j, j < ns.length → (ns.set i ⟨(ns.getD i nd0).kind, (ns.getD i nd0).fs, ys⟩).getD j nd0 = if i = j then ⟨(ns.getD i nd0).kind, (ns.getD i nd0).fs, ys⟩ else ns.getD j nd0 := fun j hj => by
    by_cases e : i = j
    · subst e; simp [hj]
    · simp [e]
  have he : cellsN ns U = cellsN (ns.set i ⟨(ns.getD i nd0).kind, (ns.getD i nd0).fs, ys⟩) U := by
    refine cells_ext (by simp [cellsN_length]) (fun j hj => ?_) (fun j hj => ?_) (fun j hj => ?_)
    · rw [List.length_set] at hj
      rw [hget j hj, cellsN_at (by omega), cN_0]
      by_cases e : i = j
      · subst e; rw [if_pos rfl]
      · rw [if_neg e]
    · rw [List.length_set] at hj
      rw [cellsN_at (by omega), cN_1]
    · rw [List.length_set] at hj
      rw [cellsN_at (by omega), cN_2]
  have hkeep : ∀ k, (Value.slice (some ⟨g, 0, none⟩) ns.length c).ownBlock = some k → w'.heap[k]? = w.heap[k]? := fun k hk => hg.block k (World.ownsRow.lt h1 k hk).2 (fun e => node_OI_ne h1 q1' k e.symm hk)
  refine ⟨Nat.le_trans h0 hg.size, U, own, by rw [List.length_set, ← he]; exact ownsRow_blk h1 hkeep, h2, ?_⟩
  refine rowN_cases (P := fun r xs => OI w' lo (U r) xs ∧ ∀ b, (U r).ownBlock = some b → b < hi ∧ (True → own b = r)) (fun j hj => ?_) (fun j hj => ?_)
  · rw [List.length_set] at hj
    obtain ⟨p1, p2⟩ := h3 (2 * j) (by omega)
    rw [rowN_0] at p1
    have e3 : ((ns.set i ⟨(ns.getD i nd0).kind, (ns.getD i nd0).fs, ys⟩).getD j nd0).fs = (ns.getD j nd0).fs := by
      rw [hget j hj]
      by_cases e : i = j
      · subst e; rw [if_pos rfl]
      · rw [if_neg e]
    rw [e3]
    exact ⟨p1.kept hg fun b hb e2 => by have := (p2 b hb).2 trivial; have := (q2 b e2).2 trivial; omega, p2⟩
  · rw [List.length_set] at hj
    rw [hget j hj]
    by_cases e : i = j
    · subst e; rw [if_pos rfl]; exact ⟨ho, q2⟩
    · rw [if_neg e, ← rowN_1]
      obtain ⟨p1, p2⟩ := h3 (2 * j + 1) (by omega)
      exact ⟨p1.kept hg fun b hb e2 => by have := (p2 b hb).2 trivial; have := (q2 b e2).2 trivial; omega, p2⟩
end
end Go.Proofs.Yteelobokjidphaa
