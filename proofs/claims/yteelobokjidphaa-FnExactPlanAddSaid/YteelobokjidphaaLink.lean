/- The linking of a node to an earlier one. No condition. -/
import Derived.Test.YteelobokjidphaaGraph
import Derived.LaidEqlPtr
namespace Go.Proofs.Yteelobokjidphaa
open Go.RowKit
set_option maxRecDepth 100000

theorem infoNode : (Try.prog.info? 105).map (fun i => decide (i.size ≠ 0)) = some true := by kernel_rfl
theorem eql_same (w : World) (a : Addr) : (binOp .eql 106 (.pointer (some a)) (.pointer (some a))).run Try.prog w = .ok (.bool true) w := by
  cases h : Try.prog.info? 105 with
  | none => have := infoNode; rw [h] at this; cases this
  | some j => exact run_eql_ptr_same w a Try.underlying106 h
theorem eql_other (w : World) {b b' : Nat} {ca cb : Array Value} {ta tb : TypeId} (hne : b ≠ b') (ha : w.heap[b]? = some (.cells ca ta (0, 0))) (hb : w.heap[b']? = some (.cells cb tb (0, 0))) :
    (binOp .eql 106 (.pointer (some ⟨b, 0, none⟩)) (.pointer (some ⟨b', 0, none⟩))).run Try.prog w = .ok (.bool false) w := by
  cases h : Try.prog.info? 105 with
  | none => have := infoNode; rw [h] at this; cases this
  | some j =>
    have hj : j.size ≠ 0 := by have := infoNode; rw [h] at this; simpa using this
    exact run_eql_ptr_other w Try.underlying106 h hj (fun e => hne (by cases e; rfl)) ha hb
theorem StO.inj {own : Nat → Int} {V : Nat → Nat → Value} {w : World} {B k m : Nat} {vg : Value} {P : Nat → Nat} {L : Nat → Nat → List Nat} (h : StO own V w B k m vg P L) {i j : Nat} (hi : i < k) (hj : j < k) (e : P i = P j) : i = j := by
  have h1 := (h.1 i hi).2.2
  have h2 := (h.1 j hj).2.2
  rw [e, h2] at h1
  omega
theorem getD_mem {l : List Nat} {i : Nat} (h : i < l.length) : l.getD i 0 ∈ l := by
  have : l.getD i 0 = l[i] := by simp [h]
  rw [this]; exact List.getElem_mem h
theorem not_mem_getD {l : List Nat} {x : Nat} (h : ∀ i, i < l.length → l.getD i 0 ≠ x) : x ∉ l := by
  intro hx
  obtain ⟨i, hi, e⟩ := List.getElem_of_mem hx
  exact h i hi (by simp [hi, e])

set_option maxHeartbeats 1000000 in
theorem already_any (own : Nat → Int) (V : Nat → Nat → Value) (w : World) (B k m : Nat) (vg : Value) (P : Nat → Nat) (L : Nat → Nat → List Nat) (h : StO own V w B k m vg P L) (i j : Nat) (hi : i < k) (hj : j < k) (hL : ∀ x ∈ L 1 j, x < k) (_hlen : (L 1 j).length ≤ 1048576) :
    Calls Try.prog 112 #[.pointer (some ⟨P j, 0, none⟩), .pointer (some ⟨P i, 0, none⟩)] w fun e w' => e = .returned (.bool (decide (i ∈ L 1 j))) ∧ w = w' := by
  obtain ⟨hh, hB, -⟩ := h.1 j hj
  obtain ⟨hv, -⟩ := h.2.1 j 1 hj (.inl rfl)
  obtain ⟨a, c, hva, hc1, hc2⟩ := hv.shape
  rw [hva] at hh
  rw [List.length_map] at hva hh hc1
  have hcell := fun q (hq : q < (L 1 j).length) => hv.cell (i := q) (by rw [List.length_map]; exact hq)
  have HCELL := hid hcell
  have HVA := hid hva
  have hinj0 : ∀ q, q < (L 1 j).length → P ((L 1 j).getD q 0) = P i → (L 1 j).getD q 0 = i := fun q hq e => h.inj (hL _ (getD_mem hq)) hi e
  have HI := hid hinj0
  have heap0 : ∀ q, q < (L 1 j).length → w.heap[P ((L 1 j).getD q 0)]? = some (.cells #[.int .i64 ((L 1 j).getD q 0), V 1 ((L 1 j).getD q 0), V 2 ((L 1 j).getD q 0)] 105 (0, 0)) := fun q hq => (h.1 _ (hL _ (getD_mem hq))).1
  have HE := hid heap0
  have HEI := hid (h.1 i hi).1
  clear hcell hva hv hL hinj0 heap0
  have c1 : w.cell? ⟨P j, 1, none⟩ = some (.slice a (L 1 j).length c) := by unfold World.cell?; simp [hh]
  unfold maxLen at hc2
  clear hh
  go_enter Try.func112, Try.ntmps112
  go_wp2_with fail
  go_loop [12] (fun q => ∃ k : Nat, k ≤ (L 1 j).length ∧ q = .int .i64 k ∧ ∀ x, x < k → (L 1 j).getD x 0 ≠ i) (fun q => (L 1 j).length - (intOf q).toNat)
  case atStart => exact ⟨0, Nat.zero_le _, rfl, fun x hx => by omega⟩
  case round =>
    obtain ⟨q, hq, rfl, hall⟩ := hrel
    by_cases hlt : q < (L 1 j).length
    · obtain ⟨g, c', e', hgs, hce⟩ := HCELL.out q hlt
      rw [HVA.out] at e'
      simp only [Value.slice.injEq] at e'
      obtain ⟨rfl, -, rfl⟩ := e'
      have hmg : ((L 1 j).map P).getD q 0 = P ((L 1 j).getD q 0) := by simp [hlt]
      rw [hmg] at hce
      have hinj := HI.out q hlt
      have hmem : (L 1 j).getD q 0 ∈ L 1 j := getD_mem hlt
      obtain ⟨x, hx⟩ : ∃ x, x = (L 1 j).getD q 0 := ⟨_, rfl⟩
      rw [← hx] at hce hinj hmem
      unfold ptr at hce
      have HX := hid hx
      have HALL := hid hall
      have HMEM := hid hmem
      clear hx hall hmg hmem
      by_cases hxi : x = i
      · subst hxi
        have hd : decide (x ∈ L 1 j) = true := decide_eq_true HMEM.out
        have HD := hid hd
        have heq := eql_same w ⟨P x, 0, none⟩
        clear hd hinj
        go_wp2_with fail
        go_ret
        exact ⟨by rw [HD.out]; rfl, rfl⟩
      · have hpe : P x ≠ P i := fun e => hxi (hinj e)
        have heq := eql_other w hpe (by rw [HX.out]; exact HE.out q hlt) HEI.out
        have HXI := hid hxi
        clear hinj hxi
        go_wp2_with fail
        go_round
        case rel =>
          refine ⟨q + 1, by omega, by go_num, fun y hy => ?_⟩
          by_cases e : y = q
          · subst e; rw [← HX.out]; exact HXI.out
          · exact HALL.out y (by omega)
        case measure => simp [intOf]; omega
    · obtain rfl : q = (L 1 j).length := by omega
      have hd : decide (i ∈ L 1 j) = false := decide_eq_false (not_mem_getD hall)
      have HD := hid hd
      clear hd hall
      go_wp2_with fail
      go_ret
      exact ⟨by rw [HD.out]; rfl, rfl⟩

/-- `append(v, p)`, one pointer: where the new slice lies is told. -/
theorem appP {w : World} {ops : Array Oper} {rest : List Oper} {o : Oper} {a : Act} {Q : Exit → Act → World → Prop}
    (hg : o.guard = none) (s x : Operand) (T : TypeId) (hop : o.op = Op.call { callee := Callee.builtin Builtin.append, args := #[s, x], argTypes := #[T, T] })
    (hT : Try.prog.underlying T = some (.slice 106)) (B : Nat) (v : Value) (bs : List Nat) (b : Nat)
    (hown : OP w B v bs) (hs : a.eval s = v) (hx : a.eval x = .slice (some ⟨w.heap.size, 0, none⟩) 1 1)
    (hlen : bs.length < 1099511627776) (hB : B ≤ w.heap.size)
    (hK : ∀ g cap w', OP w' B (.slice (some ⟨g, 0, none⟩) (bs.length + 1) cap) (bs ++ [b]) → (∀ k, k < w.heap.size → v.ownBlock ≠ some k → w'.heap[k]? = w.heap[k]?) → Below B w w' → (v.ownBlock = some g ∨ w.heap.size ≤ g) →
      wpList Try.prog ops Q rest (a.put o.dst (.slice (some ⟨g, 0, none⟩) (bs.length + 1) cap)) w') :
    wpList Try.prog ops Q (o :: rest) a (w.alloc (.cells #[ptr b] 106)) := by
  obtain ⟨i0, hi, hz0, hz1, hz2⟩ := info_parts infoPtr
  refine wpList_append_lies _ hg s x T hop B 106 i0 (.pointer none) 1 8 hT hi hz0 hz1 hz2 rfl (by decide) v bs.length (bs.map ptr) hs (World.ownsRow.alloc hown _)
    ⟨w.heap.size, 0, none⟩ 1 1 [ptr b] hx rfl ?_ ?_ (by decide) (by unfold maxLen; omega) (by omega) (by simp; omega) _ rfl ?_
  · intro j u hj
    exact (cell_one_new w (ptr b) 106) j u hj
  · intro u hu
    simp at hu
    subst hu
    rfl
  · intro g cap w' ho hgr hat hlt
    refine hK g cap w' ?_ (fun k hk hne => ?_) (((Below.refl B w).alloc hB _).grown hgr (Nat.le_trans hB (by simp)) fun k hk => (OP.lt hown k hk).1) ?_
    · unfold OP
      simpa using ho
    · exact (hgr.block k (by simp; omega) hne.symm).trans (heap_alloc_old w _ hk)
    · rcases hat with hat | hat
      · exact .inl hat
      · simp at hat
        exact .inr (by omega)

/-- The rows of pointers when node j has been linked to node i. -/
def linkL (L : Nat → Nat → List Nat) (j i : Nat) : Nat → Nat → List Nat :=
  if i ∈ L 1 j then L else upd (upd L 1 j (L 1 j ++ [i])) 2 i (L 2 i ++ [j])

theorem StO.at {own : Nat → Int} {V : Nat → Nat → Value} {w : World} {B k m : Nat} {vg : Value} {P : Nat → Nat} {L : Nat → Nat → List Nat} (h : StO own V w B k m vg P L) {j : Nat} (hj : j < k) :
    w.cell? ⟨P j, 1, none⟩ = some (V 1 j) ∧ w.cell? ⟨P j, 2, none⟩ = some (V 2 j) ∧ w.cell? ⟨P j, 0, none⟩ = some (.int .i64 j) ∧ w.frozen? ⟨P j, 1, none⟩ = false ∧ w.frozen? ⟨P j, 2, none⟩ = false ∧ P j < w.heap.size ∧ B ≤ P j := by
  obtain ⟨q1, q2, -⟩ := h.1 j hj
  refine ⟨by unfold World.cell?; simp [q1], by unfold World.cell?; simp [q1], by unfold World.cell?; simp [q1], by unfold World.frozen?; simp [q1], by unfold World.frozen?; simp [q1], (Array.getElem?_eq_some_iff.1 q1).1, q2⟩

theorem StO.blk {own : Nat → Int} {V : Nat → Nat → Value} {w w' : World} {B k m : Nat} {vg : Value} {P : Nat → Nat} {L : Nat → Nat → List Nat} (h : StO own V w B k m vg P L) {j s i : Nat} (hj : j < k) (hi : i < k) (hs : s = 1 ∨ s = 2)
    (hk : ∀ b, b < w.heap.size → (V s j).ownBlock ≠ some b → w'.heap[b]? = w.heap[b]?) : w'.heap[P i]? = w.heap[P i]? := by
  obtain ⟨q1, -, q3⟩ := h.1 i hi
  refine hk _ (Array.getElem?_eq_some_iff.1 q1).1 fun e => ?_
  have := (h.2.1 j s hj hs).2 _ e
  omega
theorem frozen_blk {w w' : World} {b n : Nat} (h : w'.heap[b]? = w.heap[b]?) : w'.frozen? ⟨b, n, none⟩ = w.frozen? ⟨b, n, none⟩ := by
  unfold World.frozen?; simp [h]

set_option maxHeartbeats 2000000 in
theorem link_any (w : World) (B k m : Nat) (vg : Value) (P : Nat → Nat) (L : Nat → Nat → List Nat) (h : St w B k m vg P L) (i j : Nat) (hi : i < k) (hj : j < k) (hL : ∀ x ∈ L 1 j, x < k) (hB : B ≤ w.heap.size) (hl1 : (L 1 j).length ≤ 1048576) (hl2 : (L 2 i).length ≤ 1048576) :
    Calls Try.prog 97 #[.pointer (some ⟨P j, 0, none⟩), .pointer (some ⟨P i, 0, none⟩)] w fun e w' => e = .returned (.tuple #[]) ∧ St w' B k m vg P (linkL L j i) ∧ Below B w w' := by
  obtain ⟨own, V, h⟩ := h
  by_cases hm : i ∈ L 1 j
  · have e1 : linkL L j i = L := by unfold linkL; rw [if_pos hm]
    have hd : decide (i ∈ L 1 j) = true := decide_eq_true hm
    rw [e1]
    have HD := hid hd
    clear hd hm e1
    go_enter Try.func97, Try.ntmps97
    go_wp2_with fail
    refine (already_any own V w B k m vg P L h i j hi hj hL hl1).mono ?_
    rintro e _ ⟨rfl, rfl⟩
    rw [HD.out]
    go_wp2_with fail
    refine bodyPost_ret (results_none rfl _ _ _) rfl ?_
    exact ⟨rfl, ⟨own, V, h⟩, Below.refl _ _⟩
  · have e1 : linkL L j i = upd (upd L 1 j (L 1 j ++ [i])) 2 i (L 2 i ++ [j]) := by unfold linkL; rw [if_neg hm]
    have hd : decide (i ∈ L 1 j) = false := decide_eq_false hm
    rw [e1]
    have HD := hid hd
    clear hd hm e1
    obtain ⟨c1, -, -, f1, -, hP, hBP⟩ := h.at hj
    obtain ⟨-, ci2, -, -, fi2, -, -⟩ := h.at hi
    have hv := (h.2.1 j 1 hj (.inl rfl)).1
    go_enter Try.func97, Try.ntmps97
    go_wp2_with fail
    refine (already_any own V w B k m vg P L h i j hi hj hL hl1).mono ?_
    rintro e _ ⟨rfl, rfl⟩
    rw [HD.out]
    go_wp2_with (at_builtin; first
      | (refine appP rfl _ _ 101 rfl Try.underlying101 B _ _ (P i) hv rfl rfl (by simp; omega) hB ?_
         intro g cap w1 ho hk hbel hg
         have hf1 := (frozen_blk (n := 1) (h.blk hj hj (.inl rfl) hk)).trans f1
         rw [List.length_map] at ho ⊢
         rw [show (L 1 j).map P ++ [P i] = (L 1 j ++ [i]).map P by simp] at ho
         have g3 := (World.cell?_of_block (a := ⟨P j, 1, none⟩) (h.blk hj hj (.inl rfl) hk)).trans c1
         have d3 := (World.cell?_of_block (a := ⟨P i, 2, none⟩) (h.blk hj hi (.inl rfl) hk)).trans ci2
         have f3 := (frozen_blk (n := 2) (h.blk hj hi (.inl rfl) hk)).trans fi2
         obtain ⟨own2, h2⟩ := h.push (.inl rfl) hj ho hk hg
         obtain ⟨-, d2, -, -, f2, hPi, hBi⟩ := h2.at hi
         have hv2 := (h2.2.1 i 2 hi (.inr rfl)).1
         rw [upd_ne _ _ (by omega)] at d2
         rw [upd_ne _ _ (by omega), upd_ne _ _ (by omega)] at hv2
         have hb2 := hbel.setCell (p := ⟨P j, 1, none⟩) hBP (.slice (some ⟨g, 0, none⟩) ((L 1 j).length + 1) cap)
         have hB2 := Nat.le_trans hB hb2.size
         have H2 := hid h2
         have HSZ := hid (show w1.heap.size = (w1.setCell ⟨P j, 1, none⟩ (.slice (some ⟨g, 0, none⟩) ((L 1 j).length + 1) cap)).heap.size by simp)
         clear h2 ho)
      | (refine appP rfl _ _ 101 rfl Try.underlying101 B _ _ (P j) hv2 rfl (by rw [← HSZ.out]; rfl) (by simp; omega) hB2 ?_
         intro g' cap' w3 ho' hk' hbel' hg'
         have hk2 := hk'
         rw [show V 2 i = upd V 1 j (.slice (some ⟨g, 0, none⟩) ((L 1 j).length + 1) cap) 2 i from (upd_ne _ _ (by omega)).symm] at hk2
         have g4 := (World.cell?_of_block (a := ⟨P i, 2, none⟩) (H2.out.blk hi hi (.inr rfl) hk2)).trans d2
         have hf2 := (frozen_blk (n := 2) (H2.out.blk hi hi (.inr rfl) hk2)).trans f2
         rw [List.length_map] at ho' ⊢
         rw [show (L 2 i).map P ++ [P j] = (L 2 i ++ [j]).map P by simp] at ho'))
    go_end0
    have e2 : upd L 1 j (L 1 j ++ [i]) 2 i = L 2 i := upd_ne _ _ (by omega)
    obtain ⟨own3, h3⟩ := H2.out.push (g := g') (cap := cap') (i := j) (n := (L 2 i).length + 1) (.inr rfl) hi (by rw [e2]; exact ho') hk2 (by rw [upd_ne _ _ (by omega)]; exact hg')
    rw [e2] at h3
    exact ⟨rfl, ⟨own3, _, h3⟩, (hb2.trans (hbel'.setCell hBi _))⟩
end Go.Proofs.Yteelobokjidphaa
