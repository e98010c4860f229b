/- The program's ValuesOf: the contract. No condition. -/
import Derived.Test.YteelobokjidphaaValuesOf
namespace Go.Proofs.Yteelobokjidphaa
open Go.RowKit
set_option maxRecDepth 100000

/-- The rows as far as they are made; behind them empty ones. -/
def fillV (ns : List Nd) (k : Nat) : List (List Int) := valsN ns k ++ List.replicate (ns.length - k) []
theorem fillV_zero (ns : List Nd) : fillV ns 0 = List.replicate ns.length [] := by simp [fillV, valsN]
theorem fillV_all (ns : List Nd) : fillV ns ns.length = valsN ns ns.length := by simp [fillV]
theorem fillV_get {ns : List Nd} {k i : Nat} (h : i < k) : (fillV ns k).getD i [] = (valsN ns k).getD i [] := by
  have : i < (valsN ns k).length := by rw [valsN_length]; exact h
  unfold fillV
  rw [List.getD, List.getElem?_append_left this]
  rfl
theorem fillV_set {ns : List Nd} (h : planB ns = true) {k : Nat} (hk : k < ns.length) : (fillV ns k).set k (stepL (ns.getD k nd0) (fillV ns k)) = fillV ns (k + 1) := by
  obtain ⟨-, p2, -⟩ := node_parts h hk
  have e : pickR (fillV ns k) (ns.getD k nd0).fs = pickR (valsN ns k) (ns.getD k nd0).fs := pickR_congr fun q hq => by
    have := p2 q hq
    exact fillV_get (by omega)
  have e2 : stepL (ns.getD k nd0) (fillV ns k) = stepL (ns.getD k nd0) (valsN ns k) := by unfold stepL; rw [e]
  rw [e2]
  have hl : (valsN ns k).length = k := valsN_length ns k
  have er : List.replicate (ns.length - k) ([] : List Int) = [] :: List.replicate (ns.length - (k + 1)) [] := by
    rw [show ns.length - k = (ns.length - (k + 1)) + 1 by omega, List.replicate_succ]
  unfold fillV
  rw [List.set_append_right _ _ (by omega), hl, Nat.sub_self, er, List.set_cons_zero]
  show _ = (valsN ns k ++ [_]) ++ _
  rw [List.append_assoc]
  rfl

/-- What ValuesOf hands back. -/
def Valued (w : World) (ns : List Nd) (e : Ending) (w' : World) : Prop :=
  ∃ vo, e = .returned (.tuple #[vo, .bool (planB ns)]) ∧ GridD w' w.heap.size vo (valsR ns) ∧ Below w.heap.size w w'
theorem GridD.nil (w : World) (B : Nat) : GridD w B (.slice none 0 0) [] :=
  ⟨[], rfl, World.ownsRow_nil _ _ _ _, fun i hi => by simp at hi, fun i j b hi => by simp at hi⟩

/-- The four boxes, laid behind the slice of the rows. -/
def boxed (w3 : World) (P g n : Nat) : World :=
  (((w3.alloc (.cells #[.slice (some ⟨g, 0, none⟩) n n] 34)).alloc (.cells #[.bool false, .bool false, .bool false, .bool false, .bool false, .bool false, .bool false, .bool false, .bool false, .bool false] 74)).alloc
    (.cells #[.func (Fn.func 64) #[] #[.pointer (some ⟨w3.heap.size + 1 + 1 + 1, 0, none⟩)]] 75)).alloc
    (.cells #[.func (Fn.func 62) #[] #[.pointer (some ⟨w3.heap.size + 1, 0, none⟩), .pointer (some ⟨w3.heap.size, 0, none⟩), .pointer (some ⟨P, 0, none⟩), .pointer (some ⟨w3.heap.size + 1 + 1, 0, none⟩)]] 77)
theorem boxed_mod (w3 : World) (P g n : Nat) : Mod 0 0 w3 (boxed w3 P g n) := (((Mod.alloc _ _).trans (Mod.alloc _ _)).trans (Mod.alloc _ _)).trans (Mod.alloc _ _)
theorem boxed_memo {w3 : World} {B P g hi : Nat} {vp : Value} {ns : List Nd} (hp : w3.heap[P]? = some (.cells #[vp] 27 (0, 0))) (ho : OV w3 B (.slice (some ⟨g, 0, none⟩) ns.length ns.length) (List.replicate ns.length (.slice none 0 0)))
    (hpl : PL w3 hi vp ns) (gB : B ≤ g) (hiB : hi ≤ B) (hB : B ≤ w3.heap.size) :
    Memo (boxed w3 P g ns.length) B P w3.heap.size (w3.heap.size + 1) (w3.heap.size + 1 + 1) (w3.heap.size + 1 + 1 + 1) g hi vp ns (fillV ns 0) (fun y => decide (y < 0)) := by
  have m := boxed_mod w3 P g ns.length
  have old : ∀ {w : World} {k : Nat} {o o' : Obj}, w.heap[k]? = some o' → (w.alloc o).heap[k]? = some o' := fun {w k o o'} h => (heap_alloc_old w o (Array.getElem?_eq_some_iff.1 h).1).trans h
  have e1 := World.size_alloc w3 (.cells #[.slice (some ⟨g, 0, none⟩) ns.length ns.length] 34)
  have hg : GridD w3 B (.slice (some ⟨g, 0, none⟩) ns.length ns.length) (fillV ns 0) := by
    have hl : (fillV ns 0).length = ns.length := by rw [fillV_zero]; simp
    have := GridD.made (w := w3) (B := B) (v := .slice (some ⟨g, 0, none⟩) ns.length ns.length) (xss := fillV ns 0) (by rw [hl]; exact ho)
    rw [part_zero, hl] at this
    rw [fillV_zero]
    exact this
  refine ⟨?_, ?_, ?_, ?_, ?_, hg.mod m (Nat.zero_le _), by rw [fillV_zero]; simp, hpl.mod m (.inr (Nat.zero_le _)), gB, by omega, hiB, Nat.le_trans hB m.size⟩
  · exact (m.block _ (Array.getElem?_eq_some_iff.1 hp).1 (.inr (Nat.zero_le _))).trans hp
  · exact old (old (old (heap_alloc_new _ _)))
  · have h : ((w3.alloc (.cells #[.slice (some ⟨g, 0, none⟩) ns.length ns.length] 34)).alloc (.cells #[.bool false, .bool false, .bool false, .bool false, .bool false, .bool false, .bool false, .bool false, .bool false, .bool false] 74)).heap[w3.heap.size + 1]? = some (.cells #[.bool false, .bool false, .bool false, .bool false, .bool false, .bool false, .bool false, .bool false, .bool false, .bool false] 74 (0, 0)) := by
      have := heap_alloc_new (w3.alloc (.cells #[.slice (some ⟨g, 0, none⟩) ns.length ns.length] 34)) (.cells #[.bool false, .bool false, .bool false, .bool false, .bool false, .bool false, .bool false, .bool false, .bool false, .bool false] 74)
      rw [e1] at this
      exact this
    exact old (old h)
  · refine old ?_
    have := heap_alloc_new ((w3.alloc (.cells #[.slice (some ⟨g, 0, none⟩) ns.length ns.length] 34)).alloc (.cells #[.bool false, .bool false, .bool false, .bool false, .bool false, .bool false, .bool false, .bool false, .bool false, .bool false] 74)) (.cells #[.func (Fn.func 64) #[] #[.pointer (some ⟨w3.heap.size + 1 + 1 + 1, 0, none⟩)]] 75)
    rw [World.size_alloc, World.size_alloc] at this
    exact this
  · have := heap_alloc_new (((w3.alloc (.cells #[.slice (some ⟨g, 0, none⟩) ns.length ns.length] 34)).alloc (.cells #[.bool false, .bool false, .bool false, .bool false, .bool false, .bool false, .bool false, .bool false, .bool false, .bool false] 74)).alloc
      (.cells #[.func (Fn.func 64) #[] #[.pointer (some ⟨w3.heap.size + 1 + 1 + 1, 0, none⟩)]] 75))
      (.cells #[.func (Fn.func 62) #[] #[.pointer (some ⟨w3.heap.size + 1, 0, none⟩), .pointer (some ⟨w3.heap.size, 0, none⟩), .pointer (some ⟨P, 0, none⟩), .pointer (some ⟨w3.heap.size + 1 + 1, 0, none⟩)]] 77)
    rw [World.size_alloc, World.size_alloc, World.size_alloc] at this
    exact this

set_option maxHeartbeats 4000000 in
theorem ivalues_any (v : Value) (ns : List Nd) (hi : Nat) (w : World) (h : PL w hi v ns) :
    Calls Try.prog 27 #[v] w (Valued w ns) := by
  obtain ⟨R, hR⟩ : ∃ R, R = valsR ns := ⟨_, rfl⟩
  unfold Valued
  rw [← hR]
  have HR := hid hR
  obtain ⟨a, c, rfl, -, -, hsz, -⟩ := id h
  have mA := Mod.alloc w (.cells #[.slice a ns.length c] 27)
  obtain ⟨X, hX⟩ : ∃ X, X = w.alloc (.cells #[.slice a ns.length c] 27) := ⟨_, rfl⟩
  rw [← hX] at mA
  have x0 : X.heap[w.heap.size]? = some (.cells #[.slice a ns.length c] 27 (0, 0)) := by rw [hX]; exact heap_alloc_new w _
  have l0 : X.heap.size = w.heap.size + 1 := by rw [hX, World.size_alloc]
  have HX := hid hX
  clear hR hX
  cases hpb : planB ns
  · have eR : R = [] := by rw [HR.out, valsR_no hpb]
    subst eR
    have HPB := hid hpb
    clear hpb
    go_enter Try.func27, Try.ntmps27
    go_wp2_with fail
    rw [← HX.out]
    refine (iplan_any _ ns hi X (h.mod mA (.inr (Nat.zero_le _)))).mono ?_
    rintro e w2 ⟨rfl, m2⟩
    rw [HPB.out]
    go_wp2_with fail
    go_ret2
    exact ⟨_, rfl, GridD.nil _ _, (mA.trans m2).below0 (Below.refl _ _) (Nat.le_refl _)⟩
  · have hn := planB_len hpb
    have HPB := hid hpb
    clear hpb
    go_enter Try.func27, Try.ntmps27
    go_wp2_with fail
    rw [← HX.out]
    refine (iplan_any _ ns hi X (h.mod mA (.inr (Nat.zero_le _)))).mono ?_
    rintro e w2 ⟨rfl, m2⟩
    rw [HPB.out]
    have m02 := mA.trans m2
    have p2 := (m2.block w.heap.size (by omega) (.inr (Nat.zero_le _))).trans x0
    have cp2 := cell_of_one p2
    have s2 := m2.size
    have hpl2 : PL w2 hi (.slice a ns.length c) ns := h.mod m02 (.inr (Nat.zero_le _))
    have HPL2 := hid hpl2
    clear hpl2 h
    go_wp2_with (first
      | (at_make; refine mkV rfl _ _ 34 rfl Try.underlying34 w2.heap.size ns.length _ _ rfl rfl rfl rfl (by omega) (Below.refl _ _) (Nat.le_refl _) ?_; intro v' w3 ho rfl hb3 _
         have m3 := Mod.of_below hb3
         have hM := boxed_memo (P := w.heap.size) ((m3.block w.heap.size (by omega) (.inr (Nat.zero_le _))).trans p2) (ho.base (show w.heap.size ≤ w2.heap.size by omega)) (HPL2.out.mod m3 (.inr (Nat.zero_le _))) (by omega) hsz (by have := m3.size; omega)
         have cpY := cell_of_one hM.p
         unfold boxed at cpY)
      | fail)
    have mY := (m02.trans m3).trans (boxed_mod w3 w.heap.size w2.heap.size ns.length)
    have hbY := mY.below0 (Below.refl w.heap.size w) (Nat.le_refl _)
    obtain ⟨R', hR'⟩ : ∃ R', R' = w3.heap.size := ⟨_, rfl⟩
    have HM := hid hM
    have HBY := hid hbY
    unfold boxed at HM HBY
    clear hM hbY cpY mY m3 hb3 ho cp2 p2 m02 m2 mA hR'
    go_loopw [19] (fun i wr => ∃ k : Nat, k ≤ ns.length ∧ i = .int .i64 k ∧ Memo wr w.heap.size w.heap.size w3.heap.size (w3.heap.size + 1) (w3.heap.size + 1 + 1) (w3.heap.size + 1 + 1 + 1) w2.heap.size hi (.slice a ns.length c) ns (fillV ns k) (fun y => decide (y < k)) ∧ Below w.heap.size w wr)
      (fun i _ => ns.length - (intOf i).toNat)
    case atStart => exact ⟨0, Nat.zero_le _, rfl, HM.out, HBY.out⟩
    case round =>
      clear HM HBY
      obtain ⟨k, hk, rfl, hM, hb⟩ := hrel
      by_cases hlt : k < ns.length
      · have cfF := cell_of_one hM.ff
        have HS := hid (fillV_set HPB.out hlt)
        have HM := hid hM
        clear hM
        go_wp2_with (first
          | (go_at_call 62; refine (rowOf_new HM.out k hlt HPB.out (by simp) (fun i hi => by simp [hi])).mono ?_; rintro e w5 ⟨⟨u, rfl⟩, hM5, hb5⟩
             have HM5 := hid hM5
             clear hM5)
          | fail)
        go_roundw
        case rel =>
          refine ⟨k + 1, by omega, by go_num, ?_, hb.trans hb5⟩
          have := HM5.out
          rw [HS.out] at this
          have e : (fun y => decide (y < k) || decide (y = k)) = fun y => decide (y < k + 1) := by
            funext y
            rw [← Bool.decide_or, decide_eq_decide]
            omega
          rw [e] at this
          exact this
        case measure => simp [intOf]; omega
      · obtain rfl : k = ns.length := by omega
        have crR := cell_of_one hM.r
        have HM := hid hM
        clear hM
        go_wp2_with fail
        go_ret2
        refine ⟨_, rfl, ?_, hb⟩
        rw [HR.out, valsR_of HPB.out, ← fillV_all]
        exact HM.out.grid
end Go.Proofs.Yteelobokjidphaa
