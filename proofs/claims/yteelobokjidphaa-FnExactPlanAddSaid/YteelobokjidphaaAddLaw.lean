/- A plan with one node more: plain laws, and what its box holds. No condition. -/
import Derived.Test.YteelobokjidphaaPlanAdd
import Derived.Test.YteelobokjidphaaCopyRef
import Derived.Test.YteelobokjidphaaUse
import Derived.Test.YteelobokjidphaaPlanLaw
import Derived.Test.YteelobokjidphaaSamePlan
namespace Go.Proofs.Yteelobokjidphaa
open Go.RowKit
set_option maxRecDepth 100000

theorem add_parts {ns : List Nd} {n : Nd} (h : addB ns n = true) : planB ns = true ∧ planB (ns ++ [n]) = true ∧ addL ns n = ns ++ [n] := by
  unfold addB at h
  rw [Bool.and_eq_true] at h
  exact ⟨h.1, h.2, by unfold addL; rw [if_pos h]⟩
theorem add_none {ns : List Nd} {n : Nd} (h : addB ns n = false) : addL ns n = [] := by
  unfold addL
  rw [if_neg]
  intro h2
  unfold addB at h
  rw [h2.1, h2.2] at h
  cases h
theorem add_uses_none {ns : List Nd} {n : Nd} (h : planB (ns ++ [n]) = true) : usesR (ns ++ [n]) (ns.length : Int) = [] := by
  rw [uses_plan h, uses_last h (m := ns.length) (by simp)]
  rfl
theorem add_uses {ns : List Nd} {n : Nd} (h : planB (ns ++ [n]) = true) {f : Int} (hf : f ∈ n.fs) : ∃ q : List Nat, usesR (ns ++ [n]) f = numL (q ++ [ns.length]) := by
  have hl : (ns ++ [n]).length = ns.length + 1 := by simp
  have e : fsN (ns ++ [n]) ns.length = n.fs := by
    unfold fsN
    simp
  refine ⟨usesN (ns ++ [n]) f ns.length, ?_⟩
  rw [uses_plan h, hl, usesN_succ, e, if_pos (hasB_true.2 hf)]

/-- Block b holds one node. -/
def NB (w : World) (b : Nat) (kd : Int) (vf vr : Value) : Prop := w.heap[b]? = some (.cells #[.int .i64 kd, vf, vr] 48 (0, 0))
theorem NB.mod {w w' : World} {b A B : Nat} {kd : Int} {vf vr : Value} (h : NB w b kd vf vr) (hm : Mod A B w w') (hb : b < A ∨ B ≤ b) : NB w' b kd vf vr :=
  (hm.block b (Array.getElem?_eq_some_iff.1 h).1 hb).trans h
theorem NB.lt {w : World} {b : Nat} {kd : Int} {vf vr : Value} (h : NB w b kd vf vr) : b < w.heap.size := (Array.getElem?_eq_some_iff.1 h).1
theorem NB.c0 {w : World} {b : Nat} {kd : Int} {vf vr : Value} (h : NB w b kd vf vr) : w.cell? ⟨b, 0, none⟩ = some (.int .i64 kd) := by rw [cell_of_row _ b 0 _ _ _ h]; rfl
theorem NB.c1 {w : World} {b : Nat} {kd : Int} {vf vr : Value} (h : NB w b kd vf vr) : w.cell? ⟨b, 1, none⟩ = some vf := by rw [cell_of_row _ b 1 _ _ _ h]; rfl
theorem NB.c2 {w : World} {b : Nat} {kd : Int} {vf vr : Value} (h : NB w b kd vf vr) : w.cell? ⟨b, 2, none⟩ = some vr := by rw [cell_of_row _ b 2 _ _ _ h]; rfl
theorem PL.shape {w : World} {hi : Nat} {v : Value} {ns : List Nd} (h : PL w hi v ns) : ∃ a c, v = .slice a ns.length c ∧ ns.length ≤ c ∧ c ≤ 9223372036854775807 := by
  obtain ⟨a, c, e, h1, h2, -⟩ := h
  exact ⟨a, c, e, h1, h2⟩
/-- A node in a block of its own, and the cells of a plan's node. -/
def Six (w : World) (b : Nat) (kd : Int) (vf vr : Value) (g o : Nat) (kd' : Int) (vf' vr' : Value) : Prop :=
  w.cell? ⟨b, 0, none⟩ = some (.int .i64 kd) ∧ w.cell? ⟨b, 1, none⟩ = some vf ∧ w.cell? ⟨b, 2, none⟩ = some vr ∧ w.cell? ⟨g, o, none⟩ = some (.int .i64 kd') ∧ w.cell? ⟨g, o + 1, none⟩ = some vf' ∧ w.cell? ⟨g, o + 2, none⟩ = some vr'
theorem Six.mod {w w' : World} {b g o : Nat} {kd kd' : Int} {vf vr vf' vr' : Value} (h : Six w b kd vf vr g o kd' vf' vr') (hm : Mod 0 0 w w') (hb : b < w.heap.size) (hg : g < w.heap.size) : Six w' b kd vf vr g o kd' vf' vr' := by
  have kb := hm.block b hb (.inr (Nat.zero_le _))
  have kg := hm.block g hg (.inr (Nat.zero_le _))
  obtain ⟨h1, h2, h3, h4, h5, h6⟩ := h
  exact ⟨(World.cell?_of_block (a := ⟨b, 0, none⟩) kb).trans h1, (World.cell?_of_block (a := ⟨b, 1, none⟩) kb).trans h2, (World.cell?_of_block (a := ⟨b, 2, none⟩) kb).trans h3,
    (World.cell?_of_block (a := ⟨g, o, none⟩) kg).trans h4, (World.cell?_of_block (a := ⟨g, o + 1, none⟩) kg).trans h5, (World.cell?_of_block (a := ⟨g, o + 2, none⟩) kg).trans h6⟩
end Go.Proofs.Yteelobokjidphaa
