/- What a plan's graph holds, and when it is built: plain lists. No condition. -/
import Derived.Test.YteelobokjidphaaFits
import Derived.Test.YteelobokjidphaaLink
namespace Go.Proofs.Yteelobokjidphaa
open Go.RowKit
set_option maxRecDepth 100000

theorem knI_neg {k : Int} (h : kvB k = false) : knI k = -1 := by unfold knI; rw [if_neg (by simp [h])]
theorem knI_le (k : Int) : knI k ≤ 2 := by unfold knI; (repeat' split) <;> omega
theorem nodeB_fits (n : Nd) (at_ wide : Int) : nodeB n at_ wide = (fitsB n at_ && (!decide (n.kind = 0) || decide ((n.row.length : Int) = wide))) := by
  unfold nodeB fitsB
  cases hk : kvB n.kind
  · have := knI_neg hk
    have e : decide (knI n.kind = (n.fs.length : Int)) = false := decide_eq_false (by omega)
    rw [e]; simp
  · have e : decide (knI n.kind = (n.fs.length : Int)) = decide ((n.fs.length : Int) = knI n.kind) := by rw [decide_eq_decide]; exact ⟨fun h => h.symm, fun h => h.symm⟩
    rw [e]
    by_cases hz : n.kind = 0
    · simp only [hz, decide_true, Bool.not_true, Bool.false_or, Bool.true_and]
      cases rvB n.row <;> simp
    · simp only [hz, decide_false, Bool.not_false, Bool.true_or, Bool.and_true, Bool.true_and]
      by_cases hl : n.row.length = 0
      · have : n.row = [] := List.eq_nil_of_length_eq_zero hl
        have hr : rvB n.row = true := by rw [this]; rfl
        rw [hr]; simp
      · simp [hl]
theorem fits_parts {n : Nd} {at_ : Int} (h : fitsB n at_ = true) : (n.fs.length : Int) = knI n.kind ∧ ∀ q, q < n.fs.length → 0 ≤ n.fs.getD q 0 ∧ n.fs.getD q 0 < at_ := by
  unfold fitsB at h
  simp only [Bool.and_eq_true, decide_eq_true_eq] at h
  obtain ⟨⟨⟨-, h1⟩, h2⟩, -⟩ := h
  refine ⟨h1, fun q hq => ?_⟩
  unfold fsB at h2
  rw [all_getD] at h2
  have := h2 q hq
  rw [inB_at] at this
  simpa using this
theorem wideF_nonneg : ∀ ns : List Nd, 0 ≤ wideF ns
  | [] => Int.le_refl _
  | n :: ns => by rw [wideF_cons]; split; omega; exact wideF_nonneg ns

/-- Rows of pointers: all name nodes below k, and none has more than c. -/
def Bnd (L : Nat → Nat → List Nat) (k c : Nat) : Prop := (∀ s i x, x ∈ L s i → x < k) ∧ (∀ s i, (L s i).length ≤ c) ∧ ∀ s i, k ≤ i → L s i = []
theorem Bnd.link {L : Nat → Nat → List Nat} {k c i j : Nat} (h : Bnd L k c) (hi : i < k) (hj : j < k) : Bnd (linkL L j i) k (c + 1) := by
  obtain ⟨h1, h2, h3⟩ := h
  unfold linkL
  split
  · exact ⟨h1, fun s i => Nat.le_succ_of_le (h2 s i), h3⟩
  · refine ⟨fun s i' x hx => ?_, fun s i' => ?_, fun s i' hi' => ?_⟩
    · unfold upd at hx
      split at hx
      · simp at hx
        rcases hx with hx | rfl
        · exact h1 _ _ _ hx
        · exact hj
      · split at hx
        · simp at hx
          rcases hx with hx | rfl
          · exact h1 _ _ _ hx
          · exact hi
        · exact h1 _ _ _ hx
    · unfold upd
      split
      · simp; exact h2 _ _
      · split
        · simp; exact h2 _ _
        · exact Nat.le_succ_of_le (h2 _ _)
    · unfold upd
      rw [if_neg (by omega), if_neg (by omega)]
      exact h3 _ _ hi'
theorem Bnd.up {L : Nat → Nat → List Nat} {k c : Nat} (h : Bnd L k c) : Bnd L (k + 1) c := ⟨fun s i x hx => Nat.lt_succ_of_lt (h.1 s i x hx), h.2.1, fun s i hi => h.2.2 s i (by omega)⟩
/-- Node j linked to all of fs. -/
def links (L : Nat → Nat → List Nat) (j : Nat) (fs : List Int) : Nat → Nat → List Nat := fs.foldl (fun L f => linkL L j f.toNat) L
theorem links_take {L : Nat → Nat → List Nat} {j : Nat} {fs : List Int} {q : Nat} (hq : q < fs.length) : links L j (fs.take (q + 1)) = linkL (links L j (fs.take q)) j (fs.getD q 0).toNat := by
  unfold links
  rw [List.take_add_one, List.foldl_append]
  simp [hq]
theorem Bnd.links {L : Nat → Nat → List Nat} {k c j : Nat} {fs : List Int} (h : Bnd L k c) (hj : j < k) (hf : ∀ q, q < fs.length → (fs.getD q 0).toNat < k) : ∀ q, q ≤ fs.length → Bnd (links L j (fs.take q)) k (c + q)
  | 0, _ => by simpa [Go.Proofs.Yteelobokjidphaa.links] using h
  | q + 1, hq => by
    rw [links_take (by omega)]
    exact (Bnd.links h hj hf q (by omega)).link (hf q (by omega)) hj
/-- The rows of pointers of the first k nodes' graph. -/
def lk (ns : List Nd) : Nat → Nat → Nat → List Nat
  | 0 => fun _ _ => []
  | k + 1 => links (lk ns k) k (ns.getD k nd0).fs
theorem lk_bnd {ns : List Nd} : ∀ k, (∀ j, j < k → fitsB (ns.getD j nd0) j = true) → Bnd (lk ns k) k (2 * k)
  | 0, _ => ⟨fun s i x hx => by simp [lk] at hx, fun s i => by simp [lk], fun s i _ => rfl⟩
  | k + 1, h => by
    have ih := lk_bnd k fun j hj => h j (by omega)
    obtain ⟨p1, p2⟩ := fits_parts (h k (by omega))
    have hb := ih.up.links (j := k) (fs := (ns.getD k nd0).fs) (by omega) (fun q hq => by have := p2 q hq; omega) _ (Nat.le_refl _)
    rw [List.take_length] at hb
    have := knI_le (ns.getD k nd0).kind
    exact ⟨hb.1, fun s i => Nat.le_trans (hb.2.1 s i) (by omega), hb.2.2⟩
end Go.Proofs.Yteelobokjidphaa
