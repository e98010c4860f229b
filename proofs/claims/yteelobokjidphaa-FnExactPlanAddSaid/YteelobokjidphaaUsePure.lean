/- Who needs a node, what a node needs: plain lists. No condition. -/
import Derived.Test.YteelobokjidphaaPlanPure
namespace Go.Proofs.Yteelobokjidphaa
open Go.RowKit
set_option maxRecDepth 100000

def fsN (ns : List Nd) (i : Nat) : List Int := (ns.getD i nd0).fs
def numL (l : List Nat) : List Int := l.map fun (i : Nat) => (i : Int)
theorem numL_length (l : List Nat) : (numL l).length = l.length := by simp [numL]
theorem numL_app (l m : List Nat) : numL (l ++ m) = numL l ++ numL m := by simp [numL]
theorem mem_numL {l : List Nat} {x : Int} : x ∈ numL l ↔ ∃ i : Nat, i ∈ l ∧ x = (i : Int) := by
  unfold numL
  rw [List.mem_map]
  exact ⟨fun ⟨i, h1, h2⟩ => ⟨i, h1, h2.symm⟩, fun ⟨i, h1, h2⟩ => ⟨i, h1, h2.symm⟩⟩
theorem numL_getD {l : List Nat} {i : Nat} (h : i < l.length) : (numL l).getD i 0 = (l.getD i 0 : Nat) := by simp [numL, h]
def hasB (xs : List Int) (n : Int) : Bool := decide (n ∈ xs)
theorem hasB_true {xs : List Int} {n : Int} : hasB xs n = true ↔ n ∈ xs := by unfold hasB; exact decide_eq_true_iff
theorem hasB_false {xs : List Int} {n : Int} : hasB xs n = false ↔ ¬ n ∈ xs := by unfold hasB; exact decide_eq_false_iff_not
theorem hasB_at {xs : List Int} {n : Int} {k : Nat} (hk : k < xs.length) (h : xs.getD k 0 = n) : hasB xs n = true := by
  rw [hasB_true]
  have : xs.getD k 0 = xs[k] := by simp [hk]
  rw [← h, this]; exact List.getElem_mem _
theorem hasB_not {xs : List Int} {n : Int} (h : ∀ k, k < xs.length → xs.getD k 0 ≠ n) : hasB xs n = false := by
  rw [hasB_false]
  intro hm
  obtain ⟨k, hk, e⟩ := List.mem_iff_getElem.1 hm
  exact h k hk (by simp [hk, e])

/-- The nodes below k that need node a. -/
def usesN (ns : List Nd) (a : Int) (k : Nat) : List Nat := (List.range k).filter fun i => hasB (fsN ns i) a
theorem usesN_succ (ns : List Nd) (a : Int) (k : Nat) : usesN ns a (k + 1) = usesN ns a k ++ if hasB (fsN ns k) a = true then [k] else [] := by
  unfold usesN
  rw [List.range_succ, List.filter_append]
  cases h : hasB (fsN ns k) a <;> simp [h]
theorem mem_usesN {ns : List Nd} {a : Int} {k i : Nat} : i ∈ usesN ns a k ↔ i < k ∧ a ∈ fsN ns i := by
  unfold usesN
  rw [List.mem_filter, List.mem_range, hasB_true]
theorem usesN_length (ns : List Nd) (a : Int) (k : Nat) : (usesN ns a k).length ≤ k := by
  unfold usesN
  have := List.length_filter_le (fun i => hasB (fsN ns i) a) (List.range k)
  simpa using this
def usesR (ns : List Nd) (a : Int) : List Int := if planB ns = true then numL (usesN ns a ns.length) else []

/-- All needs of the first k nodes are earlier nodes. -/
def Early (ns : List Nd) (k : Nat) : Prop := ∀ i, i < k → ∀ x, x ∈ fsN ns i → 0 ≤ x ∧ x < (i : Int)
theorem Early.of_fits {ns : List Nd} {k : Nat} (h : ∀ j : Nat, j < k → fitsB (ns.getD j nd0) j = true) : Early ns k := by
  intro i hi x hx
  obtain ⟨q, hq, e⟩ := List.mem_iff_getElem.1 hx
  have := (fits_parts (h i hi)).2 q hq
  have e2 : (ns.getD i nd0).fs.getD q 0 = x := by
    unfold fsN at e hq
    rw [← e, List.getD, List.getElem?_eq_getElem hq]; rfl
  rw [e2] at this
  exact this
theorem Early.plan {ns : List Nd} (h : planB ns = true) : Early ns ns.length := Early.of_fits fun j hj => by
  have := planB_node h hj
  rw [nodeB_fits] at this
  simp only [Bool.and_eq_true] at this
  exact this.1
theorem fits_plan {ns : List Nd} (h : planB ns = true) : ∀ j : Nat, j < ns.length → fitsB (ns.getD j nd0) j = true := fun j hj => by
  have := planB_node h hj
  rw [nodeB_fits] at this
  simp only [Bool.and_eq_true] at this
  exact this.1
theorem usesR_out {ns : List Nd} {a : Int} (h : a < 0 ∨ (ns.length : Int) ≤ a) : usesR ns a = [] := by
  unfold usesR
  by_cases hp : planB ns = true
  · rw [if_pos hp]
    have : usesN ns a ns.length = [] := by
      refine List.eq_nil_iff_forall_not_mem.2 fun i hi => ?_
      obtain ⟨h1, h2⟩ := mem_usesN.1 hi
      have := Early.plan hp i h1 a h2
      omega
    rw [this]; rfl
  · rw [if_neg hp]
theorem usesR_len {ns : List Nd} (a : Int) : (usesR ns a).length ≤ 1048576 := by
  unfold usesR
  by_cases hp : planB ns = true
  · rw [if_pos hp, numL_length]
    have := usesN_length ns a ns.length
    have := planB_len hp
    omega
  · rw [if_neg hp]; simp

/-! ### The rows of the graph -/
theorem linkL_self (L : Nat → Nat → List Nat) (j i : Nat) (h : i ∈ L 1 j) : linkL L j i = L := by unfold linkL; rw [if_pos h]
theorem linkL_1 (L : Nat → Nat → List Nat) (j i k : Nat) : linkL L j i 1 k = if k = j ∧ ¬ i ∈ L 1 j then L 1 j ++ [i] else L 1 k := by
  unfold linkL
  by_cases h : i ∈ L 1 j
  · rw [if_pos h, if_neg (fun e => e.2 h)]
  · rw [if_neg h]
    rw [upd_ne _ _ (by omega)]
    by_cases e : k = j
    · subst e; rw [upd_at, if_pos ⟨rfl, h⟩]
    · rw [upd_ne _ _ (by omega), if_neg (fun e2 => e e2.1)]
theorem linkL_2 (L : Nat → Nat → List Nat) (j i k : Nat) : linkL L j i 2 k = if k = i ∧ ¬ i ∈ L 1 j then L 2 i ++ [j] else L 2 k := by
  unfold linkL
  by_cases h : i ∈ L 1 j
  · rw [if_pos h, if_neg (fun e => e.2 h)]
  · rw [if_neg h]
    by_cases e : k = i
    · subst e; rw [upd_at, if_pos ⟨rfl, h⟩]
    · rw [upd_ne _ _ (by omega), upd_ne _ _ (by omega), if_neg (fun e2 => e e2.1)]
theorem links_snoc (L : Nat → Nat → List Nat) (j : Nat) (fs : List Int) (f : Int) : links L j (fs ++ [f]) = linkL (links L j fs) j f.toNat := by
  unfold links; rw [List.foldl_append]; rfl
theorem links_spec (L : Nat → Nat → List Nat) (j : Nat) (h0 : L 1 j = []) : ∀ fs : List Int,
    (∀ x : Nat, x ∈ links L j fs 1 j ↔ ∃ f ∈ fs, x = f.toNat) ∧ (∀ k, k ≠ j → links L j fs 1 k = L 1 k) ∧ ∀ a : Nat, links L j fs 2 a = L 2 a ++ if a ∈ links L j fs 1 j then [j] else [] := by
  intro fs
  have key : ∀ n : Nat, n ≤ fs.length → (∀ x : Nat, x ∈ links L j (fs.take n) 1 j ↔ ∃ f ∈ fs.take n, x = f.toNat) ∧ (∀ k, k ≠ j → links L j (fs.take n) 1 k = L 1 k) ∧ ∀ a : Nat, links L j (fs.take n) 2 a = L 2 a ++ if a ∈ links L j (fs.take n) 1 j then [j] else [] := by
    intro n
    induction n with
    | zero =>
      intro _
      have e : links L j (fs.take 0) = L := by simp [links]
      rw [e, h0]
      refine ⟨fun x => by simp, fun k _ => rfl, fun a => by simp⟩
    | succ n ih =>
      intro hn
      obtain ⟨i1, i2, i3⟩ := ih (by omega)
      have et : fs.take (n + 1) = fs.take n ++ [fs[n]] := by rw [List.take_add_one]; simp [show n < fs.length by omega]
      generalize fs[n] = f at et
      rw [et, links_snoc]
      generalize links L j (fs.take n) = M at i1 i2 i3
      refine ⟨fun x => ?_, fun k hk => ?_, fun a => ?_⟩
      · rw [linkL_1]
        by_cases hm : f.toNat ∈ M 1 j
        · rw [if_neg (fun e => e.2 hm), i1]
          constructor
          · rintro ⟨g, hg, rfl⟩; exact ⟨g, by simp [hg], rfl⟩
          · rintro ⟨g, hg, rfl⟩
            simp only [List.mem_append, List.mem_singleton] at hg
            rcases hg with hg | rfl
            · exact ⟨g, hg, rfl⟩
            · exact (i1 _).1 hm
        · rw [if_pos ⟨rfl, hm⟩, List.mem_append, i1]
          constructor
          · rintro (⟨g, hg, rfl⟩ | hx)
            · exact ⟨g, by simp [hg], rfl⟩
            · simp only [List.mem_singleton] at hx
              exact ⟨f, by simp, hx⟩
          · rintro ⟨g, hg, rfl⟩
            simp only [List.mem_append, List.mem_singleton] at hg
            rcases hg with hg | rfl
            · exact .inl ⟨g, hg, rfl⟩
            · exact .inr (by simp)
      · rw [linkL_1, if_neg (fun e => hk e.1), i2 k hk]
      · rw [linkL_2, linkL_1]
        by_cases hm : f.toNat ∈ M 1 j
        · rw [if_neg (show ¬ (a = f.toNat ∧ ¬ f.toNat ∈ M 1 j) from fun e => e.2 hm), if_neg (show ¬ (j = j ∧ ¬ f.toNat ∈ M 1 j) from fun e => e.2 hm), i3 a]
        · rw [if_pos (show j = j ∧ ¬ f.toNat ∈ M 1 j from ⟨rfl, hm⟩)]
          by_cases ha : a = f.toNat
          · subst ha
            rw [if_pos ⟨rfl, hm⟩, i3, if_neg hm, List.append_nil, if_pos (by simp)]
          · rw [if_neg (fun e => ha e.1), i3 a]
            simp only [List.mem_append, List.mem_singleton, ha, or_false]
  have := key fs.length (Nat.le_refl _)
  rw [List.take_length] at this
  exact this

/-- What the graph of the first k nodes holds. -/
theorem lk_spec {ns : List Nd} : ∀ k, Early ns k → (∀ i, k ≤ i → lk ns k 1 i = []) ∧ (∀ i, i < k → ∀ x : Nat, x ∈ lk ns k 1 i ↔ (x : Int) ∈ fsN ns i) ∧ ∀ a : Nat, lk ns k 2 a = usesN ns a k
  | 0, _ => ⟨fun _ _ => rfl, fun i hi => by omega, fun a => rfl⟩
  | k + 1, h => by
    obtain ⟨i1, i2, i3⟩ := lk_spec k (fun i hi => h i (by omega))
    obtain ⟨s1, s2, s3⟩ := links_spec (lk ns k) k (i1 k (Nat.le_refl _)) (ns.getD k nd0).fs
    have hmem : ∀ x : Nat, x ∈ lk ns (k + 1) 1 k ↔ (x : Int) ∈ fsN ns k := fun x => by
      show x ∈ links (lk ns k) k (ns.getD k nd0).fs 1 k ↔ _
      rw [s1]
      constructor
      · rintro ⟨f, hf, rfl⟩
        have := h k (by omega) f hf
        rw [Int.toNat_of_nonneg this.1]
        exact hf
      · intro hx
        exact ⟨_, hx, by simp⟩
    refine ⟨fun i hi => ?_, fun i hi x => ?_, fun a => ?_⟩
    · show links (lk ns k) k (ns.getD k nd0).fs 1 i = []
      rw [s2 i (by omega)]
      exact i1 i (by omega)
    · by_cases e : i = k
      · subst e; exact hmem x
      · show x ∈ links (lk ns k) k (ns.getD k nd0).fs 1 i ↔ _
        rw [s2 i e]
        exact i2 i (by omega) x
    · show links (lk ns k) k (ns.getD k nd0).fs 2 a = _
      rw [s3 a, i3 a, usesN_succ]
      congr 1
      have := hmem a
      by_cases hx : hasB (fsN ns k) a = true
      · rw [if_pos hx, if_pos]
        exact this.2 (hasB_true.1 hx)
      · rw [if_neg hx, if_neg]
        intro e
        exact hx (hasB_true.2 (this.1 e))

/-! ### Ends -/
def endsN (ns : List Nd) (k : Nat) : List Nat := (List.range k).filter fun i => decide (usesN ns i ns.length = [])
def endsR (ns : List Nd) : List Int := if planB ns = true then numL (endsN ns ns.length) else []
theorem endsN_succ (ns : List Nd) (k : Nat) : endsN ns (k + 1) = endsN ns k ++ if usesN ns k ns.length = [] then [k] else [] := by
  unfold endsN
  rw [List.range_succ, List.filter_append]
  by_cases h : usesN ns k ns.length = [] <;> simp [h]
theorem mem_endsN {ns : List Nd} {k i : Nat} : i ∈ endsN ns k ↔ i < k ∧ usesN ns i ns.length = [] := by
  unfold endsN
  rw [List.mem_filter, List.mem_range, decide_eq_true_iff]
theorem endsN_length (ns : List Nd) (k : Nat) : (endsN ns k).length ≤ k := by
  unfold endsN
  have := List.length_filter_le (fun (i : Nat) => decide (usesN ns i ns.length = [])) (List.range k)
  simpa using this
theorem endsR_len (ns : List Nd) : (endsR ns).length ≤ 1048576 := by
  unfold endsR
  by_cases hp : planB ns = true
  · rw [if_pos hp, numL_length]
    have := endsN_length ns ns.length
    have := planB_len hp
    omega
  · rw [if_neg hp]; simp

/-! ### Needs -/
/-- The reference's way: from node i-1 down, who is in brings in what it needs. -/
def downN (ns : List Nd) : Nat → (Nat → Bool) → Nat → Bool
  | 0, s => s
  | i + 1, s => downN ns i fun x => s x || (s i && hasB (fsN ns i) x)
theorem downN_mono (ns : List Nd) : ∀ (i : Nat) (s : Nat → Bool) (x : Nat), s x = true → downN ns i s x = true
  | 0, _, _, h => h
  | i + 1, s, x, h => downN_mono ns i _ x (by simp [h])
theorem downN_high {ns : List Nd} : ∀ (i : Nat) (s : Nat → Bool) (x : Nat), Early ns i → i ≤ x + 1 → downN ns i s x = s x
  | 0, _, _, _, _ => rfl
  | i + 1, s, x, h, hx => by
    show downN ns i _ x = s x
    rw [downN_high i _ x (fun j hj => h j (by omega)) (by omega)]
    have : hasB (fsN ns i) x = false := hasB_false.2 fun e => by have := h i (by omega) _ e; omega
    rw [this, Bool.and_false, Bool.or_false]
theorem downN_closed {ns : List Nd} : ∀ (i : Nat) (s : Nat → Bool), Early ns i → ∀ j, j < i → downN ns i s j = true → ∀ x : Nat, (x : Int) ∈ fsN ns j → downN ns i s x = true
  | 0, _, _, j, hj, _, _, _ => by omega
  | i + 1, s, h, j, hj, hd, x, hx => by
    show downN ns i _ x = true
    have h' : Early ns i := fun j hj => h j (by omega)
    by_cases e : j = i
    · subst e
      have hi : hasB (fsN ns j) (j : Int) = false := hasB_false.2 fun e => by have := h j (by omega) _ e; omega
      have hs : s j = true := by
        have h1 : downN ns j (fun x => s x || (s j && hasB (fsN ns j) x)) j = true := hd
        rw [downN_high j _ j h' (by omega), hi] at h1
        simpa using h1
      refine downN_mono ns j _ x ?_
      simp [hs, hasB_true.2 hx]
    · exact downN_closed i _ h' j (by omega) hd x hx
theorem downN_least {ns : List Nd} {T : Nat → Prop} : ∀ (i : Nat) (s : Nat → Bool), (∀ j, j < i → T j → ∀ x : Nat, (x : Int) ∈ fsN ns j → T x) → (∀ x, s x = true → T x) → ∀ x, downN ns i s x = true → T x
  | 0, _, _, hs, x, hx => hs x hx
  | i + 1, s, hc, hs, x, hx => downN_least i _ (fun j hj => hc j (by omega)) (fun y hy => by
      simp only [Bool.or_eq_true, Bool.and_eq_true] at hy
      rcases hy with hy | ⟨hy1, hy2⟩
      · exact hs y hy
      · exact hc i (by omega) (hs i hy1) y (hasB_true.1 hy2)) x hx

/-- Node a and all that it needs. -/
def goB (ns : List Nd) (a : Nat) : Nat → Bool := downN ns ns.length fun x => decide (x = a)
theorem goB_self (ns : List Nd) (a : Nat) : goB ns a a = true := downN_mono ns _ _ a (by simp)
theorem goB_least {ns : List Nd} {a : Nat} {T : Nat → Prop} (ha : T a) (hc : ∀ j, j < ns.length → T j → ∀ x : Nat, (x : Int) ∈ fsN ns j → T x) {x : Nat} (hx : goB ns a x = true) : T x :=
  downN_least ns.length _ hc (fun y hy => by have := of_decide_eq_true hy; rw [this]; exact ha) x hx
theorem goB_le {ns : List Nd} {a x : Nat} (h : Early ns ns.length) (hx : goB ns a x = true) : x ≤ a :=
  goB_least (T := fun x => x ≤ a) (Nat.le_refl a) (fun j hj hT y hy => by have := h j hj _ hy; omega) hx
theorem goB_closed {ns : List Nd} {a j x : Nat} (h : Early ns ns.length) (hj : j < ns.length) (hd : goB ns a j = true) (hx : (x : Int) ∈ fsN ns j) : goB ns a x = true := downN_closed ns.length _ h j hj hd x hx
/-- The nodes that node a needs, directly or not. -/
def needsN (ns : List Nd) (a : Nat) : List Nat := (List.range a).filter (goB ns a)
def needsR (ns : List Nd) (a : Int) : List Int := if planB ns = true ∧ 0 ≤ a ∧ a < ns.length then numL (needsN ns a.toNat) else []
theorem mem_needsN {ns : List Nd} {a x : Nat} : x ∈ needsN ns a ↔ x < a ∧ goB ns a x = true := by
  unfold needsN
  rw [List.mem_filter, List.mem_range]
theorem needsN_length (ns : List Nd) (a : Nat) : (needsN ns a).length ≤ a := by
  unfold needsN
  have := List.length_filter_le (goB ns a) (List.range a)
  simpa using this
theorem needsR_len {ns : List Nd} (a : Int) : (needsR ns a).length ≤ 1048576 := by
  unfold needsR
  by_cases hp : planB ns = true ∧ 0 ≤ a ∧ a < ns.length
  · rw [if_pos hp, numL_length]
    have := needsN_length ns a.toNat
    have := planB_len hp.1
    omega
  · rw [if_neg hp]; simp
theorem filter_range {p : Nat → Bool} {a n : Nat} (han : a ≤ n) (h : ∀ x, x < n → p x = true → x < a) : (List.range n).filter p = (List.range a).filter p := by
  obtain ⟨b, rfl⟩ : ∃ b, n = a + b := ⟨n - a, by omega⟩
  rw [List.range_add, List.filter_append]
  have : ((List.range b).map (a + ·)).filter p = [] := by
    refine List.filter_eq_nil_iff.2 fun x hx => ?_
    obtain ⟨y, hy, rfl⟩ := List.mem_map.1 hx
    rw [List.mem_range] at hy
    intro e
    have := h _ (by omega) e
    omega
  rw [this, List.append_nil]
theorem filter_goB {ns : List Nd} {a : Nat} (h : Early ns ns.length) (ha : a < ns.length) : (List.range ns.length).filter (goB ns a) = needsN ns a ++ [a] := by
  rw [filter_range (a := a + 1) (by omega) (fun x _ hx => by have := goB_le h hx; omega), List.range_succ, List.filter_append]
  simp [needsN, goB_self]

/-- The program's way: mark what a node needs that is not marked yet, and go on from there. -/
def markF (L : Nat → List Nat) : Nat → Nat → (Nat → Bool) → (Nat → Bool)
  | 0, _, s => s
  | f + 1, n, s => (L n).foldl (fun s m => if s m = true then s else markF L f m fun x => s x || decide (x = m)) s
def markG (L : Nat → List Nat) (f : Nat) : List Nat → (Nat → Bool) → (Nat → Bool) := fun l s => l.foldl (fun s m => if s m = true then s else markF L f m fun x => s x || decide (x = m)) s
theorem markG_cons (L : Nat → List Nat) (f m : Nat) (l : List Nat) (s : Nat → Bool) : markG L f (m :: l) s = markG L f l (if s m = true then s else markF L f m fun x => s x || decide (x = m)) := rfl
theorem markF_succ (L : Nat → List Nat) (f n : Nat) (s : Nat → Bool) : markF L (f + 1) n s = markG L f (L n) s := rfl
theorem markG_snoc (L : Nat → List Nat) (f m : Nat) (l : List Nat) (s : Nat → Bool) : markG L f (l ++ [m]) s = if markG L f l s m = true then markG L f l s else markF L f m fun x => markG L f l s x || decide (x = m) := by
  unfold markG; rw [List.foldl_append]; rfl

theorem markG_least {L : Nat → List Nat} {f : Nat} {T : Nat → Prop} (ih : ∀ n s, (∀ k ∈ L n, T k) → (∀ x, s x = true → T x) → ∀ x, markF L f n s x = true → T x) (hc : ∀ m, T m → ∀ k ∈ L m, T k) :
    ∀ (l : List Nat) (s : Nat → Bool), (∀ k ∈ l, T k) → (∀ x, s x = true → T x) → ∀ x, markG L f l s x = true → T x
  | [], s, _, hs, x, hx => hs x hx
  | m :: l, s, hl, hs, x, hx => by
    rw [markG_cons] at hx
    refine markG_least ih hc l _ (fun k hk => hl k (List.mem_cons_of_mem _ hk)) ?_ x hx
    have hm := hl m List.mem_cons_self
    by_cases e : s m = true
    · rw [if_pos e]; exact hs
    · rw [if_neg e]
      exact ih m _ (hc m hm) (fun y hy => by
        simp only [Bool.or_eq_true, decide_eq_true_eq] at hy
        rcases hy with hy | rfl
        · exact hs y hy
        · exact hm)
theorem markF_least {L : Nat → List Nat} {T : Nat → Prop} (hc : ∀ m, T m → ∀ k ∈ L m, T k) : ∀ (f n : Nat) (s : Nat → Bool), (∀ k ∈ L n, T k) → (∀ x, s x = true → T x) → ∀ x, markF L f n s x = true → T x
  | 0, _, _, _, hs, x, hx => hs x hx
  | f + 1, n, s, hn, hs, x, hx => markG_least (fun n s => markF_least hc f n s) hc (L n) s hn hs x hx

/-- What one marking leaves: nothing is unmarked, only lower nodes are marked, all needs are marked, and what is marked below n has its needs marked. -/
def Marks (L : Nat → List Nat) (n : Nat) (s s' : Nat → Bool) : Prop :=
  (∀ x, s x = true → s' x = true) ∧ (∀ x, s' x = true → s x = true ∨ x < n) ∧ ∀ m, m < n → s' m = true → ∀ k ∈ L m, s' k = true
theorem markG_marks {L : Nat → List Nat} (hL : ∀ i, ∀ x ∈ L i, x < i) {f n : Nat} (ih : ∀ m s, m < f → (∀ y, y < m → s y = true → ∀ k ∈ L y, s k = true) → Marks L m s (markF L f m s) ∧ ∀ k ∈ L m, markF L f m s k = true) (hf : n ≤ f) :
    ∀ (l : List Nat) (s : Nat → Bool), (∀ k ∈ l, k < n) → (∀ y, y < n → s y = true → ∀ k ∈ L y, s k = true) → Marks L n s (markG L f l s) ∧ ∀ k ∈ l, markG L f l s k = true
  | [], s, _, hc => ⟨⟨fun x h => h, fun x h => .inl h, hc⟩, fun k hk => by simp at hk⟩
  | m :: l, s, hl, hc => by
    rw [markG_cons]
    have hmn := hl m List.mem_cons_self
    have hl' : ∀ k ∈ l, k < n := fun k hk => hl k (List.mem_cons_of_mem _ hk)
    by_cases e : s m = true
    · rw [if_pos e]
      obtain ⟨p1, p2⟩ := markG_marks hL ih hf l s hl' hc
      refine ⟨p1, fun k hk => ?_⟩
      rcases List.mem_cons.1 hk with rfl | hk
      · exact p1.1 _ e
      · exact p2 k hk
    · rw [if_neg e]
      obtain ⟨⟨q1, q2, q3⟩, q4⟩ := ih m (fun x => s x || decide (x = m)) (by omega) (fun y hy hs k hk => by
        simp only [Bool.or_eq_true, decide_eq_true_eq] at hs ⊢
        rcases hs with hs | rfl
        · exact .inl (hc y (by omega) hs k hk)
        · omega)
      have hm : markF L f m (fun x => s x || decide (x = m)) m = true := q1 m (by simp)
      have hc2 : ∀ y, y < n → markF L f m (fun x => s x || decide (x = m)) y = true → ∀ k ∈ L y, markF L f m (fun x => s x || decide (x = m)) k = true := fun y hy hs k hk => by
        rcases Nat.lt_trichotomy y m with h | rfl | h
        · exact q3 y h hs k hk
        · exact q4 k hk
        · rcases q2 y hs with h2 | h2
          · simp only [Bool.or_eq_true, decide_eq_true_eq] at h2
            rcases h2 with h2 | h2
            · exact q1 k (by simp [hc y hy h2 k hk])
            · omega
          · omega
      obtain ⟨⟨p1, p2, p3⟩, p4⟩ := markG_marks hL ih hf l _ hl' hc2
      refine ⟨⟨fun x hx => p1 x (q1 x (by simp [hx])), fun x hx => ?_, p3⟩, fun k hk => ?_⟩
      · rcases p2 x hx with h | h
        · rcases q2 x h with h | h
          · simp only [Bool.or_eq_true, decide_eq_true_eq] at h
            rcases h with h | rfl
            · exact .inl h
            · exact .inr hmn
          · exact .inr (by omega)
        · exact .inr h
      · rcases List.mem_cons.1 hk with rfl | hk
        · exact p1 _ hm
        · exact p4 k hk
theorem markF_marks {L : Nat → List Nat} (hL : ∀ i, ∀ x ∈ L i, x < i) : ∀ (f n : Nat) (s : Nat → Bool), n < f → (∀ y, y < n → s y = true → ∀ k ∈ L y, s k = true) → Marks L n s (markF L f n s) ∧ ∀ k ∈ L n, markF L f n s k = true
  | 0, _, _, h, _ => by omega
  | f + 1, n, s, h, hc => markG_marks hL (fun m s hm hc => markF_marks hL f m s hm hc) (by omega) (L n) s (hL n) hc

/-- Both ways lead to the same. -/
theorem mark_goB {ns : List Nd} (h : Early ns ns.length) {a f : Nat} (ha : a < ns.length) (hf : a < f) (x : Nat) : markF (lk ns ns.length 1) f a (fun _ => false) x = (goB ns a x && decide (x < a)) := by
  obtain ⟨i1, i2, -⟩ := lk_spec ns.length h
  have hin : ∀ i, ∀ x ∈ lk ns ns.length 1 i, i < ns.length ∧ (x : Int) ∈ fsN ns i := fun i x hx => by
    by_cases hi : i < ns.length
    · exact ⟨hi, (i2 i hi x).1 hx⟩
    · rw [i1 i (by omega)] at hx; simp at hx
  have hL : ∀ i, ∀ x ∈ lk ns ns.length 1 i, x < i := fun i x hx => by
    obtain ⟨h1, h2⟩ := hin i x hx
    have := h i h1 _ h2
    omega
  obtain ⟨⟨-, q2, q3⟩, q4⟩ := markF_marks hL f a (fun _ => false) hf (fun y _ h => by simp at h)
  rw [Bool.eq_iff_iff]
  simp only [Bool.and_eq_true, decide_eq_true_eq]
  constructor
  · intro hx
    refine markF_least (T := fun x => goB ns a x = true ∧ x < a) (fun m hm k hk => ?_) f a _ (fun k hk => ?_) (fun y hy => by simp at hy) x hx
    · obtain ⟨h1, h2⟩ := hin m k hk
      exact ⟨goB_closed h h1 hm.1 h2, by have := hL m k hk; omega⟩
    · obtain ⟨h1, h2⟩ := hin a k hk
      exact ⟨goB_closed h h1 (goB_self ns a) h2, hL a k hk⟩
  · rintro ⟨hx, hlt⟩
    have := goB_least (T := fun x => x = a ∨ (x < a ∧ markF (lk ns ns.length 1) f a (fun _ => false) x = true)) (.inl rfl) (fun j hj hT y hy => by
      have hm := (i2 j hj y).2 hy
      rcases hT with rfl | ⟨h1, h2⟩
      · exact .inr ⟨hL _ _ hm, q4 y hm⟩
      · exact .inr ⟨by have := hL _ _ hm; omega, q3 j h1 h2 y hm⟩) hx
    rcases this with rfl | h2
    · omega
    · exact h2.2
theorem needs_mark {ns : List Nd} (h : Early ns ns.length) {a f n : Nat} (ha : a < ns.length) (hf : a < f) (hn : a ≤ n) : (List.range n).filter (markF (lk ns ns.length 1) f a fun _ => false) = needsN ns a := by
  rw [filter_range hn (fun x _ hx => by rw [mark_goB h ha hf] at hx; simp only [Bool.and_eq_true, decide_eq_true_eq] at hx; exact hx.2)]
  unfold needsN
  refine List.filter_congr fun x hx => ?_
  rw [List.mem_range] at hx
  rw [mark_goB h ha hf, decide_eq_true hx, Bool.and_true]

set_option maxRecDepth 100000

def readyB (ns : List Nd) (done : List Int) (i : Nat) : Bool := !hasB done i && (fsN ns i).all (hasB done)
def readyN (ns : List Nd) (done : List Int) (k : Nat) : List Nat := (List.range k).filter (readyB ns done)
def readyR (ns : List Nd) (done : List Int) : List Int := if planB ns = true then numL (readyN ns done ns.length) else []
theorem readyN_succ (ns : List Nd) (done : List Int) (k : Nat) : readyN ns done (k + 1) = readyN ns done k ++ if readyB ns done k = true then [k] else [] := by
  unfold readyN
  rw [List.range_succ, List.filter_append]
  by_cases h : readyB ns done k = true <;> simp [h]
theorem mem_readyN {ns : List Nd} {done : List Int} {k i : Nat} : i ∈ readyN ns done k ↔ i < k ∧ readyB ns done i = true := by
  unfold readyN
  rw [List.mem_filter, List.mem_range]
theorem readyN_length (ns : List Nd) (done : List Int) (k : Nat) : (readyN ns done k).length ≤ k := by
  unfold readyN
  have := List.length_filter_le (readyB ns done) (List.range k)
  simpa using this
theorem readyR_len (ns : List Nd) (done : List Int) : (readyR ns done).length ≤ 10 := by
  unfold readyR
  by_cases hp : planB ns = true
  · rw [if_pos hp, numL_length]
    have := readyN_length ns done ns.length
    have := planB_len hp
    omega
  · rw [if_neg hp]; simp

/-- The next one of an order. -/
def stepB (ns : List Nd) (pre : List Int) (x : Int) : Bool := inB x 0 ((ns.length : Int) - 1) && !hasB pre x && (fsN ns x.toNat).all (hasB pre)
def beginsB (ns : List Nd) (order : List Int) : Bool := (List.range order.length).all fun i => stepB ns (order.take i) (order.getD i 0)
def orderB (ns : List Nd) (order : List Int) : Bool := planB ns && decide (order.length = ns.length) && beginsB ns order
theorem beginsB_true {ns : List Nd} {order : List Int} (h : ∀ i, i < order.length → stepB ns (order.take i) (order.getD i 0) = true) : beginsB ns order = true := by
  unfold beginsB
  simp only [List.all_eq_true, List.mem_range]
  exact h
theorem beginsB_at {ns : List Nd} {order : List Int} (h : beginsB ns order = true) {i : Nat} (hi : i < order.length) : stepB ns (order.take i) (order.getD i 0) = true := by
  unfold beginsB at h
  simp only [List.all_eq_true, List.mem_range] at h
  exact h i hi
theorem beginsB_false {ns : List Nd} {order : List Int} {i : Nat} (hi : i < order.length) (h : stepB ns (order.take i) (order.getD i 0) = false) : beginsB ns order = false := by
  cases h1 : beginsB ns order
  · rfl
  · rw [beginsB_at h1 hi] at h; cases h
theorem all_hasB {xs ys : List Int} : xs.all (hasB ys) = true ↔ ∀ x ∈ xs, x ∈ ys := by
  rw [List.all_eq_true]
  exact ⟨fun h x hx => hasB_true.1 (h x hx), fun h x hx => hasB_true.2 (h x hx)⟩
end Go.Proofs.Yteelobokjidphaa
