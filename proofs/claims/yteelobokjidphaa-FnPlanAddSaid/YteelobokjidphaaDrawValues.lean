/- The contracts of the drawings of a step and of a new node. No condition. -/
import Derived.Test.YteelobokjidphaaDrawPlans
import Derived.Test.YteelobokjidphaaGrid
import Derived.OwnWalk
namespace Go.Proofs.Yteelobokjidphaa
open Go.RowKit
set_option maxRecDepth 100000

theorem wideF_short : ∀ {ns : List Nd}, (∀ n ∈ ns, n.fs.length ≤ 2 ∧ n.row.length ≤ 4) → wideF ns ≤ 4
  | [], _ => by simp [wideF]
  | n :: ns, h => by
    rw [wideF_cons]
    have h1 := (h n (by simp)).2
    split
    · omega
    · exact wideF_short fun m hm => h m (by simp [hm])
/-- A plan, a number, rows. -/
def PlanRowsGot (w : World) (e : Ending) (w' : World) : Prop :=
  ∃ vp ns a vr xss, e = .returned (.tuple #[vp, .int .i64 a, vr]) ∧ PR False w' w.heap.size w'.heap.size vp ns ∧ Short ns ∧ RS w' w'.heap.size vr xss ∧ Below w.heap.size w w'
/-- A plan, a node. -/
def PlanNodeGot (w : World) (e : Ending) (w' : World) : Prop :=
  ∃ vp ns kd vf vr fs row, e = .returned (.tuple #[vp, .agg #[.int .i64 kd, vf, vr]]) ∧ PR False w' w.heap.size w'.heap.size vp ns ∧ Short ns ∧ RL w' vf fs ∧ RL w' vr row ∧ fs.length ≤ 2 ∧ row.length ≤ 4 ∧ Below w.heap.size w w'

set_option maxHeartbeats 4000000 in
theorem drawStep_any (v : Value) (xs : List Int) (w : World) (h : BL w v xs) : Calls Try.prog 45 #[v] w (PlanRowsGot w) := by
  obtain ⟨a, c, rfl, -⟩ := id h
  go_enter Try.func45, Try.ntmps45
  go_wp2_with fail
  refine (l6Open_any _ _ _ h).mono ?_
  rintro e w1 ⟨rfl, hrd, hb⟩
  have hs1 := hb.size
  have hlt1 := hrd.lt
  clear h
  go_wp2_with fail
  refine (l91At_any _ _ _ hrd).mono ?_
  rintro e w2 ⟨vo, ns, at_, rfl, hp, hsh, ha0, ha1, hrd2, hm⟩
  obtain ⟨wd, hwd⟩ := Int.eq_ofNat_of_zero_le (wideF_nonneg ns)
  have hw4 := wideF_short hsh.2
  have HSH := hid hsh
  have HWD := hid hwd
  have hb2 := hm.to_below hb hs1
  have hs2 := hm.size
  have hwd4 : wd ≤ 4 := by omega
  obtain ⟨a2, c2, rfl, -⟩ := hp.shape
  have mE := Mod.alloc w2 (.cells #[] 24)
  have hrdE := hrd2.mod mE (.inr rfl)
  have hgE : Grid (w2.alloc (.cells #[] 24)) w2.heap.size (.slice (some ⟨w2.heap.size, 0, none⟩) 0 0) [] := Grid.fresh0 w2 (Nat.le_refl _)
  have hpE := hp.mod mE (.inr (Nat.zero_le _))
  have hbE := mE.below0 hb2 hb2.size
  clear hsh hm hrd hrd2 hb hb2 hp hwd hw4 mE
  go_wp2_with fail
  refine (pick_any _ _ _ 12 _ hrdE (by omega) (by omega)).mono ?_
  rintro e w3 ⟨q3, rfl, -, -, -, hrd3, hm3⟩
  have hb3 := hm3.to_below hbE hbE.size
  have hg3 := hgE.mod hm3 (by omega)
  have hp3 : PR False w3 w1.heap.size w2.heap.size _ ns := hpE.mod hm3 (.inr (by omega))
  clear hrdE hm3 hgE hpE hbE
  by_cases h3 : q3 = 0
  · subst h3
    go_wp2_with fail
    refine (pick_any _ _ _ 9 _ hrd3 (by omega) (by omega)).mono ?_
    rintro e w4 ⟨q4, rfl, h40, h41, -, hrd4, hm4⟩
    have hb4 := hm4.to_below hb3 hb3.size
    have hg4 := hg3.mod hm4 (by omega)
    have hp4 := hp3.mod hm4 (.inr (by omega))
    have hA := h41 (by omega)
    clear hrd3 hm4 hb3 hg3 hp3 h41
    have hN11 : q4 ≤ 11 := by omega
    clear hA
    go_wp2_with fail
    go_loopw [8, 10] (fun o i wr => ∃ k : Nat, (k : Int) ≤ 11 ∧ (k = 0 ∨ (k : Int) ≤ q4) ∧ i = .int .i64 (k : Int) ∧ (∃ xss : List (List Int), xss.length = k ∧ Grid wr w2.heap.size o xss) ∧ RD wr w.heap.size w.heap.size (2100 + k * 30) ∧ PR False wr w1.heap.size w2.heap.size (.slice a2 ns.length c2) ns ∧ Below w.heap.size w wr) (fun _ i _ => 11 - (intOf i).toNat)
    case atStart => exact ⟨0, by omega, .inl rfl, rfl, ⟨[], rfl, hg4⟩, hrd4.up (by omega), hp4, hb4⟩
    case round =>
      clear hb4 hrd4 hg4 hp4
      obtain ⟨k, hk, hk0, rfl, ⟨xss, hxs, hgrid⟩, hrd, hp, hb⟩ := hrel
      have hrl := hrd.lt
      have hpl := hp.pl
      have HXS := hid hxs
      clear hxs
      by_cases hlt : (k : Int) < q4
      · go_wp2_with fail
        refine (swide_any _ ns _ wr hpl).mono ?_
        rintro e _ ⟨rfl, rfl⟩
        go_wp2_with fail
        refine (l91Row_i _ _ _ wd (wideF ns) _ hrd (by omega) (by omega) HWD.out).mono ?_
        rintro e w6 ⟨vo, ys, rfl, ho, hx, hrd6, hm6⟩
        have hs6 := hm6.size
        have hb6 := hm6.below hb (Nat.le_refl _) hb.size
        have hp6 := hp.mod hm6 (.inr (by omega))
        have hpsz := hp.size
        replace hgrid := hgrid.mod hm6 (by omega)
        replace ho := ho.base (B := w2.heap.size) (by have := hp.size; omega)
        clear hrd hm6 hx hb hp hpl
        obtain ⟨av, cv, rfl, -⟩ := id ho.rl
        obtain ⟨vs, g1, g2, g3⟩ := hgrid
        have G3 := hid g3
        have hvl : vs.length < 1099511627776 := by have := HXS.out; omega
        have G1 := hid g1
        have G2 := hid g2
        obtain ⟨aq, cq, rfl, -⟩ := g2.shape
        have hone := ho.oneCell
        have HO := hid ho
        have hs6' : w2.heap.size ≤ w6.heap.size := hp6.size
        clear g3 g1 g2 ho
        go_wp2_with (first
          | (at_builtin; refine appV rfl _ _ 34 rfl Try.underlying34 w2.heap.size _ vs _ hone G2.out (by rfl) (by rfl) hvl (Below.refl _ _) hs6' ?_; intro v7 w7 ho7 hb7 hg7)
          | fail)
        go_roundw
        case rel =>
          have hs7 := hb7.size
          refine ⟨k + 1, by omega, .inr (by omega), by go_num, ⟨xss ++ [ys], by simp [HXS.out], Grid.snoc G1.out G2.out G3.out HO.out ho7 hg7⟩, (hrd6.below hb7 (by omega)).up (by omega), ?_, hb6.trans (hb7.mono (by omega))⟩
          exact hp6.mod (Mod.of_grown (A := w2.heap.size) (B := w6.heap.size) hg7 fun b hb => G2.out.lt b hb) (.inl (Nat.le_refl _))
        case measure => simp [intOf]; omega
      · obtain ⟨aq, cq, rfl, -⟩ := hgrid.shape
        have hgs := hgrid.rs
        clear hpl
        go_wp2_with fail
        go_ret3
        exact ⟨_, ns, _, _, xss, rfl, (hp.up (by have := hb.size; have := hp.size; omega) (Nat.le_refl _)).base hs1, HSH.out, hgs, hb⟩
  · have hz3 : (q3 == 0) = false := by simpa using h3
    have hA := ha1
    clear h3
    have hN11 : at_ ≤ 11 := by omega
    clear hA
    go_wp2_with fail
    go_loopw [8, 10] (fun o i wr => ∃ k : Nat, (k : Int) ≤ 11 ∧ (k = 0 ∨ (k : Int) ≤ at_) ∧ i = .int .i64 (k : Int) ∧ (∃ xss : List (List Int), xss.length = k ∧ Grid wr w2.heap.size o xss) ∧ RD wr w.heap.size w.heap.size (2100 + k * 30) ∧ PR False wr w1.heap.size w2.heap.size (.slice a2 ns.length c2) ns ∧ Below w.heap.size w wr) (fun _ i _ => 11 - (intOf i).toNat)
    case atStart => exact ⟨0, by omega, .inl rfl, rfl, ⟨[], rfl, hg3⟩, hrd3.up (by omega), hp3, hb3⟩
    case round =>
      clear hb3 hrd3 hg3 hp3
      obtain ⟨k, hk, hk0, rfl, ⟨xss, hxs, hgrid⟩, hrd, hp, hb⟩ := hrel
      have hrl := hrd.lt
      have hpl := hp.pl
      have HXS := hid hxs
      clear hxs
      by_cases hlt : (k : Int) < at_
      · go_wp2_with fail
        refine (swide_any _ ns _ wr hpl).mono ?_
        rintro e _ ⟨rfl, rfl⟩
        go_wp2_with fail
        refine (l91Row_i _ _ _ wd (wideF ns) _ hrd (by omega) (by omega) HWD.out).mono ?_
        rintro e w6 ⟨vo, ys, rfl, ho, hx, hrd6, hm6⟩
        have hs6 := hm6.size
        have hb6 := hm6.below hb (Nat.le_refl _) hb.size
        have hp6 := hp.mod hm6 (.inr (by omega))
        have hpsz := hp.size
        replace hgrid := hgrid.mod hm6 (by omega)
        replace ho := ho.base (B := w2.heap.size) (by have := hp.size; omega)
        clear hrd hm6 hx hb hp hpl
        obtain ⟨av, cv, rfl, -⟩ := id ho.rl
        obtain ⟨vs, g1, g2, g3⟩ := hgrid
        have G3 := hid g3
        have hvl : vs.length < 1099511627776 := by have := HXS.out; omega
        have G1 := hid g1
        have G2 := hid g2
        obtain ⟨aq, cq, rfl, -⟩ := g2.shape
        have hone := ho.oneCell
        have HO := hid ho
        have hs6' : w2.heap.size ≤ w6.heap.size := hp6.size
        clear g3 g1 g2 ho
        go_wp2_with (first
          | (at_builtin; refine appV rfl _ _ 34 rfl Try.underlying34 w2.heap.size _ vs _ hone G2.out (by rfl) (by rfl) hvl (Below.refl _ _) hs6' ?_; intro v7 w7 ho7 hb7 hg7)
          | fail)
        go_roundw
        case rel =>
          have hs7 := hb7.size
          refine ⟨k + 1, by omega, .inr (by omega), by go_num, ⟨xss ++ [ys], by simp [HXS.out], Grid.snoc G1.out G2.out G3.out HO.out ho7 hg7⟩, (hrd6.below hb7 (by omega)).up (by omega), ?_, hb6.trans (hb7.mono (by omega))⟩
          exact hp6.mod (Mod.of_grown (A := w2.heap.size) (B := w6.heap.size) hg7 fun b hb => G2.out.lt b hb) (.inl (Nat.le_refl _))
        case measure => simp [intOf]; omega
      · obtain ⟨aq, cq, rfl, -⟩ := hgrid.shape
        have hgs := hgrid.rs
        clear hpl
        go_wp2_with fail
        go_ret3
        exact ⟨_, ns, _, _, xss, rfl, (hp.up (by have := hb.size; have := hp.size; omega) (Nat.le_refl _)).base hs1, HSH.out, hgs, hb⟩
end Go.Proofs.Yteelobokjidphaa
