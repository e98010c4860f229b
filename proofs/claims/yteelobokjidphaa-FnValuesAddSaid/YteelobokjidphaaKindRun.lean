/- The contracts of the functions that do what a kind does (the reference's and the program's). No condition. -/
import Derived.Test.YteelobokjidphaaKind
import Derived.Test.YteelobokjidphaaGrid
import Derived.Test.YteelobokjidphaaRowAdd
import Derived.Test.YteelobokjidphaaJoin
import Derived.Test.YteelobokjidphaaSums
import Derived.Test.YteelobokjidphaaSort
import Derived.Test.YteelobokjidphaaSpecSort
import Derived.Test.YteelobokjidphaaTurn
import Derived.Deep.RegionHeld3
namespace Go.Proofs.Yteelobokjidphaa
open Go.RowKit

def krL (k : Int) (xss : List (List Int)) : List Int :=
  if k = 1 ∧ xss.length = 2 then joinR addF (xss.getD 0 []) (xss.getD 1 [])
  else if k = 2 ∧ xss.length = 2 then joinR mulF (xss.getD 0 []) (xss.getD 1 [])
  else if k = 3 ∧ xss.length = 1 then sumsR (xss.getD 0 [])
  else if k = 4 ∧ xss.length = 1 then sortR (xss.getD 0 [])
  else if k = 5 ∧ xss.length = 1 then turnR (xss.getD 0 [])
  else []
def krB (k : Int) (xss : List (List Int)) : Bool :=
  if (k = 1 ∨ k = 2) ∧ xss.length = 2 then bothB (xss.getD 0 []) (xss.getD 1 [])
  else if (k = 3 ∨ k = 4 ∨ k = 5) ∧ xss.length = 1 then rvB (xss.getD 0 [])
  else false

/-- A kind to which the rows do not fit. -/
def unfit (k : Int) (xss : List (List Int)) : Prop := ¬ ((k = 1 ∨ k = 2) ∧ xss.length = 2) ∧ ¬ ((k = 3 ∨ k = 4 ∨ k = 5) ∧ xss.length = 1)
theorem krL_unfit {k : Int} {xss : List (List Int)} (h : unfit k xss) : krL k xss = [] := by
  obtain ⟨h1, h2⟩ := h
  unfold krL
  rw [if_neg (by omega), if_neg (by omega), if_neg (by omega), if_neg (by omega), if_neg (by omega)]
theorem krB_unfit {k : Int} {xss : List (List Int)} (h : unfit k xss) : krB k xss = false := by
  obtain ⟨h1, h2⟩ := h
  unfold krB
  rw [if_neg h1, if_neg h2]

set_option maxHeartbeats 4000000 in
theorem skr_any (k : Int) (v : Value) (hi : Nat) (xss : List (List Int)) (w : World) (h : RS w hi v xss) :
    Calls Try.prog 89 #[.int .i64 k, v] w (PostIB w (krL k xss) (krB k xss)) := by
  obtain ⟨a, c, rfl, h1, h2, h3, h4⟩ := h
  unfold maxLen at h2
  have H4 := hid h4
  clear h4
  rcases kind_cases k with rfl | rfl | rfl | rfl | rfl | rfl | hk
  · rw [krL_unfit ⟨by omega, by omega⟩, krB_unfit ⟨by omega, by omega⟩]
    go_enter Try.func89, Try.ntmps89
    go_wp2_with fail
    go_ret2
    exact ⟨_, rfl, OI.fresh0 w (Nat.le_refl _), (Below.refl _ _).alloc (Nat.le_refl _) _⟩
  · by_cases hl : xss.length = 2
    · rw [show krL 1 xss = joinR addF (xss.getD 0 []) (xss.getD 1 []) by simp [krL, hl], show krB 1 xss = bothB (xss.getD 0 []) (xss.getD 1 []) by simp [krB, hl]]
      obtain ⟨b, o, u, rfl, hb, hc, hr⟩ := H4.out 0 (by omega)
      obtain ⟨b', o', u', e', hb', hc', hr'⟩ := H4.out 1 (by omega)
      simp only [Option.some.injEq, Addr.mk.injEq, and_true] at e'
      obtain ⟨rfl, rfl⟩ := e'
      generalize xss.getD 0 [] = xa at hr ⊢
      generalize xss.getD 1 [] = xb at hr' ⊢
      rw [Nat.add_zero] at hc
      have hbs : b < w.heap.size := by omega
      have b0 : 0 < xss.length := by omega
      have b1 : (0 : Int) < (xss.length : Int) := by omega
      have b2 : (1 : Int) < (xss.length : Int) := by omega
      have hne : ((2 : Int) != (xss.length : Int)) = false := by rw [hl]; rfl
      have HL := hid hl
      clear hl
      go_enter Try.func89, Try.ntmps89
      go_wp2_with fail
      refine (skn_any _ _).mono ?_
      rintro e w' ⟨rfl, rfl⟩
      rw [kn1]
      go_wp2_with fail
      go_region_held3 (fun w' => w'.cell? ⟨b, o, none⟩ = some u ∧ w'.cell? ⟨b, o + 1, none⟩ = some u') (first | go_keep | (go_split_ands; exact ⟨(hb5.cell (p := ⟨b, o, none⟩) hbs).trans hc, (hb5.cell (p := ⟨b, o + 1, none⟩) hbs).trans hc'⟩))
        ((go_at_call 98; refine (sadd_any _ _ _ _ w.drew hr.rl hr'.rl).mono ?_; rintro e w5 ⟨vo, rfl, ho, hb5⟩))
      go_wp2_with fail
      go_ret2
      exact ⟨vo, rfl, ho, ⟨hb5.os, hb5.tape, hb5.output, hb5.size, hb5.block⟩⟩
    · rw [krL_unfit ⟨by omega, by omega⟩, krB_unfit ⟨by omega, by omega⟩]
      have hne : ((2 : Int) != (xss.length : Int)) = true := by simp; omega
      clear hl
      go_enter Try.func89, Try.ntmps89
      go_wp2_with fail
      refine (skn_any _ _).mono ?_
      rintro e w' ⟨rfl, rfl⟩
      rw [kn1]
      go_wp2_with fail
      go_ret2
      exact ⟨_, rfl, OI.fresh0 w (Nat.le_refl _), (Below.refl _ _).alloc (Nat.le_refl _) _⟩
  · by_cases hl : xss.length = 2
    · rw [show krL 2 xss = joinR mulF (xss.getD 0 []) (xss.getD 1 []) by simp [krL, hl], show krB 2 xss = bothB (xss.getD 0 []) (xss.getD 1 []) by simp [krB, hl]]
      obtain ⟨b, o, u, rfl, hb, hc, hr⟩ := H4.out 0 (by omega)
      obtain ⟨b', o', u', e', hb', hc', hr'⟩ := H4.out 1 (by omega)
      simp only [Option.some.injEq, Addr.mk.injEq, and_true] at e'
      obtain ⟨rfl, rfl⟩ := e'
      generalize xss.getD 0 [] = xa at hr ⊢
      generalize xss.getD 1 [] = xb at hr' ⊢
      rw [Nat.add_zero] at hc
      have hbs : b < w.heap.size := by omega
      have b0 : 0 < xss.length := by omega
      have b1 : (0 : Int) < (xss.length : Int) := by omega
      have b2 : (1 : Int) < (xss.length : Int) := by omega
      have hne : ((2 : Int) != (xss.length : Int)) = false := by rw [hl]; rfl
      have HL := hid hl
      clear hl
      go_enter Try.func89, Try.ntmps89
      go_wp2_with fail
      refine (skn_any _ _).mono ?_
      rintro e w' ⟨rfl, rfl⟩
      rw [kn2]
      go_wp2_with fail
      go_region_held3 (fun w' => w'.cell? ⟨b, o, none⟩ = some u ∧ w'.cell? ⟨b, o + 1, none⟩ = some u') (first | go_keep | (go_split_ands; exact ⟨(hb5.cell (p := ⟨b, o, none⟩) hbs).trans hc, (hb5.cell (p := ⟨b, o + 1, none⟩) hbs).trans hc'⟩))
        ((go_at_call 99; refine (smul_any _ _ _ _ w.drew hr.rl hr'.rl).mono ?_; rintro e w5 ⟨vo, rfl, ho, hb5⟩))
      go_wp2_with fail
      go_ret2
      exact ⟨vo, rfl, ho, ⟨hb5.os, hb5.tape, hb5.output, hb5.size, hb5.block⟩⟩
    · rw [krL_unfit ⟨by omega, by omega⟩, krB_unfit ⟨by omega, by omega⟩]
      have hne : ((2 : Int) != (xss.length : Int)) = true := by simp; omega
      clear hl
      go_enter Try.func89, Try.ntmps89
      go_wp2_with fail
      refine (skn_any _ _).mono ?_
      rintro e w' ⟨rfl, rfl⟩
      rw [kn2]
      go_wp2_with fail
      go_ret2
      exact ⟨_, rfl, OI.fresh0 w (Nat.le_refl _), (Below.refl _ _).alloc (Nat.le_refl _) _⟩
  · by_cases hl : xss.length = 1
    · rw [show krL 3 xss = sumsR (xss.getD 0 []) by simp [krL, hl], show krB 3 xss = rvB (xss.getD 0 []) by simp [krB, hl]]
      obtain ⟨b, o, u, rfl, hb, hc, hr⟩ := H4.out 0 (by omega)
      generalize xss.getD 0 [] = xa at hr ⊢
      rw [Nat.add_zero] at hc
      have b0 : 0 < xss.length := by omega
      have b1 : (0 : Int) < (xss.length : Int) := by omega
      have hne : ((1 : Int) != (xss.length : Int)) = false := by rw [hl]; rfl
      have HL := hid hl
      clear hl
      go_enter Try.func89, Try.ntmps89
      go_wp2_with fail
      refine (skn_any _ _).mono ?_
      rintro e w' ⟨rfl, rfl⟩
      rw [kn3]
      go_wp2_with fail
      refine (ssums_any _ _ _ hr.rl).mono ?_
      rintro e w5 ⟨vo, rfl, ho, hb5⟩
      go_wp2_with fail
      go_ret2
      exact ⟨vo, rfl, ho, hb5⟩
    · rw [krL_unfit ⟨by omega, by omega⟩, krB_unfit ⟨by omega, by omega⟩]
      have hne : ((1 : Int) != (xss.length : Int)) = true := by simp; omega
      clear hl
      go_enter Try.func89, Try.ntmps89
      go_wp2_with fail
      refine (skn_any _ _).mono ?_
      rintro e w' ⟨rfl, rfl⟩
      rw [kn3]
      go_wp2_with fail
      go_ret2
      exact ⟨_, rfl, OI.fresh0 w (Nat.le_refl _), (Below.refl _ _).alloc (Nat.le_refl _) _⟩
  · by_cases hl : xss.length = 1
    · rw [show krL 4 xss = sortR (xss.getD 0 []) by simp [krL, hl], show krB 4 xss = rvB (xss.getD 0 []) by simp [krB, hl]]
      obtain ⟨b, o, u, rfl, hb, hc, hr⟩ := H4.out 0 (by omega)
      generalize xss.getD 0 [] = xa at hr ⊢
      rw [Nat.add_zero] at hc
      have b0 : 0 < xss.length := by omega
      have b1 : (0 : Int) < (xss.length : Int) := by omega
      have hne : ((1 : Int) != (xss.length : Int)) = false := by rw [hl]; rfl
      have HL := hid hl
      clear hl
      go_enter Try.func89, Try.ntmps89
      go_wp2_with fail
      refine (skn_any _ _).mono ?_
      rintro e w' ⟨rfl, rfl⟩
      rw [kn4]
      go_wp2_with fail
      refine (ssort_any _ _ _ hr.rl).mono ?_
      rintro e w5 ⟨vo, rfl, ho, hb5⟩
      go_wp2_with fail
      go_ret2
      exact ⟨vo, rfl, ho, hb5⟩
    · rw [krL_unfit ⟨by omega, by omega⟩, krB_unfit ⟨by omega, by omega⟩]
      have hne : ((1 : Int) != (xss.length : Int)) = true := by simp; omega
      clear hl
      go_enter Try.func89, Try.ntmps89
      go_wp2_with fail
      refine (skn_any _ _).mono ?_
      rintro e w' ⟨rfl, rfl⟩
      rw [kn4]
      go_wp2_with fail
      go_ret2
      exact ⟨_, rfl, OI.fresh0 w (Nat.le_refl _), (Below.refl _ _).alloc (Nat.le_refl _) _⟩
  · by_cases hl : xss.length = 1
    · rw [show krL 5 xss = turnR (xss.getD 0 []) by simp [krL, hl], show krB 5 xss = rvB (xss.getD 0 []) by simp [krB, hl]]
      obtain ⟨b, o, u, rfl, hb, hc, hr⟩ := H4.out 0 (by omega)
      generalize xss.getD 0 [] = xa at hr ⊢
      rw [Nat.add_zero] at hc
      have b0 : 0 < xss.length := by omega
      have b1 : (0 : Int) < (xss.length : Int) := by omega
      have hne : ((1 : Int) != (xss.length : Int)) = false := by rw [hl]; rfl
      have HL := hid hl
      clear hl
      go_enter Try.func89, Try.ntmps89
      go_wp2_with fail
      refine (skn_any _ _).mono ?_
      rintro e w' ⟨rfl, rfl⟩
      rw [kn5]
      go_wp2_with fail
      refine (sturn_any _ _ _ hr.rl).mono ?_
      rintro e w5 ⟨vo, rfl, ho, hb5⟩
      go_wp2_with fail
      go_ret2
      exact ⟨vo, rfl, ho, hb5⟩
    · rw [krL_unfit ⟨by omega, by omega⟩, krB_unfit ⟨by omega, by omega⟩]
      have hne : ((1 : Int) != (xss.length : Int)) = true := by simp; omega
      clear hl
      go_enter Try.func89, Try.ntmps89
      go_wp2_with fail
      refine (skn_any _ _).mono ?_
      rintro e w' ⟨rfl, rfl⟩
      rw [kn5]
      go_wp2_with fail
      go_ret2
      exact ⟨_, rfl, OI.fresh0 w (Nat.le_refl _), (Below.refl _ _).alloc (Nat.le_refl _) _⟩
  · have hku : unfit k xss := by simp at hk; exact ⟨by omega, by omega⟩
    rw [krL_unfit hku, krB_unfit hku]
    have KN := hid (knI_none hk)
    have hne : ((-1 : Int) != (xss.length : Int)) = true := by simp
    obtain ⟨h0, -⟩ := hk
    clear hku
    go_enter Try.func89, Try.ntmps89
    go_wp2_with fail
    refine (skn_any _ _).mono ?_
    rintro e w' ⟨rfl, rfl⟩
    rw [KN.out]
    go_wp2_with fail
    go_ret2
    exact ⟨_, rfl, OI.fresh0 w (Nat.le_refl _), (Below.refl _ _).alloc (Nat.le_refl _) _⟩

theorem needs2_any (v : Value) (w : World) : Calls Try.prog 80 #[.agg #[v]] w fun e w' => e = .returned (.int .i64 2) ∧ Mod 0 0 w w' := by
  go_enter Try.func80, Try.ntmps80
  go_wp2_with fail
  go_ret
  exact ⟨rfl, Mod.alloc _ _⟩
theorem needs1_any (v : Value) (w : World) : Calls Try.prog 81 #[.agg #[v]] w fun e w' => e = .returned (.int .i64 1) ∧ Mod 0 0 w w' := by
  go_enter Try.func81, Try.ntmps81
  go_wp2_with fail
  go_ret
  exact ⟨rfl, Mod.alloc _ _⟩
theorem assert_lone (v : Value) (w : World) : (Instr.typeAssert (.iface 98 v) 90 98 true).run Try.prog w = .ok (.tuple #[v, .bool true]) w := by kernel_rfl
theorem assert_lone_given (v : Value) (w : World) : (Instr.typeAssert (.iface 114 v) 90 98 true).run Try.prog w = .ok (.tuple #[.agg #[.nilFunc], .bool false]) w := by kernel_rfl
theorem assert_lone_nil (w : World) : (Instr.typeAssert .nilIface 90 98 true).run Try.prog w = .ok (.tuple #[.agg #[.nilFunc], .bool false]) w := by kernel_rfl

set_option maxHeartbeats 4000000 in
theorem ikr_any (k : Int) (v : Value) (hi : Nat) (xss : List (List Int)) (w : World) (h : RS w hi v xss) :
    Calls Try.prog 47 #[.int .i64 k, v] w (PostIB w (krL k xss) (krB k xss)) := by
  have HH := hid h
  obtain ⟨a, c, rfl, h1, h2, h3, h4⟩ := h
  unfold maxLen at h2
  have H4 := hid h4
  clear h4
  rcases kind_cases k with rfl | rfl | rfl | rfl | rfl | rfl | hk
  · rw [krL_unfit ⟨by omega, by omega⟩, krB_unfit ⟨by omega, by omega⟩]
    have ha := assert_pair_given
    have hb := assert_lone_given
    go_enter Try.func47, Try.ntmps47
    go_wp2_with fail
    refine (work_any _ _).mono ?_
    rintro e w' ⟨rfl, rfl⟩
    simp only [workV]
    go_wp2_with fail
    go_ret2
    exact ⟨_, rfl, OI.nil _ _, Below.refl _ _⟩
  · by_cases hl : xss.length = 2
    · rw [show krL 1 xss = joinR addF (xss.getD 0 []) (xss.getD 1 []) by simp [krL, hl], show krB 1 xss = bothB (xss.getD 0 []) (xss.getD 1 []) by simp [krB, hl]]
      obtain ⟨b, o, u, rfl, hb, hc, hr⟩ := H4.out 0 (by omega)
      obtain ⟨b', o', u', e', hb', hc', hr'⟩ := H4.out 1 (by omega)
      simp only [Option.some.injEq, Addr.mk.injEq, and_true] at e'
      obtain ⟨rfl, rfl⟩ := e'
      generalize xss.getD 0 [] = xa at hr ⊢
      generalize xss.getD 1 [] = xb at hr' ⊢
      rw [Nat.add_zero] at hc
      have hbs : b < w.heap.size := by omega
      have b0 : 0 < xss.length := by omega
      have b1 : (0 : Int) < (xss.length : Int) := by omega
      have b2 : (1 : Int) < (xss.length : Int) := by omega
      have hne : ((xss.length : Int) == 2) = true := by rw [hl]; rfl
      have HL := hid hl
      have HC := hid hc
      have HC' := hid hc'
      clear hl hc hc'
      have ha := assert_pair
      go_enter Try.func47, Try.ntmps47
      go_wp2_with fail
      refine (work_any _ _).mono ?_
      rintro e w' ⟨rfl, rfl⟩
      simp only [workV]
      go_wp2_with fail
      have m1 := Mod.alloc w (.cells #[.func (Fn.func 91) #[] #[]] 94)
      have hb1 := heap_alloc_new w (.cells #[.func (Fn.func 91) #[] #[]] 94)
      have HB1 := hid hb1
      clear hb1
      refine (needs2_any _ _).mono ?_
      rintro e w3 ⟨rfl, m3⟩
      have hb3 := (m3.block _ (by simp) (.inr (Nat.zero_le _))).trans HB1.out
      have hcf := cell_of_row w3 w.heap.size 0 _ _ _ hb3
      simp at hcf
      have M := hid (m1.trans m3)
      have hr3 := hr.mod M.out (.inr (Nat.le_refl _))
      have hr3' := hr'.mod M.out (.inr (Nat.le_refl _))
      have hc := (World.cell?_of_block (a := ⟨b, o, none⟩) (M.out.block b hbs (.inr (Nat.zero_le _)))).trans HC.out
      have hc' := (World.cell?_of_block (a := ⟨b, o + 1, none⟩) (M.out.block b hbs (.inr (Nat.zero_le _)))).trans HC'.out
      have hbs3 : b < w3.heap.size := Nat.lt_of_lt_of_le hbs M.out.size
      have hws3 : w.heap.size < w3.heap.size := by have := m3.size; simp at this; omega
      have HB3 := hid hb3
      clear hb3 m1 m3
      go_wp2_with fail
      go_region_held3 (fun w' => w'.cell? ⟨b, o, none⟩ = some u ∧ w'.cell? ⟨b, o + 1, none⟩ = some u' ∧ w'.cell? ⟨w.heap.size, 0, none⟩ = some (.func (Fn.func 91) #[] #[])) (first | go_keep | (go_split_ands; exact ⟨(hb5.cell (p := ⟨b, o, none⟩) hbs3).trans hc, (hb5.cell (p := ⟨b, o + 1, none⟩) hbs3).trans hc', (hb5.cell (p := ⟨w.heap.size, 0, none⟩) hws3).trans hcf⟩))
        ((go_at_call 91; refine (iadd_any _ _ _ _ w3.drew hr3.rl hr3'.rl).mono ?_; rintro e w5 ⟨vo, rfl, ho, hb5⟩))
      go_wp2_with fail
      go_ret2
      exact ⟨vo, rfl, ho.base M.out.size, M.out.then_belowR ⟨hb5.os, hb5.tape, hb5.output, hb5.size, hb5.block⟩⟩
    · rw [krL_unfit ⟨by omega, by omega⟩, krB_unfit ⟨by omega, by omega⟩]
      have hne : ((xss.length : Int) == 2) = false := by simp; omega
      clear hl
      have ha := assert_pair
      go_enter Try.func47, Try.ntmps47
      go_wp2_with fail
      refine (work_any _ _).mono ?_
      rintro e w' ⟨rfl, rfl⟩
      simp only [workV]
      go_wp2_with fail
      have m1 := Mod.alloc w (.cells #[.func (Fn.func 91) #[] #[]] 94)
      refine (needs2_any _ _).mono ?_
      rintro e w3 ⟨rfl, m3⟩
      go_wp2_with fail
      go_ret2
      exact ⟨_, rfl, OI.nil _ _, (m1.trans m3).below0 (Below.refl _ _) (Nat.le_refl _)⟩
  · by_cases hl : xss.length = 2
    · rw [show krL 2 xss = joinR mulF (xss.getD 0 []) (xss.getD 1 []) by simp [krL, hl], show krB 2 xss = bothB (xss.getD 0 []) (xss.getD 1 []) by simp [krB, hl]]
      obtain ⟨b, o, u, rfl, hb, hc, hr⟩ := H4.out 0 (by omega)
      obtain ⟨b', o', u', e', hb', hc', hr'⟩ := H4.out 1 (by omega)
      simp only [Option.some.injEq, Addr.mk.injEq, and_true] at e'
      obtain ⟨rfl, rfl⟩ := e'
      generalize xss.getD 0 [] = xa at hr ⊢
      generalize xss.getD 1 [] = xb at hr' ⊢
      rw [Nat.add_zero] at hc
      have hbs : b < w.heap.size := by omega
      have b0 : 0 < xss.length := by omega
      have b1 : (0 : Int) < (xss.length : Int) := by omega
      have b2 : (1 : Int) < (xss.length : Int) := by omega
      have hne : ((xss.length : Int) == 2) = true := by rw [hl]; rfl
      have HL := hid hl
      have HC := hid hc
      have HC' := hid hc'
      clear hl hc hc'
      have ha := assert_pair
      go_enter Try.func47, Try.ntmps47
      go_wp2_with fail
      refine (work_any _ _).mono ?_
      rintro e w' ⟨rfl, rfl⟩
      simp only [workV]
      go_wp2_with fail
      have m1 := Mod.alloc w (.cells #[.func (Fn.func 92) #[] #[]] 94)
      have hb1 := heap_alloc_new w (.cells #[.func (Fn.func 92) #[] #[]] 94)
      have HB1 := hid hb1
      clear hb1
      refine (needs2_any _ _).mono ?_
      rintro e w3 ⟨rfl, m3⟩
      have hb3 := (m3.block _ (by simp) (.inr (Nat.zero_le _))).trans HB1.out
      have hcf := cell_of_row w3 w.heap.size 0 _ _ _ hb3
      simp at hcf
      have M := hid (m1.trans m3)
      have hr3 := hr.mod M.out (.inr (Nat.le_refl _))
      have hr3' := hr'.mod M.out (.inr (Nat.le_refl _))
      have hc := (World.cell?_of_block (a := ⟨b, o, none⟩) (M.out.block b hbs (.inr (Nat.zero_le _)))).trans HC.out
      have hc' := (World.cell?_of_block (a := ⟨b, o + 1, none⟩) (M.out.block b hbs (.inr (Nat.zero_le _)))).trans HC'.out
      have hbs3 : b < w3.heap.size := Nat.lt_of_lt_of_le hbs M.out.size
      have hws3 : w.heap.size < w3.heap.size := by have := m3.size; simp at this; omega
      have HB3 := hid hb3
      clear hb3 m1 m3
      go_wp2_with fail
      go_region_held3 (fun w' => w'.cell? ⟨b, o, none⟩ = some u ∧ w'.cell? ⟨b, o + 1, none⟩ = some u' ∧ w'.cell? ⟨w.heap.size, 0, none⟩ = some (.func (Fn.func 92) #[] #[])) (first | go_keep | (go_split_ands; exact ⟨(hb5.cell (p := ⟨b, o, none⟩) hbs3).trans hc, (hb5.cell (p := ⟨b, o + 1, none⟩) hbs3).trans hc', (hb5.cell (p := ⟨w.heap.size, 0, none⟩) hws3).trans hcf⟩))
        ((go_at_call 92; refine (imul_any _ _ _ _ w3.drew hr3.rl hr3'.rl).mono ?_; rintro e w5 ⟨vo, rfl, ho, hb5⟩))
      go_wp2_with fail
      go_ret2
      exact ⟨vo, rfl, ho.base M.out.size, M.out.then_belowR ⟨hb5.os, hb5.tape, hb5.output, hb5.size, hb5.block⟩⟩
    · rw [krL_unfit ⟨by omega, by omega⟩, krB_unfit ⟨by omega, by omega⟩]
      have hne : ((xss.length : Int) == 2) = false := by simp; omega
      clear hl
      have ha := assert_pair
      go_enter Try.func47, Try.ntmps47
      go_wp2_with fail
      refine (work_any _ _).mono ?_
      rintro e w' ⟨rfl, rfl⟩
      simp only [workV]
      go_wp2_with fail
      have m1 := Mod.alloc w (.cells #[.func (Fn.func 92) #[] #[]] 94)
      refine (needs2_any _ _).mono ?_
      rintro e w3 ⟨rfl, m3⟩
      go_wp2_with fail
      go_ret2
      exact ⟨_, rfl, OI.nil _ _, (m1.trans m3).below0 (Below.refl _ _) (Nat.le_refl _)⟩
  · by_cases hl : xss.length = 1
    · rw [show krL 3 xss = sumsR (xss.getD 0 []) by simp [krL, hl], show krB 3 xss = rvB (xss.getD 0 []) by simp [krB, hl]]
      obtain ⟨b, o, u, rfl, hb, hc, hr⟩ := H4.out 0 (by omega)
      generalize xss.getD 0 [] = xa at hr ⊢
      rw [Nat.add_zero] at hc
      have hbs : b < w.heap.size := by omega
      have b0 : 0 < xss.length := by omega
      have b1 : (0 : Int) < (xss.length : Int) := by omega
      have hne : ((xss.length : Int) == 1) = true := by rw [hl]; rfl
      have HL := hid hl
      have HC := hid hc
      clear hl hc
      have ha := assert_pair_lone
      have hd := assert_lone
      go_enter Try.func47, Try.ntmps47
      go_wp2_with fail
      refine (work_any _ _).mono ?_
      rintro e w' ⟨rfl, rfl⟩
      simp only [workV]
      go_wp2_with fail
      have m1 := Mod.alloc w (.cells #[.func (Fn.func 93) #[] #[]] 98)
      have hb1 := heap_alloc_new w (.cells #[.func (Fn.func 93) #[] #[]] 98)
      have HB1 := hid hb1
      clear hb1
      refine (needs1_any _ _).mono ?_
      rintro e w3 ⟨rfl, m3⟩
      have hb3 := (m3.block _ (by simp) (.inr (Nat.zero_le _))).trans HB1.out
      have hcf := cell_of_row w3 w.heap.size 0 _ _ _ hb3
      simp at hcf
      have M := hid (m1.trans m3)
      have hr3 := hr.mod M.out (.inr (Nat.le_refl _))
      have hc := (World.cell?_of_block (a := ⟨b, o, none⟩) (M.out.block b hbs (.inr (Nat.zero_le _)))).trans HC.out
      have hbs3 : b < w3.heap.size := Nat.lt_of_lt_of_le hbs M.out.size
      have hws3 : w.heap.size < w3.heap.size := by have := m3.size; simp at this; omega
      have HB3 := hid hb3
      clear hb3 m1 m3
      go_wp2_with fail
      go_region_held3 (fun w' => w'.cell? ⟨b, o, none⟩ = some u ∧ w'.cell? ⟨w.heap.size, 0, none⟩ = some (.func (Fn.func 93) #[] #[])) (first | go_keep | (go_split_ands; exact ⟨(hb5.cell (p := ⟨b, o, none⟩) hbs3).trans hc, (hb5.cell (p := ⟨w.heap.size, 0, none⟩) hws3).trans hcf⟩))
        ((go_at_call 93; refine (isums_any _ _ w3.drew hr3.rl).mono ?_; rintro e w5 ⟨vo, rfl, ho, hb5⟩))
      go_wp2_with fail
      go_ret2
      exact ⟨vo, rfl, ho.base M.out.size, M.out.then_belowR ⟨hb5.os, hb5.tape, hb5.output, hb5.size, hb5.block⟩⟩
    · rw [krL_unfit ⟨by omega, by omega⟩, krB_unfit ⟨by omega, by omega⟩]
      have hne : ((xss.length : Int) == 1) = false := by simp; omega
      clear hl
      have ha := assert_pair_lone
      have hd := assert_lone
      go_enter Try.func47, Try.ntmps47
      go_wp2_with fail
      refine (work_any _ _).mono ?_
      rintro e w' ⟨rfl, rfl⟩
      simp only [workV]
      go_wp2_with fail
      have m1 := Mod.alloc w (.cells #[.func (Fn.func 93) #[] #[]] 98)
      refine (needs1_any _ _).mono ?_
      rintro e w3 ⟨rfl, m3⟩
      go_wp2_with fail
      go_ret2
      exact ⟨_, rfl, OI.nil _ _, (m1.trans m3).below0 (Below.refl _ _) (Nat.le_refl _)⟩
  · by_cases hl : xss.length = 1
    · rw [show krL 4 xss = sortR (xss.getD 0 []) by simp [krL, hl], show krB 4 xss = rvB (xss.getD 0 []) by simp [krB, hl]]
      obtain ⟨b, o, u, rfl, hb, hc, hr⟩ := H4.out 0 (by omega)
      generalize xss.getD 0 [] = xa at hr ⊢
      rw [Nat.add_zero] at hc
      have hbs : b < w.heap.size := by omega
      have b0 : 0 < xss.length := by omega
      have b1 : (0 : Int) < (xss.length : Int) := by omega
      have hne : ((xss.length : Int) == 1) = true := by rw [hl]; rfl
      have HL := hid hl
      have HC := hid hc
      clear hl hc
      have ha := assert_pair_lone
      have hd := assert_lone
      go_enter Try.func47, Try.ntmps47
      go_wp2_with fail
      refine (work_any _ _).mono ?_
      rintro e w' ⟨rfl, rfl⟩
      simp only [workV]
      go_wp2_with fail
      have m1 := Mod.alloc w (.cells #[.func (Fn.func 94) #[] #[]] 98)
      have hb1 := heap_alloc_new w (.cells #[.func (Fn.func 94) #[] #[]] 98)
      have HB1 := hid hb1
      clear hb1
      refine (needs1_any _ _).mono ?_
      rintro e w3 ⟨rfl, m3⟩
      have hb3 := (m3.block _ (by simp) (.inr (Nat.zero_le _))).trans HB1.out
      have hcf := cell_of_row w3 w.heap.size 0 _ _ _ hb3
      simp at hcf
      have M := hid (m1.trans m3)
      have hr3 := hr.mod M.out (.inr (Nat.le_refl _))
      have hc := (World.cell?_of_block (a := ⟨b, o, none⟩) (M.out.block b hbs (.inr (Nat.zero_le _)))).trans HC.out
      have hbs3 : b < w3.heap.size := Nat.lt_of_lt_of_le hbs M.out.size
      have hws3 : w.heap.size < w3.heap.size := by have := m3.size; simp at this; omega
      have HB3 := hid hb3
      clear hb3 m1 m3
      go_wp2_with fail
      go_region_held3 (fun w' => w'.cell? ⟨b, o, none⟩ = some u ∧ w'.cell? ⟨w.heap.size, 0, none⟩ = some (.func (Fn.func 94) #[] #[])) (first | go_keep | (go_split_ands; exact ⟨(hb5.cell (p := ⟨b, o, none⟩) hbs3).trans hc, (hb5.cell (p := ⟨w.heap.size, 0, none⟩) hws3).trans hcf⟩))
        ((go_at_call 94; refine (isort_any _ _ w3.drew hr3.rl).mono ?_; rintro e w5 ⟨vo, rfl, ho, hb5⟩))
      go_wp2_with fail
      go_ret2
      exact ⟨vo, rfl, ho.base M.out.size, M.out.then_belowR ⟨hb5.os, hb5.tape, hb5.output, hb5.size, hb5.block⟩⟩
    · rw [krL_unfit ⟨by omega, by omega⟩, krB_unfit ⟨by omega, by omega⟩]
      have hne : ((xss.length : Int) == 1) = false := by simp; omega
      clear hl
      have ha := assert_pair_lone
      have hd := assert_lone
      go_enter Try.func47, Try.ntmps47
      go_wp2_with fail
      refine (work_any _ _).mono ?_
      rintro e w' ⟨rfl, rfl⟩
      simp only [workV]
      go_wp2_with fail
      have m1 := Mod.alloc w (.cells #[.func (Fn.func 94) #[] #[]] 98)
      refine (needs1_any _ _).mono ?_
      rintro e w3 ⟨rfl, m3⟩
      go_wp2_with fail
      go_ret2
      exact ⟨_, rfl, OI.nil _ _, (m1.trans m3).below0 (Below.refl _ _) (Nat.le_refl _)⟩
  · by_cases hl : xss.length = 1
    · rw [show krL 5 xss = turnR (xss.getD 0 []) by simp [krL, hl], show krB 5 xss = rvB (xss.getD 0 []) by simp [krB, hl]]
      obtain ⟨b, o, u, rfl, hb, hc, hr⟩ := H4.out 0 (by omega)
      generalize xss.getD 0 [] = xa at hr ⊢
      rw [Nat.add_zero] at hc
      have hbs : b < w.heap.size := by omega
      have b0 : 0 < xss.length := by omega
      have b1 : (0 : Int) < (xss.length : Int) := by omega
      have hne : ((xss.length : Int) == 1) = true := by rw [hl]; rfl
      have HL := hid hl
      have HC := hid hc
      clear hl hc
      have ha := assert_pair_lone
      have hd := assert_lone
      go_enter Try.func47, Try.ntmps47
      go_wp2_with fail
      refine (work_any _ _).mono ?_
      rintro e w' ⟨rfl, rfl⟩
      simp only [workV]
      go_wp2_with fail
      have m1 := Mod.alloc w (.cells #[.func (Fn.func 95) #[] #[]] 98)
      have hb1 := heap_alloc_new w (.cells #[.func (Fn.func 95) #[] #[]] 98)
      have HB1 := hid hb1
      clear hb1
      refine (needs1_any _ _).mono ?_
      rintro e w3 ⟨rfl, m3⟩
      have hb3 := (m3.block _ (by simp) (.inr (Nat.zero_le _))).trans HB1.out
      have hcf := cell_of_row w3 w.heap.size 0 _ _ _ hb3
      simp at hcf
      have M := hid (m1.trans m3)
      have hr3 := hr.mod M.out (.inr (Nat.le_refl _))
      have hc := (World.cell?_of_block (a := ⟨b, o, none⟩) (M.out.block b hbs (.inr (Nat.zero_le _)))).trans HC.out
      have hbs3 : b < w3.heap.size := Nat.lt_of_lt_of_le hbs M.out.size
      have hws3 : w.heap.size < w3.heap.size := by have := m3.size; simp at this; omega
      have HB3 := hid hb3
      clear hb3 m1 m3
      go_wp2_with fail
      go_region_held3 (fun w' => w'.cell? ⟨b, o, none⟩ = some u ∧ w'.cell? ⟨w.heap.size, 0, none⟩ = some (.func (Fn.func 95) #[] #[])) (first | go_keep | (go_split_ands; exact ⟨(hb5.cell (p := ⟨b, o, none⟩) hbs3).trans hc, (hb5.cell (p := ⟨w.heap.size, 0, none⟩) hws3).trans hcf⟩))
        ((go_at_call 95; refine (iturn_any _ _ w3.drew hr3.rl).mono ?_; rintro e w5 ⟨vo, rfl, ho, hb5⟩))
      go_wp2_with fail
      go_ret2
      exact ⟨vo, rfl, ho.base M.out.size, M.out.then_belowR ⟨hb5.os, hb5.tape, hb5.output, hb5.size, hb5.block⟩⟩
    · rw [krL_unfit ⟨by omega, by omega⟩, krB_unfit ⟨by omega, by omega⟩]
      have hne : ((xss.length : Int) == 1) = false := by simp; omega
      clear hl
      have ha := assert_pair_lone
      have hd := assert_lone
      go_enter Try.func47, Try.ntmps47
      go_wp2_with fail
      refine (work_any _ _).mono ?_
      rintro e w' ⟨rfl, rfl⟩
      simp only [workV]
      go_wp2_with fail
      have m1 := Mod.alloc w (.cells #[.func (Fn.func 95) #[] #[]] 98)
      refine (needs1_any _ _).mono ?_
      rintro e w3 ⟨rfl, m3⟩
      go_wp2_with fail
      go_ret2
      exact ⟨_, rfl, OI.nil _ _, (m1.trans m3).below0 (Below.refl _ _) (Nat.le_refl _)⟩
  · have hku : unfit k xss := by simp at hk; exact ⟨by omega, by omega⟩
    rw [krL_unfit hku, krB_unfit hku]
    have WV := hid (workV_none hk)
    have ha := assert_pair_nil
    have hd := assert_lone_nil
    clear hku hk
    go_enter Try.func47, Try.ntmps47
    go_wp2_with fail
    refine (work_any _ _).mono ?_
    rintro e w' ⟨rfl, rfl⟩
    rw [WV.out]
    go_wp2_with fail
    go_ret2
    exact ⟨_, rfl, OI.nil _ _, Below.refl _ _⟩
end Go.Proofs.Yteelobokjidphaa
