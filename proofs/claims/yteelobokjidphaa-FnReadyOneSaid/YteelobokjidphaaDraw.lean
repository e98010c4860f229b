/- The contracts of the statements' drawing of rows: the reader of a code, one pick, a row. No condition. -/
import Derived.Test.YteelobokjidphaaArgs
import Derived.Test.YteelobokjidphaaPure
import Derived.Deep.QuietTactic
import Derived.BigQuiet
namespace Go.Proofs.Yteelobokjidphaa
open Go.RowKit

/-- Block `r` is a reader of bytes that lie below `hi`; it has been asked at most `P` times. -/
def RD (w : World) (hi r P : Nat) : Prop :=
  ∃ a n c p, w.heap[r]? = some (.cells #[.slice a n c, .int .i64 (p : Nat)] 112 (0, 0)) ∧ p ≤ P ∧ n ≤ 2000 ∧ n ≤ c ∧ hi ≤ r ∧
    ∀ i, i < n → ∃ b o x, a = some ⟨b, o, none⟩ ∧ b < hi ∧ w.cell? ⟨b, o + i, none⟩ = some (.int .u8 x) ∧ 0 ≤ x ∧ x ≤ 255

theorem RD.up {w : World} {hi r P P' : Nat} (h : RD w hi r P) (hP : P ≤ P') : RD w hi r P' := by
  obtain ⟨a, n, c, p, h1, h2, h3⟩ := h
  exact ⟨a, n, c, p, h1, Nat.le_trans h2 hP, h3⟩

theorem RD.mod {w w' : World} {hi r P A B : Nat} (h : RD w hi r P) (hm : Mod A B w w') (hA : (hi ≤ A ∧ (r < A ∨ B ≤ r)) ∨ B = 0) : RD w' hi r P := by
  obtain ⟨a, n, c, p, h1, h2, h3, h4, h5, h6⟩ := h
  have hr : r < w.heap.size := (Array.getElem?_eq_some_iff.1 h1).1
  refine ⟨a, n, c, p, by rw [hm.block r hr (by omega)]; exact h1, h2, h3, h4, h5, fun i hi' => ?_⟩
  obtain ⟨b, o, x, e, hb, hc, hx⟩ := h6 i hi'
  refine ⟨b, o, x, e, hb, ?_, hx⟩
  exact (World.cell?_of_block (hm.block b (by omega) (by omega))).trans hc

theorem RD.lt {w : World} {hi r P : Nat} (h : RD w hi r P) : r < w.heap.size := by
  obtain ⟨a, n, c, p, h1, _⟩ := h
  exact (Array.getElem?_eq_some_iff.1 h1).1

theorem RD.next {w : World} {hi r P : Nat} {a : Option Addr} {n c p : Nat} (h1 : w.heap[r]? = some (.cells #[.slice a n c, .int .i64 (p : Nat)] 112 (0, 0))) (h2 : p ≤ P) (h3 : n ≤ 2000) (h4 : n ≤ c) (h5 : hi ≤ r)
    (h6 : ∀ i, i < n → ∃ b o x, a = some ⟨b, o, none⟩ ∧ b < hi ∧ w.cell? ⟨b, o + i, none⟩ = some (.int .u8 x) ∧ 0 ≤ x ∧ x ≤ 255) :
    RD (w.setCell ⟨r, 1, none⟩ (.int .i64 ((p : Int) + 1))) hi r (P + 1) := by
  refine ⟨a, n, c, p + 1, ?_, by omega, h3, h4, h5, fun i hi' => ?_⟩
  · simp [World.setCell, Array.getElem?_modify, h1]
  · obtain ⟨b, o, x, e, hb, hc, hx⟩ := h6 i hi'
    exact ⟨b, o, x, e, hb, (World.cell?_of_block (Below.heap_setCell w _ _ b (by simp; omega))).trans hc, hx⟩

theorem RD.made {w : World} {a : Option Addr} {n c : Nat} (h3 : n ≤ 2000) (h4 : n ≤ c)
    (h6 : ∀ i, i < n → ∃ b o x, a = some ⟨b, o, none⟩ ∧ b < w.heap.size ∧ w.cell? ⟨b, o + i, none⟩ = some (.int .u8 x) ∧ 0 ≤ x ∧ x ≤ 255) :
    RD (w.alloc (.cells #[.slice a n c, .int .i64 0] 112)) w.heap.size w.heap.size 0 := by
  refine ⟨a, n, c, 0, heap_alloc_new w _, by omega, h3, h4, Nat.le_refl _, fun i hi' => ?_⟩
  obtain ⟨b, o, x, e, hb, hc, hx⟩ := h6 i hi'
  exact ⟨b, o, x, e, hb, (World.cell?_of_block (heap_alloc_old w _ hb)).trans hc, hx⟩

theorem l6Open_any (v : Value) (xs : List Int) (w : World) (h : BL w v xs) :
    Calls Try.prog 73 #[v] w fun e w' => e = .returned (.pointer (some ⟨w.heap.size, 0, none⟩)) ∧ RD w' w.heap.size w.heap.size 0 ∧ Below w.heap.size w w' := by
  obtain ⟨a, c, rfl, h1, h2, h3⟩ := h
  unfold maxLen at h2
  have H3 := hid h3
  clear h3
  go_enter Try.func73, Try.ntmps73
  by_cases hl : 2000 < xs.length
  · go_wp2
    go_ret
    refine ⟨rfl, ?_, (Below.refl _ _).alloc (Nat.le_refl _) _⟩
    refine RD.made (by omega) (by omega) fun i hi => ?_
    obtain ⟨b, o, e, hb, hc, hx⟩ := H3.out i (by omega)
    exact ⟨b, o, _, e, hb, hc, hx⟩
  · go_wp2
    go_ret
    refine ⟨rfl, ?_, (Below.refl _ _).alloc (Nat.le_refl _) _⟩
    refine RD.made (by omega) (by omega) fun i hi => ?_
    obtain ⟨b, o, e, hb, hc, hx⟩ := H3.out i (by omega)
    exact ⟨b, o, _, e, hb, hc, hx⟩

theorem xor_nonneg (a b : Int) (h1 : 0 ≤ a) (h2 : a < 4611686018427387904) (h3 : 0 ≤ b) (h4 : b < 4611686018427387904) : 0 ≤ bits .xor .i64 a b := by
  obtain ⟨A, rfl⟩ := Int.eq_ofNat_of_zero_le h1
  obtain ⟨B, rfl⟩ := Int.eq_ofNat_of_zero_le h3
  have hx : A ^^^ B < 2 ^ 62 := Nat.xor_lt_two_pow (by omega) (by omega)
  have e1 : (BitVec.ofInt 64 (A : Int)).toNat = A := by
    rw [BitVec.ofInt_natCast, BitVec.toNat_ofNat]; exact Nat.mod_eq_of_lt (by omega)
  have e2 : (BitVec.ofInt 64 (B : Int)).toNat = B := by
    rw [BitVec.ofInt_natCast, BitVec.toNat_ofNat]; exact Nat.mod_eq_of_lt (by omega)
  show 0 ≤ IntKind.i64.wrap ((BitVec.ofInt 64 (A : Int) ^^^ BitVec.ofInt 64 (B : Int)).toNat : Int)
  rw [BitVec.toNat_xor, e1, e2, IntWalk.i64_in _ (by omega)]
  omega

/-- What one pick leaves. -/
def Picked (w : World) (hi r P : Nat) (n : Int) (e : Ending) (w' : World) : Prop :=
  ∃ q, e = .returned (.int .i64 q) ∧ 0 ≤ q ∧ (1 ≤ n → q < n) ∧ (n < 1 → q = 0) ∧ RD w' hi r (P + 1) ∧ Mod r (r + 1) w w'

set_option maxHeartbeats 4000000 in
set_option maxRecDepth 100000 in
theorem pick_any (hi r P : Nat) (n : Int) (w : World) (h : RD w hi r P) (hP : P ≤ 1000000) (hn : n ≤ 1000000) :
    Calls Try.prog 76 #[.pointer (some ⟨r, 0, none⟩), .int .i64 n] w (Picked w hi r P n) := by
  obtain ⟨a, L, c, p, hb, hp, hL, hLc, hlo, hby⟩ := h
  have hc0 := cell_of_row w r 0 _ _ _ hb
  have hc1 := cell_of_row w r 1 _ _ _ hb
  simp at hc0 hc1
  have hf : w.frozen? ⟨r, 1, none⟩ = false := by simp [World.frozen?, hb]
  have hrd := RD.next hb hp hL hLc hlo hby
  have hmd : Mod r (r + 1) w (w.setCell ⟨r, 1, none⟩ (.int .i64 ((p : Int) + 1))) := Mod.setCell (a := ⟨r, 1, none⟩) (Nat.le_refl _) (Nat.lt_succ_self _) _
  have HB := hid hb
  have HBY := hid hby
  have HRD := hid hrd
  have HMD := hid hmd
  clear hb hby hrd hmd
  by_cases hn1 : n < 1
  · go_enter Try.func76, Try.ntmps76
    go_wp2
    go_ret
    exact ⟨0, rfl, by omega, by omega, fun _ => rfl, HRD.out, HMD.out⟩
  by_cases hL0 : L = 0
  · subst hL0
    go_enter Try.func76, Try.ntmps76
    go_wp2
    go_ret
    exact ⟨0, rfl, by omega, by omega, fun _ => rfl, HRD.out, HMD.out⟩
  have hL1 : 1 ≤ L := by omega
  by_cases hpL : p < L
  · obtain ⟨b, o, x, rfl, hbh, hcx, hx0, hx1⟩ := HBY.out p hpL
    have hcx' : (w.setCell ⟨r, 1, none⟩ (.int .i64 ((p : Int) + 1))).cell? ⟨b, o + p, none⟩ = some (.int .u8 x) := (World.cell?_of_block (Below.heap_setCell w _ _ b (by simp; omega))).trans hcx
    clear hcx
    have hm0 : 0 ≤ x % n := Int.emod_nonneg _ (by omega)
    have hm1 : x % n < n := Int.emod_lt_of_pos _ (by omega)
    have HM0 := hid hm0
    have HM1 := hid hm1
    clear hm0 hm1
    go_enter Try.func76, Try.ntmps76
    go_wp2
    go_ret
    exact ⟨x % n, rfl, HM0.out, fun _ => HM1.out, by omega, HRD.out, HMD.out⟩
  · obtain ⟨i1, hi1⟩ : ∃ i1 : Nat, i1 = p % L := ⟨_, rfl⟩
    obtain ⟨i2, hi2⟩ : ∃ i2 : Nat, i2 = (p * 7 + 3) % L := ⟨_, rfl⟩
    have hl1 : i1 < L := by rw [hi1]; exact Nat.mod_lt _ (by omega)
    have hl2 : i2 < L := by rw [hi2]; exact Nat.mod_lt _ (by omega)
    obtain ⟨d, hd⟩ : ∃ d : Nat, d = p / L := ⟨_, rfl⟩
    have hdp : d ≤ p := by rw [hd]; exact Nat.div_le_self _ _
    obtain ⟨b, o, x, rfl, hbh, hcx, hx0, hx1⟩ := HBY.out i1 hl1
    obtain ⟨b', o', y, hbo, hbh', hcy, hy0, hy1⟩ := HBY.out i2 hl2
    simp only [Option.some.injEq, Addr.mk.injEq, and_true] at hbo
    obtain ⟨rfl, rfl⟩ := hbo
    have hcx' : (w.setCell ⟨r, 1, none⟩ (.int .i64 ((p : Int) + 1))).cell? ⟨b, o + i1, none⟩ = some (.int .u8 x) := (World.cell?_of_block (Below.heap_setCell w _ _ b (by simp; omega))).trans hcx
    have hcy' : (w.setCell ⟨r, 1, none⟩ (.int .i64 ((p : Int) + 1))).cell? ⟨b, o + i2, none⟩ = some (.int .u8 y) := (World.cell?_of_block (Below.heap_setCell w _ _ b (by simp; omega))).trans hcy
    clear hcx hcy
    have t1 : ((p : Int)).tmod (L : Int) = (i1 : Int) := by rw [hi1, Int.tmod_eq_emod_of_nonneg (by omega)]; omega
    have t2 : ((p : Int) * 7 + 3).tmod (L : Int) = (i2 : Int) := by rw [hi2, Int.tmod_eq_emod_of_nonneg (by omega)]; simp
    have t3 : ((p : Int)).tdiv (L : Int) = (d : Int) := by rw [hd, Int.tdiv_eq_ediv_of_nonneg (by omega)]; omega
    clear hi1 hi2 hd
    have a1 : IntKind.i64.wrap ((p : Int) * 7) = (p : Int) * 7 := IntWalk.i64_in _ (by omega)
    have a2 : IntKind.i64.wrap ((p : Int) * 7 + 3) = (p : Int) * 7 + 3 := IntWalk.i64_in _ (by omega)
    have a3 : IntKind.i64.wrap x = x := IntWalk.i64_in _ (by omega)
    have a4 : IntKind.i64.wrap y = y := IntWalk.i64_in _ (by omega)
    have a5 : IntKind.i64.wrap (x * 131) = x * 131 := IntWalk.i64_in _ (by omega)
    have a6 : IntKind.i64.wrap (y * 1117) = y * 1117 := IntWalk.i64_in _ (by omega)
    have a7 : IntKind.i64.wrap (x * 131 + y * 1117) = x * 131 + y * 1117 := IntWalk.i64_in _ (by omega)
    have a8 : IntKind.i64.wrap ((p : Int) * 29) = (p : Int) * 29 := IntWalk.i64_in _ (by omega)
    have a9 : IntKind.i64.wrap (x * 131 + y * 1117 + (p : Int) * 29) = x * 131 + y * 1117 + (p : Int) * 29 := IntWalk.i64_in _ (by omega)
    have a10 : IntKind.i64.wrap ((d : Int) * 53) = (d : Int) * 53 := IntWalk.i64_in _ (by omega)
    have a11 : IntKind.i64.wrap (x * 131 + y * 1117 + (p : Int) * 29 + (d : Int) * 53) = x * 131 + y * 1117 + (p : Int) * 29 + (d : Int) * 53 := IntWalk.i64_in _ (by omega)
    have b1 : (0 : Int) ≤ (i1 : Int) := by omega
    have b2 : (i1 : Int) < (L : Int) := by omega
    have b3 : (0 : Int) ≤ (i2 : Int) := by omega
    have b4 : (i2 : Int) < (L : Int) := by omega
    go_enter Try.func76, Try.ntmps76
    go_wp2
    go_quiet (fail)
    go_wp2
    go_ret
    have hx : 0 ≤ bits .xor .i64 (x * 131 + y * 1117 + (p : Int) * 29 + (d : Int) * 53) ((x * 131 + y * 1117 + (p : Int) * 29 + (d : Int) * 53) / 64) := xor_nonneg _ _ (by omega) (by omega) (by omega) (by omega)
    refine ⟨_, rfl, ?_, fun h1 => ?_, by omega, HRD.out, ?_⟩
    · show 0 ≤ Int.tmod _ n
      rw [Int.tmod_eq_emod_of_nonneg hx]
      exact Int.emod_nonneg _ (by omega)
    · show Int.tmod _ n < n
      rw [Int.tmod_eq_emod_of_nonneg hx]
      exact Int.emod_lt_of_pos _ (by omega)
    · exact ⟨HMD.out.os, HMD.out.tape, HMD.out.output, HMD.out.size, HMD.out.block⟩
end Go.Proofs.Yteelobokjidphaa
