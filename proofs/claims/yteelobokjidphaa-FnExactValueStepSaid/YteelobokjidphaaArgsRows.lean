/- What an argument of rows reads as. No condition. -/
import Derived.Test.YteelobokjidphaaArgs
import Derived.Test.YteelobokjidphaaGrid
import Derived.Deep.Slices
namespace Go.Proofs.Yteelobokjidphaa
open Go.ChangeShapes Go.WideShapes Go.RowKit Go.Deep
set_option maxRecDepth 100000

/-- The slice value `v` reads as the rows `xss`. -/
def RSL (w : World) (v : Value) (xss : List (List Int)) : Prop := RS w w.heap.size v xss

theorem rl_of_trod {H : Type} {enc : TypeId × Value → H} {W : World} {u : Value} {fuel : Nat} {x : DataW H × List MemPlace} (hf : DataW.trod enc Try.prog W 0 (fun _ => true) true fuel 24 [u] = some x) : ∃ xs, RL W u xs := by
  rcases open_ints Try.underlying24 Try.underlying3 (by kernel_rfl) hf with ⟨hcs, _⟩ | ⟨x, l, c, zs, hcs, _, hl, hm, hz, _, hcell, hwz⟩
  · simp at hcs
    subst hcs
    exact ⟨[], none, 0, rfl, by simp, by unfold maxLen; omega, fun i hi => by simp at hi⟩
  · simp at hcs
    subst hcs
    have hz' : zs.length = c := by simpa using hz
    have hlen : (zs.take l).length = l := by simp; omega
    refine ⟨zs.take l, some x, c, by rw [hlen], by omega, hm, fun i hi => ?_⟩
    have hc := hcell i (by omega)
    obtain ⟨b, off, spot⟩ := x
    have hc0 := hcell 0 (by omega)
    have hspot : spot = none := by simpa [Addr.add] using World.cell?_spot hc0
    subst hspot
    rw [Addr.add_lit] at hc
    refine ⟨b, off, rfl, World.block_lt_of_cell? W _ hc, ?_⟩
    rw [hc]
    have e : (zs.take l).getD i 0 = zs.getD i 0 := by
      rw [hlen] at hi
      simp [hi]
    rw [e]

theorem open_rsl {H : Type} {enc : TypeId × Value → H} {W : World} {base : Nat} {v : Value} {d : DataW H} {p : List MemPlace}
    (hok : Value.okWide Try.prog W .any base 34 v) (h : DataW.Trod enc Try.prog W 0 (fun _ => true) true 34 v d p) : ∃ xss, RSL W v xss := by
  obtain ⟨a, len, cap, rfl⟩ := okWide_slice Try.underlying34 hok
  obtain ⟨fuel, hf⟩ := h
  rcases open_slice1 Try.underlying34 (by kernel_rfl) hf with ⟨hcs, _⟩ | ⟨x, l, c, m, n, V, D, Pl, hcs, _, hl, hm, hmm, _, hx⟩
  · simp [Value.cells] at hcs
    obtain ⟨rfl, rfl, rfl⟩ := hcs
    exact ⟨[], none, 0, rfl, by simp, by unfold maxLen; omega, Nat.le_refl _, fun i hi => by simp at hi⟩
  · simp [Value.cells] at hcs
    obtain ⟨rfl, rfl, rfl⟩ := hcs
    have hmc : len ≤ m := by rw [hmm]; split <;> omega
    have hrow : ∀ i, ∃ xs, i < m → RL W (V i) xs := fun i => by
      by_cases hi : i < m
      · obtain ⟨xs, hxs⟩ := rl_of_trod (hx i hi).2
        exact ⟨xs, fun _ => hxs⟩
      · exact ⟨[], fun h => absurd h hi⟩
    refine ⟨(List.range len).map fun i => Classical.choose (hrow i), some x, cap, by simp, by simpa using hl, hm, Nat.le_refl _, fun i hi => ?_⟩
    have hi' : i < len := by simpa using hi
    have hc := (hx i (by omega)).1
    obtain ⟨b, off, spot⟩ := x
    have hspot : spot = none := by simpa [Addr.add] using World.cell?_spot (hx 0 (by omega)).1
    subst hspot
    rw [Addr.add_lit] at hc
    refine ⟨b, off, V i, rfl, World.block_lt_of_cell? W _ hc, hc, ?_⟩
    have e : ((List.range len).map fun i => Classical.choose (hrow i)).getD i [] = Classical.choose (hrow i) := by simp [hi']
    rw [e]
    exact (Classical.choose_spec (hrow i) (by omega)).rr
end Go.Proofs.Yteelobokjidphaa
