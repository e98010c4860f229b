/- What an argument of nodes, and of one node, reads as. No condition. -/
import Derived.Test.YteelobokjidphaaArgs
import Derived.Test.YteelobokjidphaaPlan
import Derived.Deep.Slices
import Derived.Deep.Fields
import Derived.ChangeSame
namespace Go.Proofs.Yteelobokjidphaa
open Go.ChangeShapes Go.WideShapes Go.RowKit Go.Deep
set_option maxRecDepth 100000

/-- The slice value `v` reads as the nodes `ns`. -/
def PLA (w : World) (v : Value) (ns : List Nd) : Prop := PL w w.heap.size v ns
/-- The value `v` reads as the node `n`. -/
def NLA (w : World) (v : Value) (n : Nd) : Prop := ∃ vf vr, v = .agg #[.int .i64 n.kind, vf, vr] ∧ RL w vf n.fs ∧ RL w vr n.row

theorem rl_trod {H : Type} {enc : TypeId × Value → H} {W : World} {u : Value} {fuel : Nat} {x : DataW H × List MemPlace} (hf : DataW.trod enc Try.prog W 0 (fun _ => true) true fuel 24 [u] = some x) : ∃ xs, RL W u xs := by
  rcases open_ints Try.underlying24 Try.underlying3 (by kernel_rfl) hf with ⟨hcs, _⟩ | ⟨x, l, c, zs, hcs, _, hl, hm, hz, _, hcell, hwz⟩
  · simp at hcs
    subst hcs
    exact ⟨[], none, 0, rfl, by simp, by unfold maxLen; omega, fun i hi => by simp at hi⟩
  · simp at hcs
    subst hcs
    have hz' : zs.length = c := by simpa using hz
    have hlen : (zs.take l).length = l := by simp; omega
    refine ⟨zs.take l, some x, c, by rw [hlen], by omega, hm, fun i hi => ?_⟩
    have hc := hcell i (by omega)
    obtain ⟨b, off, spot⟩ := x
    have hc0 := hcell 0 (by omega)
    have hspot : spot = none := by simpa [Addr.add] using World.cell?_spot hc0
    subst hspot
    rw [Addr.add_lit] at hc
    refine ⟨b, off, rfl, World.block_lt_of_cell? W _ hc, ?_⟩
    rw [hc]
    have e : (zs.take l).getD i 0 = zs.getD i 0 := by
      rw [hlen] at hi
      simp [hi]
    rw [e]

/-- Three cells that are read as a node. -/
theorem node_of_trod {H : Type} {enc : TypeId × Value → H} {W : World} {fuel : Nat} {cs : List Value} {x : DataW H × List MemPlace} (h : DataW.trod enc Try.prog W 0 (fun _ => true) true fuel 44 cs = some x) :
    ∃ kd vf vr fs row, cs = [.int .i64 kd, vf, vr] ∧ RL W vf fs ∧ RL W vr row := by
  obtain ⟨xs, n, _, hx, hlen, hxl, hg⟩ := DataW.trod_struct Try.underlying44 h
  have hC : Try.prog.cellsOf 44 = 3 := by kernel_rfl
  have hI : Try.prog.cellsOf 3 = 1 := by kernel_rfl
  have hS : Try.prog.cellsOf 24 = 1 := by kernel_rfl
  rw [hC] at hlen
  match cs, hlen with
  | [c0, c1, c2], _ =>
    match xs, hxl with
    | [y0, y1, y2], _ =>
      have g0 := hg 0 _ rfl
      have g1 := hg 1 _ rfl
      have g2 := hg 2 _ rfl
      simp [hI, hS] at g0 g1 g2
      obtain ⟨kd, e0, -, -⟩ := DataW.trod_int Try.underlying3 g0
      obtain ⟨fs, hfs⟩ := rl_trod g1
      obtain ⟨row, hrow⟩ := rl_trod g2
      simp at e0
      subst e0
      exact ⟨kd, c1, c2, fs, row, rfl, hfs, hrow⟩

theorem open_nl {H : Type} {enc : TypeId × Value → H} {W : World} {base : Nat} {v : Value} {d : DataW H} {p : List MemPlace}
    (hok : Value.okWide Try.prog W .any base 44 v) (h : DataW.Trod enc Try.prog W 0 (fun _ => true) true 44 v d p) : ∃ n, NLA W v n := by
  obtain ⟨cs, rfl, hsz⟩ := okWide_struct Try.underlying44 hok
  obtain ⟨fuel, hf⟩ := h
  obtain ⟨kd, vf, vr, fs, row, e, h1, h2⟩ := node_of_trod hf
  obtain ⟨l⟩ := cs
  simp [Value.cells] at e
  subst e
  exact ⟨⟨kd, fs, row⟩, vf, vr, rfl, h1, h2⟩

theorem open_pl {H : Type} {enc : TypeId × Value → H} {W : World} {base : Nat} {v : Value} {d : DataW H} {p : List MemPlace}
    (hok : Value.okWide Try.prog W .any base 22 v) (h : DataW.Trod enc Try.prog W 0 (fun _ => true) true 22 v d p) : ∃ ns, PLA W v ns := by
  obtain ⟨a, len, cap, rfl⟩ := okWide_slice Try.underlying22 hok
  obtain ⟨fuel, hf⟩ := h
  have hC : Try.prog.cellsOf 44 = 3 := by kernel_rfl
  rcases open_slice Try.underlying22 hf with ⟨hcs, _⟩ | ⟨x, l, c, m, n, D, Pl, hcs, _, hl, hm, hmm, _, hx⟩
  · simp [Value.cells] at hcs
    obtain ⟨rfl, rfl, rfl⟩ := hcs
    exact ⟨[], none, 0, rfl, by simp, by unfold maxLen; omega, Nat.le_refl _, fun i hi => by simp at hi⟩
  · simp [Value.cells] at hcs
    obtain ⟨rfl, rfl, rfl⟩ := hcs
    have hmc : len ≤ m := by rw [hmm]; split <;> omega
    rw [hC] at hx
    by_cases h0 : len = 0
    · subst h0
      exact ⟨[], some x, cap, by simp, by simp, hm, Nat.le_refl _, fun i hi => by simp at hi⟩
    obtain ⟨b, off, spot⟩ := x
    have hspot : spot = none := by
      obtain ⟨cs', hc, ht⟩ := hx 0 (by omega)
      obtain ⟨kd, vf, vr, fs, row, rfl, h1, h2⟩ := node_of_trod ht
      obtain ⟨_, _, hat⟩ := World.cells?_some hc
      have := World.cell?_spot (hat 0 (by omega))
      simpa [Addr.add] using this
    subst hspot
    have hnode : ∀ i, ∃ (nd : Nd) (vf vr : Value), i < m → W.cell? (((⟨b, off, none⟩ : Addr).add (i * 3)).add 0) = some (.int .i64 nd.kind) ∧ W.cell? (((⟨b, off, none⟩ : Addr).add (i * 3)).add 1) = some vf ∧ W.cell? (((⟨b, off, none⟩ : Addr).add (i * 3)).add 2) = some vr ∧ RL W vf nd.fs ∧ RL W vr nd.row := fun i => by
      by_cases hi : i < m
      · obtain ⟨cs', hc, ht⟩ := hx i hi
        obtain ⟨kd, vf, vr, fs, row, rfl, h1, h2⟩ := node_of_trod ht
        obtain ⟨_, _, hat⟩ := World.cells?_some hc
        exact ⟨⟨kd, fs, row⟩, vf, vr, fun _ => ⟨hat 0 (by omega), hat 1 (by omega), hat 2 (by omega), h1, h2⟩⟩
      · exact ⟨nd0, undef, undef, fun h => absurd h hi⟩
    refine ⟨(List.range len).map fun i => Classical.choose (hnode i), some ⟨b, off, none⟩, cap, by simp, by simpa using hl, hm, Nat.le_refl _, fun i hi => ?_⟩
    have hi' : i < len := by simpa using hi
    obtain ⟨vf, vr, hs⟩ := Classical.choose_spec (hnode i)
    have e : ((List.range len).map fun i => Classical.choose (hnode i)).getD i nd0 = Classical.choose (hnode i) := by simp [hi']
    rw [e]
    generalize Classical.choose (hnode i) = nd at hs ⊢
    obtain ⟨c0, c1, c2, hf', hr'⟩ := hs (by omega)
    simp only [Addr.add_lit, Nat.add_zero] at c0 c1 c2
    exact ⟨b, off, vf, vr, rfl, World.block_lt_of_cell? W _ c0, c0, c1, c2, hf'.rr, hr'.rr⟩
end Go.Proofs.Yteelobokjidphaa
