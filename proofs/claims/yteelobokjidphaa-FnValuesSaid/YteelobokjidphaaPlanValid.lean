/- The program's PlanValid. No condition. -/
import Derived.Test.YteelobokjidphaaGraphOf
namespace Go.Proofs.Yteelobokjidphaa
open Go.RowKit
set_option maxRecDepth 100000

theorem iplan_any (v : Value) (ns : List Nd) (hi : Nat) (w : World) (h : PL w hi v ns) :
    Calls Try.prog 51 #[v] w fun e w' => e = .returned (.bool (planB ns)) ∧ Mod 0 0 w w' := by
  obtain ⟨pb, hpb⟩ : ∃ pb, pb = planB ns := ⟨_, rfl⟩
  rw [← hpb]
  have HPB := hid hpb
  obtain ⟨a, c, rfl, -⟩ := id h
  clear hpb
  go_enter Try.func51, Try.ntmps51
  go_wp2_with fail
  refine (graph_any _ ns hi w h).mono ?_
  rintro e w1 ⟨hb, ⟨hp, vg, P, rfl, -⟩ | ⟨hp, rfl⟩⟩
  · go_wp2_with fail
    go_ret
    exact ⟨by rw [HPB.out, hp]; rfl, Mod.of_below hb⟩
  · go_wp2_with fail
    go_ret
    exact ⟨by rw [HPB.out, hp]; rfl, Mod.of_below hb⟩
end Go.Proofs.Yteelobokjidphaa
