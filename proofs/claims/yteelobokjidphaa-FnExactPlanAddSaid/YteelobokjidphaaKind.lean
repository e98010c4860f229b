/- The contracts of the functions on kinds. No condition. -/
import Derived.Test.YteelobokjidphaaRow
import Derived.Handy
import Derived.Laws.EntriesVeiled
namespace Go.Proofs.Yteelobokjidphaa
open Go.RowKit

/-- What a kind does, as the program keeps it. -/
def workV (k : Int) : Value :=
  if k = 0 then .iface 114 (.agg #[])
  else if k = 1 then .iface 94 (.agg #[.func (Fn.func 91) #[] #[]])
  else if k = 2 then .iface 94 (.agg #[.func (Fn.func 92) #[] #[]])
  else if k = 3 then .iface 98 (.agg #[.func (Fn.func 93) #[] #[]])
  else if k = 4 then .iface 98 (.agg #[.func (Fn.func 94) #[] #[]])
  else if k = 5 then .iface 98 (.agg #[.func (Fn.func 95) #[] #[]])
  else .nilIface

def kvB (k : Int) : Bool := decide (0 ≤ k) && decide (k ≤ 5)
def knI (k : Int) : Int := if kvB k then (if k = 0 then 0 else if k ≤ 2 then 2 else 1) else -1

def ksB (k : Int) : Bool := knI k == 2
theorem kind_cases (k : Int) : k = 0 ∨ k = 1 ∨ k = 2 ∨ k = 3 ∨ k = 4 ∨ k = 5 ∨ ((k == 0) = false ∧ (k == 1) = false ∧ (k == 2) = false ∧ (k == 3) = false ∧ (k == 4) = false ∧ (k == 5) = false) := by
  simp; omega
theorem workV_none {k : Int} (h : (k == 0) = false ∧ (k == 1) = false ∧ (k == 2) = false ∧ (k == 3) = false ∧ (k == 4) = false ∧ (k == 5) = false) : workV k = .nilIface := by
  simp at h
  unfold workV
  simp [h]
theorem kvB_none {k : Int} (h : (k == 0) = false ∧ (k == 1) = false ∧ (k == 2) = false ∧ (k == 3) = false ∧ (k == 4) = false ∧ (k == 5) = false) : kvB k = false := by
  simp at h
  unfold kvB
  simp
  omega

set_option maxHeartbeats 1000000 in
theorem work_any (k : Int) (w : World) : Calls Try.prog 79 #[.int .i64 k] w fun e w' => e = .returned (workV k) ∧ w = w' := by
  rcases kind_cases k with rfl | rfl | rfl | rfl | rfl | rfl | h
  · go_enter Try.func79, Try.ntmps79
    go_wp2
    go_ret
    exact ⟨rfl, rfl⟩
  · go_enter Try.func79, Try.ntmps79
    go_wp2
    go_ret
    exact ⟨rfl, rfl⟩
  · go_enter Try.func79, Try.ntmps79
    go_wp2
    go_ret
    exact ⟨rfl, rfl⟩
  · go_enter Try.func79, Try.ntmps79
    go_wp2
    go_ret
    exact ⟨rfl, rfl⟩
  · go_enter Try.func79, Try.ntmps79
    go_wp2
    go_ret
    exact ⟨rfl, rfl⟩
  · go_enter Try.func79, Try.ntmps79
    go_wp2
    go_ret
    exact ⟨rfl, rfl⟩
  · have hv := workV_none h
    have HV := hid hv
    obtain ⟨h0, h1, h2, h3, h4, h5⟩ := h
    clear hv
    go_enter Try.func79, Try.ntmps79
    go_wp2
    go_ret
    exact ⟨by rw [HV.out]; rfl, rfl⟩

theorem kv0 : kvB 0 = true := by decide
theorem kv1 : kvB 1 = true := by decide
theorem kv2 : kvB 2 = true := by decide
theorem kv3 : kvB 3 = true := by decide
theorem kv4 : kvB 4 = true := by decide
theorem kv5 : kvB 5 = true := by decide
theorem kn0 : knI 0 = 0 := by decide
theorem kn1 : knI 1 = 2 := by decide
theorem kn2 : knI 2 = 2 := by decide
theorem kn3 : knI 3 = 1 := by decide
theorem kn4 : knI 4 = 1 := by decide
theorem kn5 : knI 5 = 1 := by decide
theorem knI_none {k : Int} (h : (k == 0) = false ∧ (k == 1) = false ∧ (k == 2) = false ∧ (k == 3) = false ∧ (k == 4) = false ∧ (k == 5) = false) : knI k = -1 := by unfold knI; rw [kvB_none h]; rfl

theorem ksB_none {k : Int} (h : (k == 0) = false ∧ (k == 1) = false ∧ (k == 2) = false ∧ (k == 3) = false ∧ (k == 4) = false ∧ (k == 5) = false) : ksB k = false := by unfold ksB; rw [knI_none h]; rfl

theorem skv_any (k : Int) (w : World) : Calls Try.prog 103 #[.int .i64 k] w fun e w' => e = .returned (.bool (kvB k)) ∧ w = w' := by
  go_enter Try.func103, Try.ntmps103
  go_wp2_with fail
  refine (l6In_any _ _ _ _).mono ?_
  rintro e w' ⟨rfl, rfl⟩
  go_wp2_with fail
  go_ret
  exact ⟨rfl, rfl⟩

theorem ikv_any (k : Int) (w : World) : Calls Try.prog 110 #[.int .i64 k] w fun e w' => e = .returned (.bool (kvB k)) ∧ w = w' := by
  rcases kind_cases k with rfl | rfl | rfl | rfl | rfl | rfl | h
  · rw [kv0]
    go_enter Try.func110, Try.ntmps110
    go_wp2_with fail
    refine (work_any _ _).mono ?_
    rintro e w' ⟨rfl, rfl⟩
    simp only [workV]
    go_wp2_with fail
    go_ret
    exact ⟨rfl, rfl⟩
  · rw [kv1]
    go_enter Try.func110, Try.ntmps110
    go_wp2_with fail
    refine (work_any _ _).mono ?_
    rintro e w' ⟨rfl, rfl⟩
    simp only [workV]
    go_wp2_with fail
    go_ret
    exact ⟨rfl, rfl⟩
  · rw [kv2]
    go_enter Try.func110, Try.ntmps110
    go_wp2_with fail
    refine (work_any _ _).mono ?_
    rintro e w' ⟨rfl, rfl⟩
    simp only [workV]
    go_wp2_with fail
    go_ret
    exact ⟨rfl, rfl⟩
  · rw [kv3]
    go_enter Try.func110, Try.ntmps110
    go_wp2_with fail
    refine (work_any _ _).mono ?_
    rintro e w' ⟨rfl, rfl⟩
    simp only [workV]
    go_wp2_with fail
    go_ret
    exact ⟨rfl, rfl⟩
  · rw [kv4]
    go_enter Try.func110, Try.ntmps110
    go_wp2_with fail
    refine (work_any _ _).mono ?_
    rintro e w' ⟨rfl, rfl⟩
    simp only [workV]
    go_wp2_with fail
    go_ret
    exact ⟨rfl, rfl⟩
  · rw [kv5]
    go_enter Try.func110, Try.ntmps110
    go_wp2_with fail
    refine (work_any _ _).mono ?_
    rintro e w' ⟨rfl, rfl⟩
    simp only [workV]
    go_wp2_with fail
    go_ret
    exact ⟨rfl, rfl⟩
  · rw [kvB_none h]
    have HV := hid (workV_none h)
    clear h
    go_enter Try.func110, Try.ntmps110
    go_wp2_with fail
    refine (work_any _ _).mono ?_
    rintro e w' ⟨rfl, rfl⟩
    rw [HV.out]
    go_wp2_with fail
    go_ret
    exact ⟨rfl, rfl⟩

set_option maxHeartbeats 1000000 in
theorem skn_any (k : Int) (w : World) : Calls Try.prog 90 #[.int .i64 k] w fun e w' => e = .returned (.int .i64 (knI k)) ∧ w = w' := by
  rcases kind_cases k with rfl | rfl | rfl | rfl | rfl | rfl | h
  · rw [kn0]
    go_enter Try.func90, Try.ntmps90
    go_wp2_with fail
    refine (skv_any _ _).mono ?_
    rintro e w' ⟨rfl, rfl⟩
    rw [kv0]
    go_wp2_with fail
    go_ret
    exact ⟨rfl, rfl⟩
  · rw [kn1]
    go_enter Try.func90, Try.ntmps90
    go_wp2_with fail
    refine (skv_any _ _).mono ?_
    rintro e w' ⟨rfl, rfl⟩
    rw [kv1]
    go_wp2_with fail
    go_ret
    exact ⟨rfl, rfl⟩
  · rw [kn2]
    go_enter Try.func90, Try.ntmps90
    go_wp2_with fail
    refine (skv_any _ _).mono ?_
    rintro e w' ⟨rfl, rfl⟩
    rw [kv2]
    go_wp2_with fail
    go_ret
    exact ⟨rfl, rfl⟩
  · rw [kn3]
    go_enter Try.func90, Try.ntmps90
    go_wp2_with fail
    refine (skv_any _ _).mono ?_
    rintro e w' ⟨rfl, rfl⟩
    rw [kv3]
    go_wp2_with fail
    go_ret
    exact ⟨rfl, rfl⟩
  · rw [kn4]
    go_enter Try.func90, Try.ntmps90
    go_wp2_with fail
    refine (skv_any _ _).mono ?_
    rintro e w' ⟨rfl, rfl⟩
    rw [kv4]
    go_wp2_with fail
    go_ret
    exact ⟨rfl, rfl⟩
  · rw [kn5]
    go_enter Try.func90, Try.ntmps90
    go_wp2_with fail
    refine (skv_any _ _).mono ?_
    rintro e w' ⟨rfl, rfl⟩
    rw [kv5]
    go_wp2_with fail
    go_ret
    exact ⟨rfl, rfl⟩
  · rw [knI_none h]
    have HV := hid (kvB_none h)
    clear h
    go_enter Try.func90, Try.ntmps90
    go_wp2_with fail
    refine (skv_any _ _).mono ?_
    rintro e w' ⟨rfl, rfl⟩
    rw [HV.out]
    go_wp2_with fail
    go_ret
    exact ⟨rfl, rfl⟩

/-! ### Closed facts on the interface that keeps what a kind does -/
theorem assert_pair (v : Value) (w : World) : (Instr.typeAssert (.iface 94 v) 90 94 true).run Try.prog w = .ok (.tuple #[v, .bool true]) w := by kernel_rfl
theorem assert_pair_lone (v : Value) (w : World) : (Instr.typeAssert (.iface 98 v) 90 94 true).run Try.prog w = .ok (.tuple #[.agg #[.nilFunc], .bool false]) w := by kernel_rfl
theorem assert_pair_given (v : Value) (w : World) : (Instr.typeAssert (.iface 114 v) 90 94 true).run Try.prog w = .ok (.tuple #[.agg #[.nilFunc], .bool false]) w := by kernel_rfl
theorem assert_pair_nil (w : World) : (Instr.typeAssert .nilIface 90 94 true).run Try.prog w = .ok (.tuple #[.agg #[.nilFunc], .bool false]) w := by kernel_rfl

set_option maxHeartbeats 1000000 in
theorem ikn_any (k : Int) (w : World) : Calls Try.prog 111 #[.int .i64 k] w fun e w' => e = .returned (.int .i64 (knI k)) ∧ Mod 0 0 w w' := by
  rcases kind_cases k with rfl | rfl | rfl | rfl | rfl | rfl | h
  · rw [kn0]
    go_enter Try.func111, Try.ntmps111
    go_wp2_with fail
    refine (work_any _ _).mono ?_
    rintro e w' ⟨rfl, rfl⟩
    simp only [workV]
    go_wp2
    go_ret
    exact ⟨rfl, Mod.alloc _ _⟩
  · rw [kn1]
    go_enter Try.func111, Try.ntmps111
    go_wp2_with fail
    refine (work_any _ _).mono ?_
    rintro e w' ⟨rfl, rfl⟩
    simp only [workV]
    go_wp2
    go_ret
    exact ⟨rfl, Mod.alloc _ _⟩
  · rw [kn2]
    go_enter Try.func111, Try.ntmps111
    go_wp2_with fail
    refine (work_any _ _).mono ?_
    rintro e w' ⟨rfl, rfl⟩
    simp only [workV]
    go_wp2
    go_ret
    exact ⟨rfl, Mod.alloc _ _⟩
  · rw [kn3]
    go_enter Try.func111, Try.ntmps111
    go_wp2_with fail
    refine (work_any _ _).mono ?_
    rintro e w' ⟨rfl, rfl⟩
    simp only [workV]
    go_wp2
    go_ret
    exact ⟨rfl, Mod.alloc _ _⟩
  · rw [kn4]
    go_enter Try.func111, Try.ntmps111
    go_wp2_with fail
    refine (work_any _ _).mono ?_
    rintro e w' ⟨rfl, rfl⟩
    simp only [workV]
    go_wp2
    go_ret
    exact ⟨rfl, Mod.alloc _ _⟩
  · rw [kn5]
    go_enter Try.func111, Try.ntmps111
    go_wp2_with fail
    refine (work_any _ _).mono ?_
    rintro e w' ⟨rfl, rfl⟩
    simp only [workV]
    go_wp2
    go_ret
    exact ⟨rfl, Mod.alloc _ _⟩
  · rw [knI_none h]
    have HV := hid (workV_none h)
    clear h
    go_enter Try.func111, Try.ntmps111
    go_wp2_with fail
    refine (work_any _ _).mono ?_
    rintro e w' ⟨rfl, rfl⟩
    rw [HV.out]
    go_wp2_with fail
    go_ret
    exact ⟨rfl, Mod.refl _ _ _⟩

end Go.Proofs.Yteelobokjidphaa
