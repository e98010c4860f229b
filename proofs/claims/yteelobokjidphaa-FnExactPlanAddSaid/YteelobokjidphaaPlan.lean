/- Plans: what a slice of nodes reads as; when a plan is valid; the contracts of the reference's functions that say so. No condition. -/
import Derived.Test.YteelobokjidphaaBase
import Derived.Test.YteelobokjidphaaRow
import Derived.Test.YteelobokjidphaaKind
import Derived.Test.YteelobokjidphaaPure
import Derived.Deep.RegionHeld3
import Derived.Deep.QuietTactic
import Derived.BigQuiet
namespace Go.Proofs.Yteelobokjidphaa
open Go.RowKit
set_option maxRecDepth 100000

structure Nd where
  kind : Int
  fs : List Int
  row : List Int
def nd0 : Nd := ⟨0, [], []⟩

/-- `v` reads as the nodes `ns`, in blocks below `hi`. -/
def PL (w : World) (hi : Nat) (v : Value) (ns : List Nd) : Prop :=
  ∃ a c, v = .slice a ns.length c ∧ ns.length ≤ c ∧ c ≤ maxLen ∧ hi ≤ w.heap.size ∧
    ∀ i, i < ns.length → ∃ b o f r, a = some ⟨b, o, none⟩ ∧ b < hi ∧ w.cell? ⟨b, o + i * 3, none⟩ = some (.int .i64 (ns.getD i nd0).kind) ∧ w.cell? ⟨b, o + i * 3 + 1, none⟩ = some f ∧ w.cell? ⟨b, o + i * 3 + 2, none⟩ = some r ∧
      RR w hi f (ns.getD i nd0).fs ∧ RR w hi r (ns.getD i nd0).row

theorem PL.mod {w w' : World} {hi A B : Nat} {v : Value} {ns : List Nd} (h : PL w hi v ns) (hm : Mod A B w w') (hA : hi ≤ A ∨ B ≤ 0) : PL w' hi v ns := by
  obtain ⟨a, c, rfl, h1, h2, h3, h4⟩ := h
  refine ⟨a, c, rfl, h1, h2, Nat.le_trans h3 hm.size, fun i hi => ?_⟩
  obtain ⟨b, o, f, r, e, hb, c0, c1, c2, hf, hr⟩ := h4 i hi
  have hk := hm.block b (Nat.lt_of_lt_of_le hb h3) (by omega)
  exact ⟨b, o, f, r, e, hb, (World.cell?_of_block hk).trans c0, (World.cell?_of_block hk).trans c1, (World.cell?_of_block hk).trans c2, hf.mod hm hA, hr.mod hm hA⟩

/-- The width of the first given row, or 0. -/
def wideF : List Nd → Int
  | [] => 0
  | n :: ns => if n.kind = 0 then (n.row.length : Int) else wideF ns

theorem wideF_cons (n : Nd) (ns : List Nd) : wideF (n :: ns) = if n.kind = 0 then (n.row.length : Int) else wideF ns := rfl
theorem drop_nd {ns : List Nd} {k : Nat} (h : k < ns.length) : ns.drop k = ns.getD k nd0 :: ns.drop (k + 1) := by
  rw [List.drop_eq_getElem_cons h]; simp [h]

set_option maxHeartbeats 1000000 in
theorem swide_any (v : Value) (ns : List Nd) (hi : Nat) (w : World) (h : PL w hi v ns) :
    Calls Try.prog 67 #[v] w fun e w' => e = .returned (.int .i64 (wideF ns)) ∧ w = w' := by
  obtain ⟨a, c, rfl, h1, h2, hs, h3⟩ := h
  unfold maxLen at h2
  have H3 := hid h3
  clear h3
  go_enter Try.func67, Try.ntmps67
  go_wp2_with fail
  go_loop [3] (fun i => ∃ k : Nat, k ≤ ns.length ∧ i = .int .i64 k ∧ wideF (ns.drop k) = wideF ns) (fun i => ns.length - (intOf i).toNat)
  case atStart => exact ⟨0, Nat.zero_le _, rfl, rfl⟩
  case round =>
    obtain ⟨k, hk, rfl, hw⟩ := hrel
    by_cases hlt : k < ns.length
    · obtain ⟨b, o, f, r, rfl, hb, c0, c1, c2, hf, hr⟩ := H3.out k hlt
      rw [drop_nd hlt] at hw
      obtain ⟨n, hn⟩ : ∃ n, n = ns.getD k nd0 := ⟨_, rfl⟩
      rw [← hn] at c0 hf hr hw
      obtain ⟨ar, cr, rfl, -⟩ := id hr
      obtain ⟨kd, fs, row⟩ := n
      rw [wideF_cons] at hw
      simp only at c0 hf hr hw c2
      have HN := hid hn
      clear hn
      by_cases hz : kd = 0
      · rw [if_pos hz] at hw
        have HW := hid hw
        subst hz
        clear hw
        go_wp2_with fail
        go_ret
        exact ⟨by rw [← HW.out]; rfl, rfl⟩
      · rw [if_neg hz] at hw
        have HW := hid hw
        have hne : (kd == 0) = false := by simpa using hz
        clear hw hz
        go_wp2_with fail
        go_round
        case rel => exact ⟨k + 1, by omega, by go_num, HW.out⟩
        case measure => simp [intOf]; omega
    · obtain rfl : k = ns.length := by omega
      rw [List.drop_length] at hw
      have HW := hid hw
      clear hw
      go_wp2_with fail
      go_ret
      exact ⟨by rw [← HW.out]; rfl, rfl⟩

theorem quiet_r {P : Program} {f : FuncId} {args : Array Value} {w : World} {n : Nat} {v : Value}
    (h : Calls P f args (w.drewN n) fun e w' => e = .returned v ∧ w.drewN n = w') : Calls P f args (w.drewN n) fun e w'' => e = .returned v ∧ ∃ m, w'' = w.drewN m :=
  h.mono fun _ _ ⟨he, hm⟩ => ⟨he, n, hm.symm⟩

/-- A node is valid at a place. -/
def fsB (fs : List Int) (at_ : Int) : Bool := fs.all fun f => inB f 0 (at_ - 1)
def nodeB (n : Nd) (at_ wide : Int) : Bool :=
  decide (knI n.kind = n.fs.length) && rvB n.row && fsB n.fs at_ && (if n.kind = 0 then decide ((n.row.length : Int) = wide) else decide (n.row.length = 0))
theorem fsB_false {fs : List Int} {at_ : Int} {k : Nat} (hk : k < fs.length) (h : inB (fs.getD k 0) 0 (at_ - 1) = false) : fsB fs at_ = false := by
  cases h1 : fsB fs at_
  · rfl
  · unfold fsB at h1
    rw [all_getD] at h1
    rw [h1 k hk] at h
    cases h
theorem fsB_true {fs : List Int} {at_ : Int} (h : ∀ k, k < fs.length → inB (fs.getD k 0) 0 (at_ - 1) = true) : fsB fs at_ = true := by
  unfold fsB
  rw [all_getD]
  exact h

set_option maxHeartbeats 2000000 in
theorem snode_any (kd : Int) (vf vr : Value) (fs row : List Int) (at_ wide : Int) (w : World) (hf : RL w vf fs) (hr : RL w vr row) (ha : 0 ≤ at_) (ha2 : at_ ≤ 4611686018427387904) :
    Calls Try.prog 88 #[.agg #[.int .i64 kd, vf, vr], .int .i64 at_, .int .i64 wide] w fun e w' => e = .returned (.bool (nodeB ⟨kd, fs, row⟩ at_ wide)) ∧ Mod 0 0 w w' := by
  have m0 := Mod.alloc w (.cells #[.int .i64 kd, vf, vr] 48)
  have hf1 := (hf.rr.mod m0 (.inr (Nat.zero_le _))).rl
  have hr1 := (hr.rr.mod m0 (.inr (Nat.zero_le _))).rl
  obtain ⟨af, cf, rfl, h1, h2, h3⟩ := id hf1
  obtain ⟨ar, cr, rfl, -⟩ := id hr1
  unfold maxLen at h2
  have H3 := hid h3
  have e1 : IntKind.i64.wrap (at_ - 1) = at_ - 1 := IntWalk.i64_in _ (by omega)
  clear h3
  by_cases hkn : knI kd = fs.length
  · cases hrv : rvB row
    · have hB : nodeB ⟨kd, fs, row⟩ at_ wide = false := by unfold nodeB; simp [hrv]
      rw [hB]
      have hne : (knI kd != (fs.length : Int)) = false := by simp [hkn]
      have HRV := hid hrv
      clear hB hkn hrv
      go_enter Try.func88, Try.ntmps88
      go_wp2_with fail
      go_quiet (first | (go_at_call 90; exact quiet_r (skn_any kd _)) | (go_at_call 66; exact quiet_r (srv_any _ row _ hr1)))
      rw [HRV.out]
      go_wp2_with fail
      go_ret
      exact ⟨rfl, m0.trans (Mod.drewN _ _)⟩
    · have hne : (knI kd != (fs.length : Int)) = false := by simp [hkn]
      have HRV := hid hrv
      have HKN := hid hkn
      clear hkn hrv
      go_enter Try.func88, Try.ntmps88
      go_wp2_with fail
      go_quiet (first | (go_at_call 90; exact quiet_r (skn_any kd _)) | (go_at_call 66; exact quiet_r (srv_any _ row _ hr1)))
      rw [HRV.out, Bool.not_true]
      go_wp2_with fail
      go_loopw [7] (fun i wr => ∃ k : Nat, k ≤ fs.length ∧ i = .int .i64 k ∧ (∀ j, j < k → inB (fs.getD j 0) 0 (at_ - 1) = true) ∧ ∃ n, wr = (w.alloc (.cells #[.int .i64 kd, .slice af fs.length cf, .slice ar row.length cr] 48)).drewN n) (fun i _ => fs.length - (intOf i).toNat)
      case atStart => exact ⟨0, Nat.zero_le _, rfl, fun j hj => by omega, _, rfl⟩
      case round =>
        obtain ⟨k, hk, rfl, hall, nd, rfl⟩ := hrel
        replace m0 := m0.trans (Mod.drewN _ nd)
        by_cases hlt : k < fs.length
        · obtain ⟨b, o, rfl, hb, hc⟩ := H3.out k hlt
          obtain ⟨n, hn⟩ : ∃ n, n = fs.getD k 0 := ⟨_, rfl⟩
          rw [← hn] at hc
          have HN := hid hn
          have HALL := hid hall
          clear hn hall
          go_wp2_with fail
          refine (l6In_any n 0 (at_ - 1) _).mono ?_
          rintro e _ ⟨rfl, rfl⟩
          cases hin : inB n 0 (at_ - 1)
          · have hfb : fsB fs at_ = false := fsB_false hlt (by rw [← HN.out]; exact hin)
            have hB : nodeB ⟨kd, fs, row⟩ at_ wide = false := by unfold nodeB; simp [hfb]
            have HB := hid hB
            clear hin hfb hB
            go_wp2_with fail
            go_ret
            exact ⟨by rw [HB.out]; rfl, m0⟩
          · have HIN := hid hin
            clear hin
            go_wp2_with fail
            go_roundw
            case rel =>
              refine ⟨k + 1, by omega, by go_num, fun j hj => ?_, nd, rfl⟩
              by_cases e : j = k
              · subst e; rw [← HN.out]; exact HIN.out
              · exact HALL.out j (by omega)
            case measure => simp [intOf]; omega
        · obtain rfl : k = fs.length := by omega
          have hfb : fsB fs at_ = true := fsB_true hall
          have HFB := hid hfb
          clear hfb hall
          by_cases hz : kd = 0
          · have hB : nodeB ⟨kd, fs, row⟩ at_ wide = decide ((row.length : Int) = wide) := by unfold nodeB; simp [hz, HFB.out, HRV.out, ← HKN.out]
            have HB := hid hB
            subst hz
            clear hB
            go_wp2_with fail
            go_ret
            exact ⟨by rw [HB.out]; simp [BEq.beq], m0⟩
          · have hB : nodeB ⟨kd, fs, row⟩ at_ wide = decide (row.length = 0) := by unfold nodeB; simp [hz, HFB.out, HRV.out, HKN.out]
            have HB := hid hB
            have hz' : (kd == 0) = false := by simpa using hz
            clear hB hz
            go_wp2_with fail
            go_ret
            exact ⟨by rw [HB.out]; simp [BEq.beq], m0⟩
  · have hB : nodeB ⟨kd, fs, row⟩ at_ wide = false := by unfold nodeB; simp [hkn]
    have hne : (knI kd != (fs.length : Int)) = true := by simpa using hkn
    rw [hB]
    clear hB hkn
    go_enter Try.func88, Try.ntmps88
    go_wp2_with fail
    go_quiet (first | (go_at_call 90; exact quiet_r (skn_any kd _)) | (go_at_call 66; exact quiet_r (srv_any _ row _ hr1)))
    go_wp2_with fail
    go_ret
    exact ⟨rfl, m0.trans (Mod.drewN _ _)⟩

def planB (ns : List Nd) : Bool := ((List.range ns.length).all fun i => nodeB (ns.getD i nd0) i (wideF ns)) && decide (ns.length ≤ 10)
theorem planB_false {ns : List Nd} {k : Nat} (hk : k < ns.length) (h : nodeB (ns.getD k nd0) k (wideF ns) = false) : planB ns = false := by
  cases h1 : planB ns
  · rfl
  · unfold planB at h1
    simp only [Bool.and_eq_true, List.all_eq_true, List.mem_range] at h1
    rw [h1.1 k hk] at h
    cases h
theorem planB_of {ns : List Nd} (h : ∀ k, k < ns.length → nodeB (ns.getD k nd0) k (wideF ns) = true) : planB ns = decide (ns.length ≤ 10) := by
  unfold planB
  have : ((List.range ns.length).all fun i => nodeB (ns.getD i nd0) i (wideF ns)) = true := by
    simp only [List.all_eq_true, List.mem_range]
    exact h
  rw [this, Bool.true_and]
theorem planB_len {ns : List Nd} (h : planB ns = true) : ns.length ≤ 10 := by
  unfold planB at h
  simp only [Bool.and_eq_true, decide_eq_true_eq] at h
  exact h.2
theorem planB_node {ns : List Nd} (h : planB ns = true) {k : Nat} (hk : k < ns.length) : nodeB (ns.getD k nd0) k (wideF ns) = true := by
  unfold planB at h
  simp only [Bool.and_eq_true, List.all_eq_true, List.mem_range] at h
  exact h.1 k hk

set_option maxHeartbeats 2000000 in
theorem splan_any (v : Value) (ns : List Nd) (hi : Nat) (w : World) (h : PL w hi v ns) (hlen : ns.length ≤ 1099511627776) :
    Calls Try.prog 58 #[v] w fun e w' => e = .returned (.bool (planB ns)) ∧ Mod 0 0 w w' := by
  have HP := h
  obtain ⟨a, c, rfl, h1, h2, hs, h3⟩ := h
  unfold maxLen at h2
  have H3 := hid h3
  clear h3
  go_enter Try.func58, Try.ntmps58
  go_wp2_with fail
  go_loopw [3] (fun i wr => ∃ k : Nat, k ≤ ns.length ∧ i = .int .i64 k ∧ (∀ j : Nat, j < k → nodeB (ns.getD j nd0) j (wideF ns) = true) ∧ Mod 0 0 w wr) (fun i _ => ns.length - (intOf i).toNat)
  case atStart => exact ⟨0, Nat.zero_le _, rfl, fun j hj => by omega, Mod.refl _ _ _⟩
  case round =>
    obtain ⟨k, hk, rfl, hall, hm⟩ := hrel
    by_cases hlt : k < ns.length
    · obtain ⟨b, o, f, r, rfl, hb, c0, c1, c2, hf, hr⟩ := H3.out k hlt
      have HPL := HP.mod hm (.inr (Nat.zero_le _))
      have hk0 := hm.block b (Nat.lt_of_lt_of_le hb hs) (.inr (Nat.zero_le _))
      replace c0 := (World.cell?_of_block (a := ⟨b, o + k * 3, none⟩) hk0).trans c0
      replace c1 := (World.cell?_of_block (a := ⟨b, o + k * 3 + 1, none⟩) hk0).trans c1
      replace c2 := (World.cell?_of_block (a := ⟨b, o + k * 3 + 2, none⟩) hk0).trans c2
      have hbs := Nat.lt_of_lt_of_le (Nat.lt_of_lt_of_le hb hs) hm.size
      replace hf := hf.mod hm (.inr (Nat.zero_le _))
      replace hr := hr.mod hm (.inr (Nat.zero_le _))
      obtain ⟨n, hn⟩ : ∃ n, n = ns.getD k nd0 := ⟨_, rfl⟩
      rw [← hn] at c0 hf hr
      obtain ⟨kd, fs, row⟩ := n
      simp only at c0 hf hr
      obtain ⟨af, cf, rfl, -⟩ := id hf
      obtain ⟨ar, cr, rfl, -⟩ := id hr
      have HN := hid hn
      have HALL := hid hall
      clear hn hall hk0
      have b0 : (0 : Int) ≤ (k : Int) := by omega
      have b1 : (k : Int) < (ns.length : Int) := by omega
      go_wp2_with fail
      go_region_held3 (fun w' => w'.cell? ⟨b, o + k * 3, none⟩ = some (.int .i64 kd) ∧ w'.cell? ⟨b, o + k * 3 + 1, none⟩ = some (.slice af fs.length cf) ∧ w'.cell? ⟨b, o + k * 3 + 2, none⟩ = some (.slice ar row.length cr))
        (first | go_keep | (go_split_ands; exact ⟨(World.cell?_of_block (a := ⟨b, o + k * 3, none⟩) (hm5.block b hbs (.inr (Nat.zero_le _)))).trans c0, (World.cell?_of_block (a := ⟨b, o + k * 3 + 1, none⟩) (hm5.block b hbs (.inr (Nat.zero_le _)))).trans c1, (World.cell?_of_block (a := ⟨b, o + k * 3 + 2, none⟩) (hm5.block b hbs (.inr (Nat.zero_le _)))).trans c2⟩))
        (first
          | ((go_at_call 67; refine (swide_any _ ns _ _ (HPL.mod (Mod.drewN wr 1) (.inr (Nat.zero_le _)))).mono ?_; rintro e _ ⟨rfl, rfl⟩))
          | ((go_at_call 88; refine (snode_any kd _ _ fs row k _ wr.drew hf.rl hr.rl (by omega) (by omega)).mono ?_; rintro e w5 ⟨rfl, hm5⟩)))
      cases hnb : nodeB ⟨kd, fs, row⟩ k (wideF ns)
      · have hpb : planB ns = false := planB_false hlt (by rw [← HN.out]; exact hnb)
        have HPB := hid hpb
        clear hnb hpb
        go_wp2_with fail
        go_ret
        exact ⟨by rw [HPB.out]; rfl, hm.trans ((Mod.drewN _ 1).trans hm5)⟩
      · have HNB := hid hnb
        clear hnb
        go_wp2_with fail
        go_roundw
        case rel =>
          refine ⟨k + 1, by omega, by go_num, fun j hj => ?_, hm.trans ((Mod.drewN _ 1).trans hm5)⟩
          by_cases e : j = k
          · subst e; rw [← HN.out]; exact HNB.out
          · exact HALL.out j (by omega)
        case measure => simp [intOf]; omega
    · obtain rfl : k = ns.length := by omega
      have hpb := planB_of hall
      have HPB := hid hpb
      clear hpb hall
      go_wp2_with fail
      go_ret
      exact ⟨by rw [HPB.out]; simp; omega, hm⟩
end Go.Proofs.Yteelobokjidphaa
