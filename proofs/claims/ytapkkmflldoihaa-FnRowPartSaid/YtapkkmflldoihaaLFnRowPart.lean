/- A row has a greatest length. No condition. -/
import Derived.Test.YtapkkmflldoihaaRows
import Derived.Test.YtapkkmflldoihaaArgs
import Derived.Test.YtapkkmflldoihaaDrawValid
import Derived.Test.YtapkkmflldoihaaRow
import Derived.Test.YtapkkmflldoihaaAppZero
namespace Go.Proofs.Ytapkkmflldoihaa.fnRowPart
open Go.ChangeShapes Go.WideShapes Go.ChangeAt Go.RowKit

theorem wpList_guard {P : Program} {ops : Array Oper} {rest : List Oper} {o : Oper} {a : Act} {w : World} {Q : Exit → Act → World → Prop} (hw : Region.wanted o (yielded ops a.tmps) = true)
    (h : ∀ K : Act → World → Prop, (∀ a w, wpList P ops Q rest a w → K a w) → o.wp P a w K Q) : wpList P ops Q (o :: rest) a w := by
  unfold wpList
  rw [if_pos hw]
  exact .inl (h _ (fun _ _ h => h))
theorem rvB_long (xs : List Int) : rvB (xs ++ List.replicate 7 0) = false := by
  unfold rvB
  rw [decide_eq_false (by simp), Bool.and_false]
theorem take_rl {w : World} {g c m n : Nat} {xs : List Int} (h : RL w (.slice (some ⟨g, 0, none⟩) m c) xs) (hn : n ≤ xs.length) : RL w (.slice (some ⟨g, 0, none⟩) n c) (xs.take n) := by
  obtain ⟨a, c', hv, h1, h2, h3⟩ := h
  simp only [Value.slice.injEq] at hv
  obtain ⟨rfl, rfl, rfl⟩ := hv
  have hl : (xs.take n).length = n := by simp; omega
  refine ⟨_, c, by rw [hl], by omega, h2, fun i hi => ?_⟩
  rw [hl] at hi
  obtain ⟨b, o, e, hb, hc⟩ := h3 i (by omega)
  exact ⟨b, o, e, hb, by rw [hc]; simp [hi]⟩
theorem rvB_take {xs : List Int} (h : rvB xs = true) (n : Nat) : rvB (xs.take n) = true := by
  have hl := rvB_len h
  rw [rvB_of_all (fun j hj => ?_)]
  · simpa using (by omega : min n xs.length ≤ 6)
  · have hj' : j < xs.length ∧ j < n := by simp at hj; omega
    have := rvB_get h hj'.1
    have e : (xs.take n).getD j 0 = xs.getD j 0 := by simp [hj'.2]
    rw [e]
    exact inB_true.2 this

set_option maxHeartbeats 4000000 in
theorem walk (v0 : Value) (x0 : List Int) (w : World) (w0 : BL w v0 x0) :
    Calls Try.prog 5 #[v0] w fun e w' => e = .returned (.bool true) ∧ Below w.heap.size w w' := by
  obtain ⟨a0, c0, rfl, -⟩ := id w0
  by_cases hl0 : 1048576 < x0.length
  · go_enter Try.func5, Try.ntmps5
    go_wp2_with fail
    go_ret
    exact ⟨rfl, Below.refl _ _⟩
  have hl0' : x0.length ≤ 1048576 := by omega
  clear hl0
  go_enter Try.func5, Try.ntmps5
  go_wp2_with fail
  refine (drawValid_any _ x0 w w0).mono ?_
  rintro e w1 ⟨row, xs, rfl, ho, hlx, hb⟩
  have hlx' : ([] : List Int).length + xs.length < 1099511627776 := by simp; omega
  have hb1 : Below w.heap.size w (w1.alloc (.cells #[] 3)) := hb.alloc hb.size _
  go_wp2_with fail
  refine (irv_any _ xs _ ho.rl).mono ?_
  rintro e _ ⟨rfl, rfl⟩
  go_wp2_with fail
  refine (srv_any _ xs _ ho.rl).mono ?_
  rintro e _ ⟨rfl, rfl⟩
  cases hrv : rvB xs
  · go_wp2_with fail
    go_ret
    exact ⟨rfl, hb⟩
  have HRV := hid hrv
  clear hrv
  by_cases hx : xs = []
  · subst hx
    obtain ⟨a, c, rfl, -⟩ := OI.rl ho
    go_wp2_with (at_builtin; first | (refine wpList_guard (by rfl) fun _ hK' => ?_; refine wp_appAll _ _ 23 rfl Try.underlying23 w.heap.size _ _ _ _ (OI.fresh0 w1 hb.size) (ho.rl.mono ((Below.refl _ _).alloc (Nat.le_refl _) _)) rfl rfl hlx' hb1 hb1.size ?_; intro v2 w2 ho2 hb2 _; refine hK' _ _ ?_; rw [List.nil_append] at ho2) | (refine wpList_guard (by rfl) fun _ hK' => ?_; refine wp_appZero _ _ 23 rfl Try.underlying23 w.heap.size _ _ 7 ho2 rfl rfl (by omega) (by omega) (by simp at hlx'; omega) hb2 hb2.size ?_; intro v3 w3 ho3 hb3 _; refine hK' _ _ ?_))
    refine (irv_any _ (([] : List Int) ++ List.replicate 7 0) _ ho3.rl).mono ?_
    rintro e _ ⟨rfl, rfl⟩
    rw [rvB_long]
    go_wp2_with fail
    go_ret
    exact ⟨rfl, hb3⟩
  obtain ⟨g, c, rfl, hg1, hg2, hxc, hcm⟩ := OI.at ho (List.length_pos_iff.2 hx)
  have hpos := List.length_pos_iff.2 hx
  obtain ⟨n, hn⟩ : ∃ n : Nat, n + 1 = xs.length := ⟨xs.length - 1, by omega⟩
  have hne : ((xs.length : Int) == 0) = false := by simpa using hx
  have hrl : RL w1 (.slice (some ⟨g, 0, none⟩) n c) (xs.take n) := take_rl ho.rl (by omega)
  have hpv : rvB (xs.take n) = true := rvB_take HRV.out n
  have en : (xs.length : Int) - 1 = (n : Int) := by omega
  have HPV := hid hpv
  have HN := hid hn
  have HRL := hid hrl
  have hn' : n < xs.length := by omega
  have hn'' : n ≤ c := by omega
  clear hx hpv hn hrl hcm
  go_wp2_with fail
  refine (irv_any _ (xs.take n) _ ?_).mono ?_
  · exact HRL.out
  rintro e _ ⟨rfl, rfl⟩
  rw [HPV.out]
  go_wp2_with (at_builtin; first | (refine wpList_guard (by rfl) fun _ hK' => ?_; refine wp_appAll _ _ 23 rfl Try.underlying23 w.heap.size _ _ _ _ (OI.fresh0 w1 hb.size) (ho.rl.mono ((Below.refl _ _).alloc (Nat.le_refl _) _)) rfl rfl hlx' hb1 hb1.size ?_; intro v2 w2 ho2 hb2 _; refine hK' _ _ ?_; rw [List.nil_append] at ho2) | (refine wpList_guard (by rfl) fun _ hK' => ?_; refine wp_appZero _ _ 23 rfl Try.underlying23 w.heap.size _ _ 7 ho2 rfl rfl (by omega) (by omega) (by simp at hlx'; omega) hb2 hb2.size ?_; intro v3 w3 ho3 hb3 _; refine hK' _ _ ?_))
  refine (irv_any _ (xs ++ List.replicate 7 0) _ ho3.rl).mono ?_
  rintro e _ ⟨rfl, rfl⟩
  rw [rvB_long]
  go_wp2_with fail
  go_ret
  exact ⟨rfl, hb3⟩

theorem own : ownKnob Try.prog.godebug = none := by kernel_rfl
theorem laidOut : laidOutB Try.prog = true := by kernel_rfl
set_option maxRecDepth 100000 in
theorem lifted (os : Os) (started : os.Started) (H : Type) (enc : TypeId × Value → H) :
    ReturnsInHanded {} Try.checked os 5 .any (Rows.fnRowPartSpec.pre6 enc Try.prog Try.f5 Rows.fnRowPartRow.domain false) (Rows.fnRowPartSpec.post enc Try.prog Try.f5 false true false false) := by
  refine returnsInHanded_of_change (C := Try.checked) own started (by kernel_rfl) Try.func5
    (ChangeSpec.witness6 (enc := enc) (C := Try.checked) false ⟨#[], #[.slice none 0 0], []⟩ 8 (by kernel_rfl) (by kernel_rfl) (by kernel_rfl) (by kernel_rfl)) ?_
  intro W base args ds gs before hval0 hW _ _
  have hval : ∀ (j : Nat) t v, Try.f5.params[j]? = some t → args[j]? = some v → Value.okWide Try.prog W .any base t v := hval0
  have hW' := hW
  obtain ⟨p, q, hA0, hV, rfl, _, _⟩ := hW
  have hA : DataW.TrodAll enc Try.prog W 0 (fun _ => true) true Try.f5.params.toList args.toList ds p := hA0
  rw [Try.params5] at hA hval
  obtain ⟨v0, vs0, d0, ds0, p0, q0, hargs, rfl, rfl, h0, r0⟩ := trodAll_cons hA
  obtain ⟨rfl, rfl, rfl⟩ := trodAll_nil r0
  obtain rfl : args = #[v0] := by cases args; simp_all
  obtain ⟨rfl, rfl⟩ := trodVars_none hV
  have k0 := h0
  have lt0 : ∀ x ∈ p0, x.block < W.heap.size := by obtain ⟨m, hm⟩ := k0; exact DataW.trod_lt m _ _ _ hm
  obtain ⟨x0, w0⟩ := open_bl (hval 0 27 v0 rfl rfl) h0
  clear hA0 hval0
  refine (walk v0 x0 W w0).mono fun e W' ⟨he, bel⟩ => ?_
  subst he
  exact ⟨_, rfl, _, _, _, [], _, [], hW', trodAll_mk1 (shut_bool Try.underlying4 _), (trodAll_cons_mk (Below.trod laidOut (by kernel_rfl) (of_decide_eq_true (by kernel_rfl)) k0 bel lt0) trodAll_mk0), rfl, bel.frame _, fun h => by cases h⟩

theorem over : Rows.fnRowPartRow.holds Try.pinned (OpenSpec.ofChange Rows.fnRowPartSpec) :=
  OpenClaim.holds_of_wide 5 Try.f5 rfl rfl rfl rfl rfl rfl rfl ⟨rfl, rfl, rfl, rfl, rfl⟩ rfl rfl rfl rfl rfl (by kernel_rfl) Try.func5 (by kernel_rfl)
    (of_decide_eq_true (by kernel_rfl)) (by unfold Func.isWrapper; first | (rw [if_pos (by decide +kernel)]; kernel_rfl) | (rw [if_neg (by decide +kernel)]; exact ⟨rfl, rfl⟩))
    (fun os started H enc _ => lifted os started H enc)

theorem proved : Rows.FnRowPartSaid := over
end Go.Proofs.Ytapkkmflldoihaa.fnRowPart
