/- The reference's copy of a plan. No condition. -/
import Derived.Test.YteelobokjidphaaPlanAdd
import Derived.Test.YteelobokjidphaaAppAll
namespace Go.Proofs.Yteelobokjidphaa
open Go.RowKit
set_option maxRecDepth 100000

set_option maxHeartbeats 4000000 in
theorem l3Copy_any (v : Value) (ns : List Nd) (hi : Nat) (w : World) (h : PL w hi v ns) (hlen : ns.length ≤ 1048576) (hl : ∀ i, i < ns.length → (ns.getD i nd0).fs.length < 1099511627776 ∧ (ns.getD i nd0).row.length < 1099511627776) :
    Calls Try.prog 70 #[v] w (fun e w' => ∃ vo, e = .returned vo ∧ PR False w' w.heap.size w'.heap.size vo ns ∧ Below w.heap.size w w') := by
  obtain ⟨a, c, rfl, h1, h2, hs, h3⟩ := h
  unfold maxLen at h2
  have H3 := hid h3
  have HTK := hid (fun (k : Nat) (hk : k < ns.length) => take_nd hk)
  clear h3
  go_enter Try.func70, Try.ntmps70
  go_wp2_with fail
  go_loopw [3, 4] (fun p i wr => ∃ k : Nat, k ≤ ns.length ∧ i = .int .i64 k ∧ PR False wr w.heap.size wr.heap.size p (ns.take k) ∧ Below w.heap.size w wr)
    (fun _ i _ => ns.length - (intOf i).toNat)
  case atStart => exact ⟨0, Nat.zero_le _, rfl, (PR.fresh0 w (Nat.le_refl _)).up (by simp) (Nat.le_refl _), (Below.refl _ _).alloc (Nat.le_refl _) _⟩
  case round =>
    obtain ⟨k, hk, rfl, ho, hbel⟩ := hrel
    by_cases hlt : k < ns.length
    · obtain ⟨b, o, f, r, rfl, hb, c0, c1, c2, hf, hr⟩ := H3.out k hlt
      have hm := Mod.of_below hbel
      have hk0 := hm.block b (Nat.lt_of_lt_of_le hb hs) (.inr (Nat.zero_le _))
      replace c0 := (World.cell?_of_block (a := ⟨b, o + k * 3, none⟩) hk0).trans c0
      replace c1 := (World.cell?_of_block (a := ⟨b, o + k * 3 + 1, none⟩) hk0).trans c1
      replace c2 := (World.cell?_of_block (a := ⟨b, o + k * 3 + 2, none⟩) hk0).trans c2
      obtain ⟨hlf, hlr⟩ := hl k hlt
      have HT := hid (HTK.out k hlt)
      obtain ⟨n, hn⟩ : ∃ n, n = ns.getD k nd0 := ⟨_, rfl⟩
      rw [← hn] at c0 hf hr hlf hlr HT
      obtain ⟨kd, fs, row⟩ := n
      simp only at c0 hf hr hlf hlr
      obtain ⟨af, cf, rfl, -⟩ := id hf
      obtain ⟨ar, cr, rfl, -⟩ := id hr
      obtain ⟨X, hX⟩ : ∃ X, X = wr.alloc (.cells #[.int .i64 kd, .slice af fs.length cf, .slice ar row.length cr] 48) := ⟨_, rfl⟩
      have mA : Mod 0 0 wr X := by rw [hX]; exact Mod.alloc wr _
      have x0 : X.heap[wr.heap.size]? = some (.cells #[.int .i64 kd, .slice af fs.length cf, .slice ar row.length cr] 48 (0, 0)) := by rw [hX]; exact heap_alloc_new wr _
      have l0 : wr.heap.size < X.heap.size := by rw [hX]; simp
      have d0 : X.cell? ⟨wr.heap.size, 0, none⟩ = some (.int .i64 kd) := by unfold World.cell?; simp [x0]
      have d1 : X.cell? ⟨wr.heap.size, 1, none⟩ = some (.slice af fs.length cf) := by unfold World.cell?; simp [x0]
      have d2 : X.cell? ⟨wr.heap.size, 2, none⟩ = some (.slice ar row.length cr) := by unfold World.cell?; simp [x0]
      have hbX := mA.below0 hbel hbel.size
      have HX := hid hX
      have HO := hid ho
      have hlk : (ns.take k).length < 1099511627775 := by rw [List.length_take]; omega
      have hup : u3.ownBlock ≠ some wr.heap.size := fun e => by
        have := ho.own _ e
        omega
      have F2a : OI ((X.alloc (.cells #[] 3)).alloc (.cells #[] 3)) (wr.heap.size + 1) (.slice (some ⟨X.heap.size, 0, none⟩) 0 0) [] := (OI.fresh0 X l0).alloc _
      have F2b : OI ((X.alloc (.cells #[] 3)).alloc (.cells #[] 3)) (wr.heap.size + 1) (.slice (some ⟨X.heap.size + 1, 0, none⟩) 0 0) [] := by
        have := OI.fresh0 (X.alloc (.cells #[] 3)) (B := wr.heap.size + 1) (Nat.le_trans l0 (by simp))
        rw [World.size_alloc] at this
        exact this
      clear hn hk0 ho x0 hX
      go_wp2_with fail
      rw [← HX.out]
      go_region_held3 (fun w' => w'.cell? ⟨wr.heap.size, 0, none⟩ = some (.int .i64 kd) ∧ w'.cell? ⟨wr.heap.size, 1, none⟩ = some (.slice af fs.length cf) ∧ w'.cell? ⟨wr.heap.size, 2, none⟩ = some (.slice ar row.length cr))
        (go_keep)
        (first
          | ((refine step_appN1 rfl _ _ 27 rfl Try.underlying27 w.heap.size _ _ _ kd _ _ fs row hp6 hv6f hv6 Apart.no (by rfl) (by rfl) hlk (Below.refl _ _) hbw6.size ?_
              intro v7 w7 hv7 hb7 hk7
              have hc7 : ∀ o, w7.cell? ⟨wr.heap.size, o, none⟩ = X.cell? ⟨wr.heap.size, o, none⟩ := fun o => (World.cell?_of_block (a := ⟨wr.heap.size, o, none⟩) (hk7 _ (Nat.lt_of_lt_of_le l0 hs6) hup)).trans (hc6 o)))
          | ((refine step_appAllL rfl _ _ 24 rfl Try.underlying24 (wr.heap.size + 1) _ (.slice af fs.length cf) [] fs ?_ ?_ (by rfl) (by rfl) (by simpa using hlf) (Below.refl _ _) ?_ ?_
              · exact (OI.fresh0 X l0).drew
              · exact (hf.mod ((hm.trans mA).trans ((Mod.alloc X (.cells #[] 3)).trans (Mod.drewN _ 1))) (.inr (Nat.zero_le _))).rl
              · exact Nat.le_trans l0 (by simp)
              intro v5 w5 hv5 hb5 hg5 hl5
              have hs5 : X.heap.size ≤ w5.heap.size := Nat.le_trans (by simp) hg5.size
              have m5 : Mod 0 0 wr w5 := (mA.trans ((Mod.alloc X (.cells #[] 3)).trans (Mod.drewN _ 1))).then_below' hb5 (Nat.le_succ _)
              have hc5 : ∀ o, w5.cell? ⟨wr.heap.size, o, none⟩ = X.cell? ⟨wr.heap.size, o, none⟩ := fun o => (hb5.cell (p := ⟨wr.heap.size, o, none⟩) (Nat.lt_succ_self _)).trans (World.cell?_of_block (a := ⟨wr.heap.size, o, none⟩) ((Mod.alloc X (.cells #[] 3)).block _ l0 (.inr (Nat.zero_le _))))
              rw [List.nil_append] at hv5
              obtain ⟨a5, c5, rfl, -⟩ := id hv5.rl))
          | ((refine step_appAllL rfl _ _ 24 rfl Try.underlying24 (wr.heap.size + 1) _ (.slice af fs.length cf) [] fs ?_ ?_ (by rfl) (by rfl) (by simpa using hlf) (Below.refl _ _) ?_ ?_
              · exact F2a.drew
              · exact (hf.mod ((hm.trans mA).trans (((Mod.alloc X (.cells #[] 3)).trans (Mod.alloc _ (.cells #[] 3))).trans (Mod.drewN _ 1))) (.inr (Nat.zero_le _))).rl
              · exact Nat.le_trans l0 (by simp; omega)
              intro v5 w5 hv5 hb5 hg5 hl5
              have hs5 : X.heap.size ≤ w5.heap.size := Nat.le_trans (by simp; omega) hg5.size
              have m5 : Mod 0 0 wr w5 := (mA.trans (((Mod.alloc X (.cells #[] 3)).trans (Mod.alloc _ (.cells #[] 3))).trans (Mod.drewN _ 1))).then_below' hb5 (Nat.le_succ _)
              have hc5 : ∀ o, w5.cell? ⟨wr.heap.size, o, none⟩ = X.cell? ⟨wr.heap.size, o, none⟩ := fun o => (hb5.cell (p := ⟨wr.heap.size, o, none⟩) (Nat.lt_succ_self _)).trans (World.cell?_of_block (a := ⟨wr.heap.size, o, none⟩) (((Mod.alloc X (.cells #[] 3)).trans (Mod.alloc _ (.cells #[] 3))).block _ l0 (.inr (Nat.zero_le _))))
              have hv24 := F2b.drew.kept hg5 (fun q hq e => by
                have h1 : X.heap.size + 1 = q := Option.some.inj hq
                have h2 : X.heap.size = q := Option.some.inj e
                omega)
              have hne : ∀ q, v5.ownBlock = some q → (Value.slice (some ⟨X.heap.size + 1, 0, none⟩) 0 0).ownBlock ≠ some q := fun q hq e => by
                have h2 : X.heap.size + 1 = q := Option.some.inj e
                rcases hl5 with h | h
                · have h3 : X.heap.size = q := Option.some.inj (h.symm.trans hq)
                  omega
                · have h3 := Option.some.inj (h.symm.trans hq)
                  simp at h3
                  omega
              rw [List.nil_append] at hv5
              obtain ⟨a5, c5, rfl, -⟩ := id hv5.rl))
          | ((refine step_appAllL rfl _ _ 24 rfl Try.underlying24 (wr.heap.size + 1) _ (.slice af fs.length cf) [] fs ?_ ?_ (by rfl) (by rfl) (by simpa using hlf) (Below.refl _ _) ?_ ?_
              · exact F2b.drew
              · exact (hf.mod ((hm.trans mA).trans (((Mod.alloc X (.cells #[] 3)).trans (Mod.alloc _ (.cells #[] 3))).trans (Mod.drewN _ 1))) (.inr (Nat.zero_le _))).rl
              · exact Nat.le_trans l0 (by simp; omega)
              intro v5 w5 hv5 hb5 hg5 hl5
              have hs5 : X.heap.size ≤ w5.heap.size := Nat.le_trans (by simp; omega) hg5.size
              have m5 : Mod 0 0 wr w5 := (mA.trans (((Mod.alloc X (.cells #[] 3)).trans (Mod.alloc _ (.cells #[] 3))).trans (Mod.drewN _ 1))).then_below' hb5 (Nat.le_succ _)
              have hc5 : ∀ o, w5.cell? ⟨wr.heap.size, o, none⟩ = X.cell? ⟨wr.heap.size, o, none⟩ := fun o => (hb5.cell (p := ⟨wr.heap.size, o, none⟩) (Nat.lt_succ_self _)).trans (World.cell?_of_block (a := ⟨wr.heap.size, o, none⟩) (((Mod.alloc X (.cells #[] 3)).trans (Mod.alloc _ (.cells #[] 3))).block _ l0 (.inr (Nat.zero_le _))))
              have hv24 := F2a.drew.kept hg5 (fun q hq e => by
                have h1 : X.heap.size = q := Option.some.inj hq
                have h2 : X.heap.size + 1 = q := Option.some.inj e
                omega)
              have hne : ∀ q, v5.ownBlock = some q → (Value.slice (some ⟨X.heap.size, 0, none⟩) 0 0).ownBlock ≠ some q := fun q hq e => by
                have h2 : X.heap.size = q := Option.some.inj e
                rcases hl5 with h | h
                · have h3 : X.heap.size + 1 = q := Option.some.inj (h.symm.trans hq)
                  omega
                · have h3 := Option.some.inj (h.symm.trans hq)
                  simp at h3
                  omega
              rw [List.nil_append] at hv5
              obtain ⟨a5, c5, rfl, -⟩ := id hv5.rl))
          | ((refine step_appAllL rfl _ _ 24 rfl Try.underlying24 (wr.heap.size + 1) _ (.slice ar row.length cr) [] row ?_ ?_ (by rfl) (by rfl) (by simpa using hlr) (Below.refl _ _) ?_ ?_
              · exact OI.fresh0 w5 (Nat.le_trans l0 hs5)
              · exact (hr.mod ((hm.trans m5).trans (Mod.alloc w5 (.cells #[] 3))) (.inr (Nat.zero_le _))).rl
              · exact Nat.le_trans (Nat.le_trans l0 hs5) (by simp)
              intro v6 w6 hv6 hb6 hg6 hl6
              have hs6 : X.heap.size ≤ w6.heap.size := Nat.le_trans (Nat.le_trans hs5 (by simp)) hg6.size
              have hc6 : ∀ o, w6.cell? ⟨wr.heap.size, o, none⟩ = X.cell? ⟨wr.heap.size, o, none⟩ := fun o => ((hb6.cell (p := ⟨wr.heap.size, o, none⟩) (Nat.lt_succ_self _)).trans (World.cell?_of_block (a := ⟨wr.heap.size, o, none⟩) (heap_alloc_old w5 _ (Nat.lt_of_lt_of_le l0 hs5)))).trans (hc5 o)
              have hv6f := (hv5.alloc (.cells #[] 3)).kept hg6 (fun q hq e => by
                have h1 := (hv5.lt q hq).2
                have h2 : w5.heap.size = q := Option.some.inj e
                omega)
              have m6 : Mod 0 0 wr w6 := (m5.trans (Mod.alloc w5 (.cells #[] 3))).then_below' hb6 (Nat.le_succ _)
              have hbw6 := m6.below0 hbel hbel.size
              have hp6 := HO.out.mod m6 (.inr (Nat.zero_le _))
              replace hv6f := hv6f.base (Nat.le_succ_of_le hbel.size)
              replace hv6 := hv6.base (Nat.le_succ_of_le hbel.size)
              rw [List.nil_append] at hv6
              obtain ⟨a6, c6, rfl, -⟩ := id hv6.rl))
          | ((refine step_appAllL rfl _ _ 24 rfl Try.underlying24 (wr.heap.size + 1) _ (.slice ar row.length cr) [] row ?_ ?_ (by rfl) (by rfl) (by simpa using hlr) (Below.refl _ _) ?_ ?_
              · exact hv24
              · exact (hr.mod (hm.trans m5) (.inr (Nat.zero_le _))).rl
              · exact Nat.le_trans l0 hs5
              intro v6 w6 hv6 hb6 hg6 hl6
              have hs6 : X.heap.size ≤ w6.heap.size := Nat.le_trans hs5 hg6.size
              have hc6 : ∀ o, w6.cell? ⟨wr.heap.size, o, none⟩ = X.cell? ⟨wr.heap.size, o, none⟩ := fun o => (hb6.cell (p := ⟨wr.heap.size, o, none⟩) (Nat.lt_succ_self _)).trans (hc5 o)
              have hv6f := hv5.kept hg6 hne
              have m6 : Mod 0 0 wr w6 := m5.then_below' hb6 (Nat.le_succ _)
              have hbw6 := m6.below0 hbel hbel.size
              have hp6 := HO.out.mod m6 (.inr (Nat.zero_le _))
              replace hv6f := hv6f.base (Nat.le_succ_of_le hbel.size)
              replace hv6 := hv6.base (Nat.le_succ_of_le hbel.size)
              rw [List.nil_append] at hv6
              obtain ⟨a6, c6, rfl, -⟩ := id hv6.rl)))
      all_goals
        have hbw7 := hbw6.trans hb7
        have HV7 := hid hv7
        clear hc5 hc6 hc7 hv5 hp6 hv6f hv6 hv7 hl5 hk7
        go_wp2_with fail
        go_roundw
        case rel => exact ⟨k + 1, by omega, by go_num, by rw [HT.out]; exact HV7.out, hbw7⟩
        case measure => simp [intOf]; omega
    · obtain rfl : k = ns.length := by omega
      go_wp2_with fail
      go_ret
      exact ⟨_, rfl, by rw [List.take_length] at ho; exact ho, hbel⟩

theorem RR.upP {w : World} {hi hi' : Nat} {v : Value} {xs : List Int} (h : RR w hi v xs) (h1 : hi ≤ hi') (h2 : hi' ≤ w.heap.size) : RR w hi' v xs := by
  obtain ⟨a, c, rfl, h3, h4, h5, h6⟩ := h
  exact ⟨a, c, rfl, h3, h4, h2, fun i hi => by obtain ⟨b, o, e, hb, hc⟩ := h6 i hi; exact ⟨b, o, e, Nat.lt_of_lt_of_le hb h1, hc⟩⟩

theorem PL.upP {w : World} {hi hi' : Nat} {v : Value} {ns : List Nd} (h : PL w hi v ns) (h1 : hi ≤ hi') (h2 : hi' ≤ w.heap.size) : PL w hi' v ns := by
  obtain ⟨a, c, rfl, h3, h4, h5, h6⟩ := h
  exact ⟨a, c, rfl, h3, h4, h2, fun i hi => by
    obtain ⟨b, o, f, r, e, hb, c0, c1, c2, hf, hr⟩ := h6 i hi
    exact ⟨b, o, f, r, e, Nat.lt_of_lt_of_le hb h1, c0, c1, c2, hf.upP h1 h2, hr.upP h1 h2⟩⟩

/-- `append(v, x...)`, `x` one node that lies in a block known whole; the rows not the call's own: what it then reads as. -/
theorem step_appN1x {D : Prop} {w w0 : World} {ops : Array Oper} {o : Oper} {a : Act} {K : Act → World → Prop} {Q : Exit → Act → World → Prop} {E : Prop}
    (hg : o.guard = none) (s x : Operand) (T : TypeId) (hop : o.op = Op.call { callee := Callee.builtin Builtin.append, args := #[s, x], argTypes := #[T, T] })
    (hT : Try.prog.underlying T = some (.slice 48)) (B hi bx : Nat) (v : Value) (ns : List Nd) (kd : Int) (vf vr : Value) (fs row : List Int)
    (hown : PR D w B hi v ns) (hbx : w.heap[bx]? = some (.cells #[.int .i64 kd, vf, vr] 48 (0, 0))) (hf : RR w B vf fs) (hr : RR w B vr row) (hs : a.eval s = v) (hx : a.eval x = .slice (some ⟨bx, 0, none⟩) 1 1)
    (hlen : ns.length < 1099511627775) (hbel : Below B w0 w) (hB : B ≤ w.heap.size)
    (hK : ∀ v' w', PL w' w'.heap.size v' (ns ++ [⟨kd, fs, row⟩]) → Below B w0 w' → K (a.put o.dst v') w') :
    if Region.wanted o (yielded ops a.tmps) = true then Oper.wp Try.prog o a w K Q else E := by
  have hw : Region.wanted o (yielded ops a.tmps) = true := by simp [Region.wanted, hg]
  rw [if_pos hw]
  obtain ⟨h0, U, own, h1, h2, h3⟩ := hown
  have hfo : vf.oneCell' = true := by obtain ⟨a, c, rfl, -⟩ := hf; rfl
  have hro : vr.oneCell' = true := by obtain ⟨a, c, rfl, -⟩ := hr; rfl
  refine wp_appN s x T hop hT B v ns [⟨kd, fs, row⟩] U (fun r => if r = 0 then vf else vr) h1 hs ⟨bx, 0, none⟩ 1 hx ?_ ?_ (by simp; omega) hbel hB ?_
  · intro j hj
    simp at hj
    rw [Addr.add_lit, Nat.zero_add, cell_of_row _ bx j _ _ _ hbx]
    rcases (show j = 0 ∨ j = 1 ∨ j = 2 by omega) with rfl | rfl | rfl <;> simp [cN]
  · intro r _
    show (if r = 0 then vf else vr).oneCell' = true
    split
    · exact hfo
    · exact hro
  · intro v' w' ho hb hgr
    have hm : ∀ {u : Value} {ys : List Int}, RR w B u ys → RR w' w'.heap.size u ys := fun {u ys} h => by
      have hm1 : Mod B w.heap.size w w' := Mod.of_grown hgr fun k hk => World.ownsRow.lt h1 k hk
      exact (h.mod hm1 (.inl (Nat.le_refl _))).rl.rr
    refine (hK v' w' (pl_of ho fun r hr' => ?_) hb)
    rw [rowN_app]
    rw [List.length_append] at hr'
    by_cases e : r < 2 * ns.length
    · simp only [if_pos e]
      exact (((h3 r e).1).kept hgr fun k hk e => node_OI_ne h1 (h3 r (by assumption)).1 k hk e).rl.rr
    · simp only [if_neg e]
      simp at hr'
      rcases (show r - 2 * ns.length = 0 ∨ r - 2 * ns.length = 1 by omega) with e2 | e2
      · rw [e2]; exact hm hf
      · rw [e2]; exact hm hr

/-- What the reference's PlanAdd hands back, to be read. -/
def AddedR (w : World) (ns : List Nd) (n : Nd) (e : Ending) (w' : World) : Prop :=
  ∃ vo, e = .returned (.tuple #[vo, .bool (addB ns n)]) ∧ PL w' w'.heap.size vo (addL ns n) ∧ Below w.heap.size w w'

set_option maxHeartbeats 4000000 in
theorem spadd_any (v vf vr : Value) (ns : List Nd) (kd : Int) (fs row : List Int) (hi : Nat) (w : World) (h : PL w hi v ns) (hf : RL w vf fs) (hr : RL w vr row) (hlen : ns.length ≤ 1048576)
    (hl : ∀ i, i < ns.length → (ns.getD i nd0).fs.length < 1099511627776 ∧ (ns.getD i nd0).row.length < 1099511627776) (hl1 : fs.length < 1099511627776) (hl2 : row.length < 1099511627776) :
    Calls Try.prog 36 #[v, .agg #[.int .i64 kd, vf, vr]] w (AddedR w ns ⟨kd, fs, row⟩) := by
  obtain ⟨L, hL⟩ : ∃ L, L = addL ns ⟨kd, fs, row⟩ := ⟨_, rfl⟩
  obtain ⟨B, hB⟩ : ∃ B, B = addB ns ⟨kd, fs, row⟩ := ⟨_, rfl⟩
  unfold AddedR
  rw [← hL, ← hB]
  have HL := hid hL
  have HB := hid hB
  have HLN := hid hl
  have hl' : ∀ i, i < (ns ++ [(⟨kd, fs, row⟩ : Nd)]).length → ((ns ++ [(⟨kd, fs, row⟩ : Nd)]).getD i nd0).fs.length < 1099511627776 ∧ ((ns ++ [(⟨kd, fs, row⟩ : Nd)]).getD i nd0).row.length < 1099511627776 := fun i hi => by
    by_cases e : i < ns.length
    · have : (ns ++ [(⟨kd, fs, row⟩ : Nd)]).getD i nd0 = ns.getD i nd0 := by simp [List.getD, List.getElem?_append, e]
      rw [this]; exact hl i e
    · have e2 : i = ns.length := by simp at hi; omega
      have : (ns ++ [(⟨kd, fs, row⟩ : Nd)]).getD i nd0 = ⟨kd, fs, row⟩ := by subst e2; simp [List.getD]
      rw [this]; exact ⟨hl1, hl2⟩
  have HLN' := hid hl'
  obtain ⟨a, c, rfl, -⟩ := id h
  obtain ⟨af, cf, rfl, -⟩ := id hf
  obtain ⟨ar, cr, rfl, -⟩ := id hr
  have mA := Mod.alloc w (.cells #[.int .i64 kd, .slice af fs.length cf, .slice ar row.length cr] 48)
  obtain ⟨X, hX⟩ : ∃ X, X = w.alloc (.cells #[.int .i64 kd, .slice af fs.length cf, .slice ar row.length cr] 48) := ⟨_, rfl⟩
  rw [← hX] at mA
  have x0 : X.heap[w.heap.size]? = some (.cells #[.int .i64 kd, .slice af fs.length cf, .slice ar row.length cr] 48 (0, 0)) := by rw [hX]; exact heap_alloc_new w _
  have l0 : w.heap.size < X.heap.size := by rw [hX]; simp
  have HX := hid hX
  clear hl hL hB hX hl'
  go_enter Try.func36, Try.ntmps36
  go_wp2_with fail
  rw [← HX.out]
  refine (splan_any _ ns hi X (h.mod mA (.inr (Nat.zero_le _))) (by omega)).mono ?_
  rintro e w2 ⟨rfl, m2⟩
  have m02 := mA.trans m2
  have hb2 := m02.below0 (Below.refl w.heap.size w) (Nat.le_refl _)
  by_cases hp : planB ns = true
  · rw [hp]
    have hlen10 := planB_len hp
    have HP := hid hp
    replace x0 := (m2.block _ l0 (.inr (Nat.zero_le _))).trans x0
    have l2 := Nat.lt_of_lt_of_le l0 m2.size
    have c0 : w2.cell? ⟨w.heap.size, 0, none⟩ = some (.int .i64 kd) := by unfold World.cell?; simp [x0]
    have c1 : w2.cell? ⟨w.heap.size, 1, none⟩ = some (.slice af fs.length cf) := by unfold World.cell?; simp [x0]
    have c2 : w2.cell? ⟨w.heap.size, 2, none⟩ = some (.slice ar row.length cr) := by unfold World.cell?; simp [x0]
    have h2 : PL w2.drew hi (.slice a ns.length c) ns := h.mod (m02.trans (Mod.drewN w2 1)) (.inr (Nat.zero_le _))
    have hf2 := hf.rr.mod (m02.trans (Mod.drewN w2 1)) (.inr (Nat.zero_le _))
    have hr2 := hr.rr.mod (m02.trans (Mod.drewN w2 1)) (.inr (Nat.zero_le _))
    have hb2d : Below w.heap.size w w2.drew := (Mod.drewN w2 1).below0 hb2 hb2.size
    have hl8 : (ns ++ [(⟨kd, fs, row⟩ : Nd)]).length ≤ 1048576 := by simp; omega
    have m23 : Mod 0 0 w2 (w2.alloc (.cells #[.int .i64 kd, .slice af fs.length cf, .slice ar row.length cr] 48)).drew := (Mod.alloc w2 _).trans (Mod.drewN _ 1)
    have h3 : PL (w2.alloc (.cells #[.int .i64 kd, .slice af fs.length cf, .slice ar row.length cr] 48)).drew hi (.slice a ns.length c) ns := h.mod (m02.trans m23) (.inr (Nat.zero_le _))
    have hf3 := hf.rr.mod (m02.trans m23) (.inr (Nat.zero_le _))
    have hr3 := hr.rr.mod (m02.trans m23) (.inr (Nat.zero_le _))
    have hb3d : Below w.heap.size w (w2.alloc (.cells #[.int .i64 kd, .slice af fs.length cf, .slice ar row.length cr] 48)).drew := m23.below0 hb2 hb2.size
    have hx3 : (w2.alloc (.cells #[.int .i64 kd, .slice af fs.length cf, .slice ar row.length cr] 48)).drew.heap[w2.heap.size]? = some (.cells #[.int .i64 kd, .slice af fs.length cf, .slice ar row.length cr] 48 (0, 0)) := heap_alloc_new w2 _
    clear hp x0
    go_wp2_with fail
    go_region_held3 (fun w' => w'.cell? ⟨w.heap.size, 0, none⟩ = some (.int .i64 kd) ∧ w'.cell? ⟨w.heap.size, 1, none⟩ = some (.slice af fs.length cf) ∧ w'.cell? ⟨w.heap.size, 2, none⟩ = some (.slice ar row.length cr))
      (go_keep)
      (first
        | ((refine step_appN1x rfl _ _ 27 rfl Try.underlying27 (w.heap.size + 1) w5.heap.size w2.heap.size _ ns kd _ _ fs row hv5n hx5 hf5 hr5 (by rfl) (by rfl) (by omega) (Below.refl _ _) l5 ?_; intro v' w7 hv7 hb7
            have hc7 : ∀ o, w7.cell? ⟨w.heap.size, o, none⟩ = w2.cell? ⟨w.heap.size, o, none⟩ := fun o => (hb7.cell (p := ⟨w.heap.size, o, none⟩) (Nat.lt_succ_self _)).trans (hc5 _ o l2)
            have hb7w := hb5w.trans (hb7.mono (Nat.le_succ w.heap.size))
            obtain ⟨a7, c7, e7, -⟩ := id hv7
            rw [show (ns ++ [(⟨kd, fs, row⟩ : Nd)]).length = ns.length + 1 by simp] at e7
            subst e7))
        | ((refine step_appN1r rfl _ _ 27 rfl Try.underlying27 (w.heap.size + 1) w5.heap.size _ ns kd _ _ fs row hv5n hf5 hr5 (by rfl) (by rfl) (by omega) (Below.refl _ _) l5 ?_; intro v' w7 hv7 hb7 _
            have hc7 : ∀ o, w7.cell? ⟨w.heap.size, o, none⟩ = w2.cell? ⟨w.heap.size, o, none⟩ := fun o => (hb7.cell (p := ⟨w.heap.size, o, none⟩) (Nat.lt_succ_self _)).trans (hc5 _ o l2)
            have hb7w := hb5w.trans (hb7.mono (Nat.le_succ w.heap.size))
            obtain ⟨a7, c7, e7, -⟩ := id hv7
            rw [show (ns ++ [(⟨kd, fs, row⟩ : Nd)]).length = ns.length + 1 by simp] at e7
            subst e7))
        | ((go_at_call 70; (with_reducible refine (l3Copy_any _ ns hi w2.drew h2 (by omega) HLN.out).mono ?_); rintro e w5 ⟨v5, rfl, hv5, hb5⟩
            obtain ⟨a5, c5, rfl, -⟩ := hv5.shape
            have hb5w := (Mod.of_below hb5).below0 hb2d hb2d.size
            have l5 : w.heap.size + 1 ≤ w5.heap.size := Nat.le_trans l2 (Nat.le_trans (by simp) hb5.size)
            have hv5n := hv5.base (show w.heap.size + 1 ≤ _ from Nat.le_trans l2 (by simp))
            have hf5 := (hf2.mod (Mod.of_below hb5) (.inr (Nat.zero_le _))).upP (Nat.le_succ w.heap.size) l5
            have hr5 := (hr2.mod (Mod.of_below hb5) (.inr (Nat.zero_le _))).upP (Nat.le_succ w.heap.size) l5
            have hc5 : ∀ b o, b < w2.heap.size → w5.cell? ⟨b, o, none⟩ = w2.cell? ⟨b, o, none⟩ := fun b o h => hb5.cell (p := ⟨b, o, none⟩) h))
        | ((go_at_call 70; (with_reducible refine (l3Copy_any _ ns hi _ h3 (by omega) HLN.out).mono ?_); rintro e w5 ⟨v5, rfl, hv5, hb5⟩
            obtain ⟨a5, c5, rfl, -⟩ := hv5.shape
            have hb5w := (Mod.of_below hb5).below0 hb3d hb3d.size
            have l5 : w.heap.size + 1 ≤ w5.heap.size := Nat.le_trans l2 (Nat.le_trans (by simp) hb5.size)
            have hv5n := hv5.base (show w.heap.size + 1 ≤ _ from Nat.le_trans l2 (by simp))
            have hf5 := (hf3.mod (Mod.of_below hb5) (.inr (Nat.zero_le _))).upP (Nat.le_succ w.heap.size) l5
            have hr5 := (hr3.mod (Mod.of_below hb5) (.inr (Nat.zero_le _))).upP (Nat.le_succ w.heap.size) l5
            have hx5 := (hb5.block w2.heap.size (by simp)).trans hx3
            have hc5 : ∀ b o, b < w2.heap.size → w5.cell? ⟨b, o, none⟩ = w2.cell? ⟨b, o, none⟩ := fun b o h => (hb5.cell (p := ⟨b, o, none⟩) (Nat.lt_of_lt_of_le h (by simp))).trans (World.cell?_of_block (a := ⟨b, o, none⟩) (heap_alloc_old w2 _ h))))
        | ((go_at_call 70; (with_reducible refine (l3Copy_any _ (ns ++ [⟨kd, fs, row⟩]) _ w7 hv7 hl8 HLN'.out).mono ?_); rintro e w8 ⟨v8, rfl, hv8, hb8⟩
            obtain ⟨a8, c8, e8, -⟩ := id hv8.shape
            rw [show (ns ++ [(⟨kd, fs, row⟩ : Nd)]).length = ns.length + 1 by simp] at e8
            subst e8
            have hc8 : ∀ o, w8.cell? ⟨w.heap.size, o, none⟩ = w2.cell? ⟨w.heap.size, o, none⟩ := fun o => (hb8.cell (p := ⟨w.heap.size, o, none⟩) (Nat.lt_of_lt_of_le (Nat.lt_of_lt_of_le (Nat.lt_succ_self _) l5) hb7.size)).trans (hc7 o)))
        | fail)
    all_goals
      have hb8w := (Mod.of_below hb8).below0 hb7w hb7w.size
      have HV8 := hid hv8.pl
      clear hc5 hc7 hc8 hv5 hv5n hf5 hr5 hv7 h2 h3 hf2 hr2 hf3 hr3 hx3 c0 c1 c2 hv8
      go_wp2_with fail
      refine (splan_any _ (ns ++ [⟨kd, fs, row⟩]) _ w8 (by have := HV8.out; rw [← show (ns ++ [(⟨kd, fs, row⟩ : Nd)]).length = ns.length + 1 by simp] at this ⊢; exact this) (by omega)).mono ?_
      rintro e w9 ⟨rfl, m9⟩
      have hb9 := m9.below0 hb8w hb8w.size
      by_cases hq : planB (ns ++ [⟨kd, fs, row⟩]) = true
      · rw [hq]
        have eL : L = ns ++ [⟨kd, fs, row⟩] := by rw [HL.out]; unfold addL; rw [if_pos ⟨HP.out, hq⟩]
        have eB : B = true := by rw [HB.out]; unfold addB; rw [HP.out, hq]; rfl
        subst eB
        have HQ := hid eL
        clear hq eL
        go_wp2_with fail
        go_ret2
        refine ⟨_, rfl, ?_, hb9⟩
        rw [HQ.out]
        exact (HV8.out.mod m9 (.inr (Nat.zero_le _))).upP m9.size (Nat.le_refl _)
      · have hq' : planB (ns ++ [⟨kd, fs, row⟩]) = false := by simpa using hq
        rw [hq']
        have eL : L = [] := by rw [HL.out]; unfold addL; rw [if_neg (fun h => hq h.2)]
        have eB : B = false := by rw [HB.out]; unfold addB; rw [hq', Bool.and_false]
        subst eB
        subst eL
        clear hq hq'
        go_wp2_with fail
        go_ret2
        exact ⟨_, rfl, (((PR.fresh0 (D := False) w9 (Nat.le_refl _)).up (by simp) (Nat.le_refl _)).pl), (Mod.alloc w9 _).below0 hb9 hb9.size⟩
  · have hp' : planB ns = false := by simpa using hp
    rw [hp']
    have eL : L = [] := by rw [HL.out]; unfold addL; rw [if_neg (fun h => hp h.1)]
    have eB : B = false := by rw [HB.out]; unfold addB; rw [hp', Bool.false_and]
    subst eB
    subst eL
    clear hp hp' x0
    go_wp2_with fail
    go_ret2
    exact ⟨_, rfl, (((PR.fresh0 (D := False) w2 (Nat.le_refl _)).up (by simp) (Nat.le_refl _)).pl), (Mod.alloc w2 _).below0 hb2 hb2.size⟩
end Go.Proofs.Yteelobokjidphaa
