/-
  HoldsNil of the layer holds: for every input the law's function returns true and its arguments read as before; conditions: the listed tables hold what the program's text lays. Part 8 of 13.
-/
import Derived.Test.YtcafflmhjgnehaaGreatDoorHoldsNilQ5
import Derived.Test.YtcafflmhjgnehaaGreatDoorHoldsNilQ3
import Derived.Test.YtcafflmhjgnehaaGreatDoorHoldsNilQ6
set_option linter.unusedSimpArgs false
set_option linter.unusedVariables false
set_option linter.defProp false
set_option maxRecDepth 100000
/-
  Copies.
-/
namespace Go.WK
open Go Go.Proofs

theorem sn_t {n c m d : Nat} : nilV .sli (.slice none n c) (.slice none m d) = some true := nrfl rfl
theorem cloneAct_cl {S : Nat → Prop} {H : Hp} {v : Value} {l : List Ac} (hv : AcSl S H v l) (hl : l.length ≤ 1048576) : Cl Tryz.prog 108 [v] H fun r H' => AcSl (fun b => H.size ≤ b ∧ b < H'.size) H' r l ∧ Ext H H' := by
  refine cl_of mixed c_slices_Clone_Act (Nat.le_of_ble_eq_true rfl) ?_
  simp only [fwp, ir_slices_Clone_Act, argF, Nat.reduceAdd]
  obtain ⟨css, a, c, hlen, rfl, hsrc, hel⟩ := SlP.rows (hv.ext ((Ext.refl H).push (.cells #[] 98)))
  refine w_reg fun K hK => ?_
  simp (disch := omega) only [↓wD, wU, Nat.reduceBEq, reduceCtorEq, Int.reduceEq, Int.reduceLT, Int.reduceLE, Int.reduceNeg, Value.cells, Value.oneCell', Nat.reduceAdd, Nat.reduceEqDiff, fillL, setL, Nat.reduceLeDiff, ]
  refine hK _ _ ?_
  clear hK K
  refine w_seq (w_seq ?_)
  cases a with
  | none =>
    refine w_reg fun K hK => ?_
    simp (disch := omega) only [↓wD, wU, Nat.reduceBEq, reduceCtorEq, Int.reduceEq, Int.reduceLT, Int.reduceLE, Int.reduceNeg, Value.cells, Value.oneCell', Nat.reduceAdd, Nat.reduceEqDiff, fillL, setL, Nat.reduceLeDiff, ]
    refine hK _ _ ?_
    clear hK K
    refine w_true (by simp only [ev_tmp, ev_const, upd_apply, Nat.reduceBEq, cond_true, cond_false, Bool.not_true, Bool.not_false, ]) ?_
    refine w_reg fun K hK => ?_
    simp (disch := omega) only [↓wD, wU, Nat.reduceBEq, reduceCtorEq, Int.reduceEq, Int.reduceLT, Int.reduceLE, Int.reduceNeg, Value.cells, Value.oneCell', Nat.reduceAdd, Nat.reduceEqDiff, fillL, setL, Nat.reduceLeDiff, ]
    refine hK _ _ ?_
    clear hK K
    refine w_ret ?_
    repeat (first | with_reducible refine q_n ?_ | with_reducible refine q_e ?_ | with_reducible refine q_r ?_ | with_reducible refine bq_n ?_ | with_reducible refine bq_e ?_ | with_reducible refine bq_r ?_ | with_reducible refine bq_o rfl ?_)
    refine ret1 (by (try simp only [ev_tmp, ev_const, upd_apply, Nat.reduceBEq, cond_true, cond_false, ]); rfl) ?_
    have : l = [] := by
      rcases hv.2 with ⟨_, _, h⟩ | ⟨b, o, c, h, _⟩
      · exact h
      · cases h
    subst this
    exact ⟨⟨by simp, .inl ⟨_, rfl, rfl⟩⟩, Ext.refl _⟩
  | some p =>
    refine w_reg fun K hK => ?_
    simp (disch := omega) only [↓wD, wU, Nat.reduceBEq, reduceCtorEq, Int.reduceEq, Int.reduceLT, Int.reduceLE, Int.reduceNeg, Value.cells, Value.oneCell', Nat.reduceAdd, Nat.reduceEqDiff, fillL, setL, Nat.reduceLeDiff, ]
    refine hK _ _ ?_
    clear hK K
    refine w_false (by simp only [ev_tmp, ev_const, upd_apply, Nat.reduceBEq, cond_true, cond_false, Bool.not_true, Bool.not_false, ]) ?_
    refine w_skip ?_
    repeat (first | with_reducible refine q_n ?_ | with_reducible refine q_e ?_ | with_reducible refine q_r ?_ | with_reducible refine bq_n ?_ | with_reducible refine bq_e ?_ | with_reducible refine bq_r ?_ | with_reducible refine bq_o rfl ?_)
    refine w_reg fun K hK => ?_
    simp (disch := omega) only [↓wD, wU, Nat.reduceBEq, reduceCtorEq, Int.reduceEq, Int.reduceLT, Int.reduceLE, Int.reduceNeg, Value.cells, Value.oneCell', Nat.reduceAdd, Nat.reduceEqDiff, fillL, setL, Nat.reduceLeDiff, hsrc]
    refine app_row (M := fun x => x = H.size) (css := []) (k := 4) (new := css) (bytes := 48) (v := .slice (some ⟨H.size, 0, none⟩) 0 0) Row.empty (by rintro x rfl; simp) (fun cs hcs => ?_) rfl (by decide) (by simp; omega) ?_ rfl
    · obtain ⟨i, hi, rfl⟩ := List.getElem_of_mem hcs
      exact ⟨(hel i hi (by omega)).2, (hel i hi (by omega)).1.one⟩
    · intro v' H' hrow hkeep hsz
      simp only [↓wD, wU, Nat.reduceBEq, reduceCtorEq, Int.reduceEq, Int.reduceLT, Int.reduceLE, Int.reduceNeg, Value.cells, Value.oneCell', Nat.reduceAdd, Nat.reduceEqDiff, fillL, setL, Nat.reduceLeDiff]
      refine hK _ _ ?_
      clear hK K
      refine w_ret ?_
      repeat (first | with_reducible refine q_n ?_ | with_reducible refine q_e ?_ | with_reducible refine q_r ?_ | with_reducible refine bq_n ?_ | with_reducible refine bq_e ?_ | with_reducible refine bq_r ?_ | with_reducible refine bq_o rfl ?_)
      refine ret1 (by (try simp only [ev_tmp, ev_const, upd_apply, Nat.reduceBEq, cond_true, cond_false, ]); rfl) ?_
      have hs : H.size + 1 ≤ H'.size := by have := hkeep.1; simpa using this
      refine ⟨?_, by omega, fun b hb => ?_⟩
      · refine SlP.mono (H := H') (hrow.lt.slp (l := l) (by simpa using hlen) (by unfold big; omega) fun i hi hl => (hel i (by simpa using hi) hl).1) ?_ (fun _ _ _ => rfl) (fun _ _ _ h => h)
        rintro b ⟨h1 | h1, h2⟩
        · omega
        · simp at h1; omega
      · rw [hkeep.2 b (by simp; omega) (by omega), Array.getElem?_push, if_neg (by omega)]
theorem cloneRead_cl {S : Nat → Prop} {H : Hp} {v : Value} {l : List Rd} (hv : RdSl S H v l) (hl : l.length ≤ 1048576) : Cl Tryz.prog 109 [v] H fun r H' => RdSl (fun b => H.size ≤ b ∧ b < H'.size) H' r l ∧ Ext H H' := by
  refine cl_of mixed c_slices_Clone_Read (Nat.le_of_ble_eq_true rfl) ?_
  simp only [fwp, ir_slices_Clone_Read, argF, Nat.reduceAdd]
  obtain ⟨css, a, c, hlen, rfl, hsrc, hel⟩ := SlP.rows (hv.ext ((Ext.refl H).push (.cells #[] 100)))
  refine w_reg fun K hK => ?_
  simp (disch := omega) only [↓wD, wU, Nat.reduceBEq, reduceCtorEq, Int.reduceEq, Int.reduceLT, Int.reduceLE, Int.reduceNeg, Value.cells, Value.oneCell', Nat.reduceAdd, Nat.reduceEqDiff, fillL, setL, Nat.reduceLeDiff, ]
  refine hK _ _ ?_
  clear hK K
  refine w_seq (w_seq ?_)
  cases a with
  | none =>
    refine w_reg fun K hK => ?_
    simp (disch := omega) only [↓wD, wU, Nat.reduceBEq, reduceCtorEq, Int.reduceEq, Int.reduceLT, Int.reduceLE, Int.reduceNeg, Value.cells, Value.oneCell', Nat.reduceAdd, Nat.reduceEqDiff, fillL, setL, Nat.reduceLeDiff, ]
    refine hK _ _ ?_
    clear hK K
    refine w_true (by simp only [ev_tmp, ev_const, upd_apply, Nat.reduceBEq, cond_true, cond_false, Bool.not_true, Bool.not_false, ]) ?_
    refine w_reg fun K hK => ?_
    simp (disch := omega) only [↓wD, wU, Nat.reduceBEq, reduceCtorEq, Int.reduceEq, Int.reduceLT, Int.reduceLE, Int.reduceNeg, Value.cells, Value.oneCell', Nat.reduceAdd, Nat.reduceEqDiff, fillL, setL, Nat.reduceLeDiff, ]
    refine hK _ _ ?_
    clear hK K
    refine w_ret ?_
    repeat (first | with_reducible refine q_n ?_ | with_reducible refine q_e ?_ | with_reducible refine q_r ?_ | with_reducible refine bq_n ?_ | with_reducible refine bq_e ?_ | with_reducible refine bq_r ?_ | with_reducible refine bq_o rfl ?_)
    refine ret1 (by (try simp only [ev_tmp, ev_const, upd_apply, Nat.reduceBEq, cond_true, cond_false, ]); rfl) ?_
    have : l = [] := by
      rcases hv.2 with ⟨_, _, h⟩ | ⟨b, o, c, h, _⟩
      · exact h
      · cases h
    subst this
    exact ⟨⟨by simp, .inl ⟨_, rfl, rfl⟩⟩, Ext.refl _⟩
  | some p =>
    refine w_reg fun K hK => ?_
    simp (disch := omega) only [↓wD, wU, Nat.reduceBEq, reduceCtorEq, Int.reduceEq, Int.reduceLT, Int.reduceLE, Int.reduceNeg, Value.cells, Value.oneCell', Nat.reduceAdd, Nat.reduceEqDiff, fillL, setL, Nat.reduceLeDiff, ]
    refine hK _ _ ?_
    clear hK K
    refine w_false (by simp only [ev_tmp, ev_const, upd_apply, Nat.reduceBEq, cond_true, cond_false, Bool.not_true, Bool.not_false, ]) ?_
    refine w_skip ?_
    repeat (first | with_reducible refine q_n ?_ | with_reducible refine q_e ?_ | with_reducible refine q_r ?_ | with_reducible refine bq_n ?_ | with_reducible refine bq_e ?_ | with_reducible refine bq_r ?_ | with_reducible refine bq_o rfl ?_)
    refine w_reg fun K hK => ?_
    simp (disch := omega) only [↓wD, wU, Nat.reduceBEq, reduceCtorEq, Int.reduceEq, Int.reduceLT, Int.reduceLE, Int.reduceNeg, Value.cells, Value.oneCell', Nat.reduceAdd, Nat.reduceEqDiff, fillL, setL, Nat.reduceLeDiff, hsrc]
    refine app_row (M := fun x => x = H.size) (css := []) (k := 3) (new := css) (bytes := 40) (v := .slice (some ⟨H.size, 0, none⟩) 0 0) Row.empty (by rintro x rfl; simp) (fun cs hcs => ?_) rfl (by decide) (by simp; omega) ?_ rfl
    · obtain ⟨i, hi, rfl⟩ := List.getElem_of_mem hcs
      exact ⟨(hel i hi (by omega)).2, (hel i hi (by omega)).1.one⟩
    · intro v' H' hrow hkeep hsz
      simp only [↓wD, wU, Nat.reduceBEq, reduceCtorEq, Int.reduceEq, Int.reduceLT, Int.reduceLE, Int.reduceNeg, Value.cells, Value.oneCell', Nat.reduceAdd, Nat.reduceEqDiff, fillL, setL, Nat.reduceLeDiff]
      refine hK _ _ ?_
      clear hK K
      refine w_ret ?_
      repeat (first | with_reducible refine q_n ?_ | with_reducible refine q_e ?_ | with_reducible refine q_r ?_ | with_reducible refine bq_n ?_ | with_reducible refine bq_e ?_ | with_reducible refine bq_r ?_ | with_reducible refine bq_o rfl ?_)
      refine ret1 (by (try simp only [ev_tmp, ev_const, upd_apply, Nat.reduceBEq, cond_true, cond_false, ]); rfl) ?_
      have hs : H.size + 1 ≤ H'.size := by have := hkeep.1; simpa using this
      refine ⟨?_, by omega, fun b hb => ?_⟩
      · refine SlP.mono (H := H') (hrow.lt.slp (l := l) (by simpa using hlen) (by unfold big; omega) fun i hi hl => (hel i (by simpa using hi) hl).1) ?_ (fun _ _ _ => rfl) (fun _ _ _ h => h)
        rintro b ⟨h1 | h1, h2⟩
        · omega
        · simp at h1; omega
      · rw [hkeep.2 b (by simp; omega) (by omega), Array.getElem?_push, if_neg (by omega)]
theorem as_1 {H : Hp} {b o c : Nat} : appSrc H 7 (.slice (some ⟨b, o, none⟩) 1 c) = (rdn H b o 7).map fun l => (1, l) := nrfl rfl
/-- Not too large. -/
def Sm (l : List Hd) : Prop := l.length ≤ 1048576 ∧ ∀ h ∈ l, h.acts.length ≤ 1048576 ∧ h.reads.length ≤ 1048576
/-- Holds in memory of their own. -/
def FreshIn (n : Nat) (H' : Hp) (v : Value) (l : List Hd) : Prop := ∃ M G : Nat → Prop, (∀ x, M x → ¬ G x) ∧ (∀ x, M x ∨ G x → n ≤ x ∧ x < H'.size) ∧ RowHd M G H' v l
def Fresh (H : Hp) (v : Value) (l : List Hd) (H' : Hp) : Prop := Ext H H' ∧ FreshIn H.size H' v l
theorem own_cl {S : Nat → Prop} {H : Hp} {v : Value} {l : List Hd} (hv : HdSl S H v l) (hs : Sm l) : Cl Tryz.prog 53 [v] H fun r H' => Fresh H r l H' := by
  refine cl_of mixed c_holds_own (Nat.le_of_ble_eq_true rfl) ?_
  simp only [fwp, ir_holds_own, argF, Nat.reduceAdd]
  obtain ⟨a, c, rfl, hc, hl, hel⟩ := SlP.open hv
  clear hv
  refine w_reg fun K hK => ?_
  simp (disch := omega) only [↓wD, wU, Nat.reduceBEq, reduceCtorEq, Int.reduceEq, Int.reduceLT, Int.reduceLE, Int.reduceNeg, Value.cells, Value.oneCell', Nat.reduceAdd, Nat.reduceEqDiff, fillL, setL, Nat.reduceLeDiff, ]
  refine hK _ _ ?_
  clear hK K
  refine w_reg fun K hK => ?_
  simp (disch := omega) only [↓wD, wU, Nat.reduceBEq, reduceCtorEq, Int.reduceEq, Int.reduceLT, Int.reduceLE, Int.reduceNeg, Value.cells, Value.oneCell', Nat.reduceAdd, Nat.reduceEqDiff, fillL, setL, Nat.reduceLeDiff, ]
  refine hK _ _ ?_
  clear hK K
  refine w_seq (w_seq ?_)
  refine w_reg fun K hK => ?_
  simp (disch := omega) only [↓wD, wU, Nat.reduceBEq, reduceCtorEq, Int.reduceEq, Int.reduceLT, Int.reduceLE, Int.reduceNeg, Value.cells, Value.oneCell', Nat.reduceAdd, Nat.reduceEqDiff, fillL, setL, Nat.reduceLeDiff, ]
  refine hK _ _ ?_
  clear hK K
  refine w_blk (w_loop (fun n f H' => Ext H H' ∧ f 6 = .slice a l.length c ∧ f 7 = .int .i64 l.length ∧ ∃ (i : Nat) (vo : Value), f 8 = .int .i64 i ∧ i ≤ l.length ∧ f 3 = vo ∧ (∃ M G : Nat → Prop, (∀ x, M x → ¬ G x) ∧ (∀ x, M x ∨ G x → H.size ≤ x ∧ x < H'.size) ∧ RowHd M G H' vo (l.take i)) ∧ n = l.length - i) _ ⟨Ext.refl _, (by simp only [ev_tmp, ev_const, upd_apply, Nat.reduceBEq, cond_true, cond_false, ]), (by simp only [ev_tmp, ev_const, upd_apply, Nat.reduceBEq, cond_true, cond_false, ]), 0, _, rfl, Nat.zero_le _, rfl, ⟨fun _ => False, fun _ => False, by simp, by simp, RowHd.nil⟩, rfl⟩ ?_)
  rintro n f H' ⟨hE, f6, f7, i, vo, f8, hi, f3, ⟨M, G, hMG, hlt, hrow⟩, rfl⟩
  by_cases hil : i < l.length
  · obtain ⟨b, o, rfl, hSb, cs, hcs, va, vr, rfl, ha, hr, hnm, hsk, hsv⟩ := hel i hil
    have hcs' := rdn_ext hE hcs
    have hmem := hs.2 _ (List.getElem_mem hil)
    obtain ⟨xa, ca, rfl, hca, -⟩ := ha.form
    obtain ⟨xr, cr, rfl, hcr, -⟩ := hr.form
    refine w_reg fun K hK => ?_
    simp (disch := omega) only [↓wD, wU, Nat.reduceBEq, reduceCtorEq, Int.reduceEq, Int.reduceLT, Int.reduceLE, Int.reduceNeg, Value.cells, Value.oneCell', Nat.reduceAdd, Nat.reduceEqDiff, fillL, setL, Nat.reduceLeDiff, f7, f8, hil]
    refine hK _ _ ?_
    clear hK K
    refine w_seq ?_
    refine w_true (by simp only [ev_tmp, ev_const, upd_apply, Nat.reduceBEq, cond_true, cond_false, Bool.not_true, Bool.not_false, ]) ?_
    refine w_skip ?_
    repeat (first | with_reducible refine q_n ?_ | with_reducible refine q_e ?_ | with_reducible refine q_r ?_ | with_reducible refine bq_n ?_ | with_reducible refine bq_e ?_ | with_reducible refine bq_r ?_ | with_reducible refine bq_o rfl ?_)
    refine w_seq (w_blk ?_)
    refine w_reg fun K hK => ?_
    simp (disch := omega) only [↓wD, wU, Nat.reduceBEq, reduceCtorEq, Int.reduceEq, Int.reduceLT, Int.reduceLE, Int.reduceNeg, Value.cells, Value.oneCell', Nat.reduceAdd, Nat.reduceEqDiff, fillL, setL, Nat.reduceLeDiff, f6, f8, hil, hcs']
    refine hK _ _ ?_
    clear hK K
    generalize hH0 : H'.push (.cells #[.string l[i].key, .int .i64 l[i].name.client, .int .i64 l[i].name.num, .slice xa l[i].acts.length ca, .slice xr l[i].reads.length cr, .bool l[i].put, .string l[i].value] 35) = H0
    have hE0 : Ext H' H0 := by subst hH0; exact (Ext.refl _).push _
    have hc0 : rdn H0 H'.size 0 7 = some [.string l[i].key, .int .i64 l[i].name.client, .int .i64 l[i].name.num, .slice xa l[i].acts.length ca, .slice xr l[i].reads.length cr, .bool l[i].put, .string l[i].value] := by subst hH0; exact rdn_new H' _ 35 0 7 (Nat.le_refl _)
    have hf0 : ∀ j, frz H0 H'.size j = false := by subst hH0; exact fun j => frz_new H' [.string l[i].key, .int .i64 l[i].name.client, .int .i64 l[i].name.num, .slice xa l[i].acts.length ca, .slice xr l[i].reads.length cr, .bool l[i].put, .string l[i].value] 35 j
    obtain ⟨c0, c1, c2, c3, c4, c5, c6⟩ := rdn7 hc0
    have hlt0 := cell_lt c0
    clear hH0
    refine w_lin (fun b => b = H'.size) fun K hK => ?_
    simp (disch := omega) only [↓l_nil, ↓l_f, ↓l_t, ↓o_s, ↓o_e, ↓o_g, ↓o_ge, ↓k_ld, ↓k_ldn, isemS, ↓wD, wU, Nat.reduceBEq, reduceCtorEq, Int.reduceEq, Int.reduceLT, Int.reduceLE, Int.reduceNeg, Value.cells, Value.oneCell', Nat.reduceAdd, Nat.reduceEqDiff, fillL, setL, Nat.reduceLeDiff, c3, c4]
    refine w_call (cloneAct_cl (ha.ext (hE.trans hE0)) hmem.1) ?_
    rintro _ H1 ⟨hva, hE1⟩
    obtain ⟨ya, da, rfl, hda, -⟩ := hva.form
    simp (disch := omega) only [↓l_nil, ↓l_f, ↓l_t, ↓o_s, ↓o_e, ↓o_g, ↓o_ge, ↓k_ld, ↓k_ldn, isemS, ↓wD, wU, Nat.reduceBEq, reduceCtorEq, Int.reduceEq, Int.reduceLT, Int.reduceLE, Int.reduceNeg, Value.cells, Value.oneCell', Nat.reduceAdd, Nat.reduceEqDiff, fillL, setL, Nat.reduceLeDiff, ]
    refine ⟨hE1.on _, ?_⟩
    refine w_call (cloneRead_cl (hr.ext ((hE.trans hE0).trans hE1)) hmem.2) ?_
    rintro _ H2 ⟨hvr, hE2⟩
    obtain ⟨yr, dr, rfl, hdr, -⟩ := hvr.form
    have hx := fun j => (hE2.cell H'.size j (Nat.lt_of_lt_of_le hlt0 hE1.size)).trans (hE1.cell H'.size j hlt0)
    have hfx : ∀ j, frz H2 H'.size j = false := fun j => by
      rw [frz_block (hE2.2 _ (Nat.lt_of_lt_of_le hlt0 hE1.size)), frz_block (hE1.2 _ hlt0)]; exact hf0 j
    have d0 := (hx 0).trans c0
    have d1 := (hx (0 + 1)).trans c1
    have d2 := (hx (0 + 2)).trans c2
    have d3 := (hx (0 + 3)).trans c3
    have d4 := (hx (0 + 4)).trans c4
    have d5 := (hx (0 + 5)).trans c5
    have d6 := (hx (0 + 6)).trans c6
    clear hx
    simp (disch := omega) only [↓l_nil, ↓l_f, ↓l_t, ↓o_s, ↓o_e, ↓o_g, ↓o_ge, ↓k_ld, ↓k_ldn, isemS, ↓wD, wU, Nat.reduceBEq, reduceCtorEq, Int.reduceEq, Int.reduceLT, Int.reduceLE, Int.reduceNeg, Value.cells, Value.oneCell', Nat.reduceAdd, Nat.reduceEqDiff, fillL, setL, Nat.reduceLeDiff, d3, d4, hfx, cell_putc, frz_putc]
    refine ⟨hE2.on _, ?_⟩
    refine hK _ _ ?_
    clear hK K
    have htake : l.take (i + 1) = l.take i ++ [l[i]] := by
      rw [List.take_add_one, List.getElem?_eq_getElem hil]; rfl
    obtain ⟨xo, no, co, evo⟩ : ∃ a n c, vo = .slice a n c := by
      obtain ⟨css, ⟨_, ⟨e, _⟩ | ⟨b, c, e, _⟩⟩, _⟩ := hrow
      · exact ⟨_, _, _, e⟩
      · exact ⟨_, _, _, e⟩
    have evo' := f3.trans evo
    have hs2 : H'.size < H2.size := Nat.lt_of_lt_of_le hlt0 (Nat.le_trans hE1.size hE2.size)
    refine w_reg1 fun K hK => ?_
    simp (disch := omega) only [↓wD, wU, Nat.reduceBEq, reduceCtorEq, Int.reduceEq, Int.reduceLT, Int.reduceLE, Int.reduceNeg, Value.cells, Value.oneCell', Nat.reduceAdd, Nat.reduceEqDiff, fillL, setL, Nat.reduceLeDiff, evo', d0, d1, d2, d3, d4, d5, d6, hfx, cell_putc, frz_putc, as_1]
    have hEB : Ext H' ((putc (putc H2 H'.size 3 (.slice ya l[i].acts.length da)) H'.size 4 (.slice yr l[i].reads.length dr)).push (.cells #[.string l[i].key, .int .i64 l[i].name.client, .int .i64 l[i].name.num, .slice ya l[i].acts.length da, .slice yr l[i].reads.length dr, .bool l[i].put, .string l[i].value] 35)) := by
      refine Ext.push (Ext.putc (Ext.putc ((hE0.trans hE1).trans hE2) (Nat.le_refl _) _ _) (Nat.le_refl _) _ _) _
    refine app1 (G2 := fun x => H'.size < x ∧ x < H2.size) (h := l[i]) hrow hMG (fun x hx => (hlt x hx).2) hEB ⟨_, _, rfl, ?_, ?_, hnm, hsk, hsv⟩ (fun x hx hM => by have := (hlt x (.inl hM)).2; omega) (by rw [List.length_take]; have := hs.1; omega) ?_ evo
    · refine SlP.mono hva (fun x hx => ⟨by omega, Nat.lt_of_lt_of_le hx.2 hE2.size⟩) (fun x hx hx' => ?_) (fun _ _ _ h => h)
      rw [Array.getElem?_push, if_neg (by simp only [putc_size]; have := hE2.size; omega), putc_ne (by omega), putc_ne (by omega)]
      exact hE2.2 x hx'
    · refine SlP.mono hvr (fun x hx => ⟨by have := hE1.size; omega, hx.2⟩) (fun x hx hx' => ?_) (fun _ _ _ h => h)
      rw [Array.getElem?_push, if_neg (by simp only [putc_size]; omega), putc_ne (by have := hE1.size; omega), putc_ne (by have := hE1.size; omega)]
    · intro v' H4 hrow' hkeep
      simp only [Array.size_push, putc_size] at hrow'
      have hs4 := hkeep.1
      simp only [Array.size_push, putc_size] at hs4
      simp (disch := omega) only [↓wD, wU, Nat.reduceBEq, reduceCtorEq, Int.reduceEq, Int.reduceLT, Int.reduceLE, Int.reduceNeg, Value.cells, Value.oneCell', Nat.reduceAdd, Nat.reduceEqDiff, fillL, setL, Nat.reduceLeDiff, ]
      refine hK _ _ ?_
      clear hK K
      repeat (first | with_reducible refine q_n ?_ | with_reducible refine q_e ?_ | with_reducible refine q_r ?_ | with_reducible refine bq_n ?_ | with_reducible refine bq_e ?_ | with_reducible refine bq_r ?_ | with_reducible refine bq_o rfl ?_)
      refine w_reg1 fun K hK => ?_
      simp (disch := omega) only [↓wD, wU, Nat.reduceBEq, reduceCtorEq, Int.reduceEq, Int.reduceLT, Int.reduceLE, Int.reduceNeg, Value.cells, Value.oneCell', Nat.reduceAdd, Nat.reduceEqDiff, fillL, setL, Nat.reduceLeDiff, f8]
      refine hK _ _ ?_
      clear hK K
      repeat (first | with_reducible refine q_n ?_ | with_reducible refine q_e ?_ | with_reducible refine q_r ?_ | with_reducible refine bq_n ?_ | with_reducible refine bq_e ?_ | with_reducible refine bq_r ?_ | with_reducible refine bq_o rfl ?_)
      refine ⟨l.length - (i + 1), by omega, ⟨by have := hE.size; omega, fun b hb => ?_⟩, (by simp only [ev_tmp, ev_const, upd_apply, Nat.reduceBEq, cond_true, cond_false, f6]), (by simp only [ev_tmp, ev_const, upd_apply, Nat.reduceBEq, cond_true, cond_false, f7]), i + 1, v', (by simp only [ev_tmp, ev_const, upd_apply, Nat.reduceBEq, cond_true, cond_false, ]), by omega, (by simp only [ev_tmp, ev_const, upd_apply, Nat.reduceBEq, cond_true, cond_false, ]), ⟨_, _, ?_, ?_, by rw [htake]; exact hrow'⟩, rfl⟩
      · have := hE.size
        rw [hkeep.2 b (by simp only [Array.size_push, putc_size]; omega) (fun hM => by have := (hlt b (.inl hM)).1; omega), hEB.2 b (by omega), hE.2 b hb]
      · rintro x ⟨hx | hx, hx2⟩
        · rintro (hg | hg)
          · exact hMG x hx hg
          · have := (hlt x (.inl hx)).2; omega
        · rintro (hg | hg)
          · have := (hlt x (.inr hg)).2; omega
          · omega
      · have := hE.size
        rintro x (⟨hx | hx, hx2⟩ | hx | hx)
        · exact ⟨(hlt x (.inl hx)).1, hx2⟩
        · exact ⟨by omega, hx2⟩
        · have := hlt x (.inr hx); omega
        · omega
  · refine w_reg fun K hK => ?_
    simp (disch := omega) only [↓wD, wU, Nat.reduceBEq, reduceCtorEq, Int.reduceEq, Int.reduceLT, Int.reduceLE, Int.reduceNeg, Value.cells, Value.oneCell', Nat.reduceAdd, Nat.reduceEqDiff, fillL, setL, Nat.reduceLeDiff, f7, f8, hil]
    refine hK _ _ ?_
    clear hK K
    refine w_seq ?_
    refine w_false (by simp only [ev_tmp, ev_const, upd_apply, Nat.reduceBEq, cond_true, cond_false, Bool.not_true, Bool.not_false, ]) ?_
    refine w_exit ?_
    repeat (first | with_reducible refine q_n ?_ | with_reducible refine q_e ?_ | with_reducible refine q_r ?_ | with_reducible refine bq_n ?_ | with_reducible refine bq_e ?_ | with_reducible refine bq_r ?_ | with_reducible refine bq_o rfl ?_)
    have : l.take i = l := List.take_of_length_le (by omega)
    rw [this] at hrow
    refine w_reg fun K hK => ?_
    simp (disch := omega) only [↓wD, wU, Nat.reduceBEq, reduceCtorEq, Int.reduceEq, Int.reduceLT, Int.reduceLE, Int.reduceNeg, Value.cells, Value.oneCell', Nat.reduceAdd, Nat.reduceEqDiff, fillL, setL, Nat.reduceLeDiff, f3]
    refine hK _ _ ?_
    clear hK K
    refine w_ret ?_
    repeat (first | with_reducible refine q_n ?_ | with_reducible refine q_e ?_ | with_reducible refine q_r ?_ | with_reducible refine bq_n ?_ | with_reducible refine bq_e ?_ | with_reducible refine bq_r ?_ | with_reducible refine bq_o rfl ?_)
    refine ret1 (by (try simp only [ev_tmp, ev_const, upd_apply, Nat.reduceBEq, cond_true, cond_false, ]); rfl) ?_
    exact ⟨hE, M, G, hMG, hlt, hrow⟩
end Go.WK
/-
  A table's row: those that are so; without those.
-/
namespace Go.WK
open Go Go.Proofs

/-- A table: p is its block, M its row's block, G the blocks within. -/
structure Tab (M G : Nat → Prop) (H : Hp) (p : Nat) (L : List Hd) (v : Value) : Prop where
  c0 : cell H p 0 = some v
  c1 : cell H p 1 = some (.bool true)
  fz : frz H p 0 = false
  row : RowHd M G H v L
  pM : ¬ M p
  pG : ¬ G p
  dis : ∀ x, M x → ¬ G x
  lt : ∀ x, M x ∨ G x → x < H.size
theorem RowHd.form {M G : Nat → Prop} {H : Hp} {v : Value} {l : List Hd} (h : RowHd M G H v l) : ∃ a c, v = .slice a l.length c ∧ ∀ i (hi : i < l.length), ∃ b, a = some ⟨b, 0, none⟩ ∧ ∃ cs, rdn H b (i * 7) 7 = some cs ∧ ElHd G H cs l[i] := by
  obtain ⟨css, ⟨_, ⟨rfl, rfl⟩ | ⟨b, c, rfl, h1, h2, h3, h4, h5⟩⟩, hl, hel⟩ := h
  · refine ⟨none, 0, by rw [← hl]; rfl, fun i hi => ?_⟩
    rw [← hl] at hi
    simp at hi
  · exact ⟨_, c, by rw [hl], fun i hi => ⟨b, rfl, css[i], h5 i (by omega), hel i (by omega) hi⟩⟩
/-- A function value answers q at holds, whatever has been changed in M's blocks. -/
def FnR (P : Program) (M G : Nat → Prop) (H : Hp) (v : Value) (q : Hd → Bool) : Prop :=
  ∃ f first cap, v = .func (.func f) first cap ∧ ∀ H', KeepOn (fun x => ¬ M x) H H' → ∀ cs a, ElHd G H' cs a → Cl P f (first.toList ++ [.agg cs.toArray] ++ cap.toList) H' fun r H'' => r = .bool (q a) ∧ Ext H' H''
theorem FnR.on {P : Program} {M G : Nat → Prop} {H : Hp} {v : Value} {q : Hd → Bool} (h : FnR P M G H v q) (L : List Hd) : FnOn P H (ElHd G H) v q L := by
  obtain ⟨f, first, cap, e, h⟩ := h
  exact ⟨f, first, cap, e, fun H' hE a _ cs he => h H' (hE.on _) cs a (he.ext hE)⟩
theorem Fresh.pre {A B C : Hp} {v : Value} {l : List Hd} (h : Fresh B v l C) (hE : Ext A B) : Fresh A v l C := by
  obtain ⟨h1, M, G, h2, h3, h4⟩ := h
  exact ⟨hE.trans h1, M, G, h2, fun x hx => ⟨Nat.le_trans hE.size (h3 x hx).1, (h3 x hx).2⟩, h4⟩
theorem Sm.filter {l : List Hd} (h : Sm l) (q : Hd → Bool) : Sm (l.filter q) := ⟨Nat.le_trans (List.length_filter_le _ _) h.1, fun x hx => h.2 x (List.mem_filter.1 hx).1⟩

theorem those_cl {M G : Nat → Prop} {H : Hp} {p : Nat} {L : List Hd} {v fv : Value} {q : Hd → Bool} (hT : Tab M G H p L v) (hs : Sm L) (hf : FnOn Tryz.prog H (ElHd G H) fv q L) : Cl Tryz.prog 49 [.pointer (some ⟨p, 0, none⟩), fv] H fun r H' => Fresh H r (L.filter q) H' := by
  refine cl_of mixed c_holds_row_those (Nat.le_of_ble_eq_true rfl) ?_
  simp only [fwp, ir_holds_row_those, argF, Nat.reduceAdd]
  obtain ⟨g, first, cap, rfl, hf⟩ := hf
  obtain ⟨a, c, rfl, hel⟩ := hT.row.form
  have hc0 := hT.c0
  have hs1 := hs.1
  refine w_reg fun K hK => ?_
  simp (disch := omega) only [↓wD, wU, Nat.reduceBEq, reduceCtorEq, Int.reduceEq, Int.reduceLT, Int.reduceLE, Int.reduceNeg, Value.cells, Value.oneCell', Nat.reduceAdd, Nat.reduceEqDiff, fillL, setL, Nat.reduceLeDiff, ]
  refine hK _ _ ?_
  clear hK K
  refine w_reg fun K hK => ?_
  simp (disch := omega) only [↓wD, wU, Nat.reduceBEq, reduceCtorEq, Int.reduceEq, Int.reduceLT, Int.reduceLE, Int.reduceNeg, Value.cells, Value.oneCell', Nat.reduceAdd, Nat.reduceEqDiff, fillL, setL, Nat.reduceLeDiff, ]
  refine hK _ _ ?_
  clear hK K
  refine w_seq (w_seq ?_)
  refine w_reg fun K hK => ?_
  simp (disch := omega) only [↓wD, wU, Nat.reduceBEq, reduceCtorEq, Int.reduceEq, Int.reduceLT, Int.reduceLE, Int.reduceNeg, Value.cells, Value.oneCell', Nat.reduceAdd, Nat.reduceEqDiff, fillL, setL, Nat.reduceLeDiff, hc0]
  refine hK _ _ ?_
  clear hK K
  refine w_blk (w_loop (fun n f H' => Ext H H' ∧ f 1 = .func (.func g) first cap ∧ f 11 = .slice a L.length c ∧ f 12 = .int .i64 L.length ∧ ∃ (i : Nat) (vo : Value), f 13 = .int .i64 i ∧ i ≤ L.length ∧ f 5 = vo ∧ (∃ Mo : Nat → Prop, (∀ x, Mo x → H.size ≤ x ∧ x < H'.size) ∧ RowHd Mo G H' vo ((L.take i).filter q)) ∧ n = L.length - i) _ ⟨Ext.refl _, (by simp only [ev_tmp, ev_const, upd_apply, Nat.reduceBEq, cond_true, cond_false, ]), (by simp only [ev_tmp, ev_const, upd_apply, Nat.reduceBEq, cond_true, cond_false, ]), (by simp only [ev_tmp, ev_const, upd_apply, Nat.reduceBEq, cond_true, cond_false, ]), 0, _, rfl, Nat.zero_le _, rfl, ⟨fun _ => False, by simp, RowHd.nil⟩, rfl⟩ ?_)
  rintro n f H' ⟨hE, f1, f11, f12, i, vo, f13, hi, f5, ⟨Mo, hMo, hrow⟩, rfl⟩
  by_cases hil : i < L.length
  · obtain ⟨b, rfl, cs, hcs, he⟩ := hel i hil
    have hcs' := rdn_ext hE hcs
    have hl7 := he.len
    have htake : L.take (i + 1) = L.take i ++ [L[i]] := by
      rw [List.take_add_one, List.getElem?_eq_getElem hil]; rfl
    have he' := he
    obtain ⟨va, vr, rfl, ha, hr, hnm, hsk, hsv⟩ := he'
    obtain ⟨xa, ca, rfl, hca, -⟩ := ha.form
    obtain ⟨xr, cr, rfl, hcr, -⟩ := hr.form
    refine w_reg fun K hK => ?_
    simp (disch := omega) only [↓wD, wU, Nat.reduceBEq, reduceCtorEq, Int.reduceEq, Int.reduceLT, Int.reduceLE, Int.reduceNeg, Value.cells, Value.oneCell', Nat.reduceAdd, Nat.reduceEqDiff, fillL, setL, Nat.reduceLeDiff, f12, f13, hil]
    refine hK _ _ ?_
    clear hK K
    refine w_seq ?_
    refine w_true (by simp only [ev_tmp, ev_const, upd_apply, Nat.reduceBEq, cond_true, cond_false, Bool.not_true, Bool.not_false, ]) ?_
    refine w_skip ?_
    repeat (first | with_reducible refine q_n ?_ | with_reducible refine q_e ?_ | with_reducible refine q_r ?_ | with_reducible refine bq_n ?_ | with_reducible refine bq_e ?_ | with_reducible refine bq_r ?_ | with_reducible refine bq_o rfl ?_)
    refine w_seq (w_blk ?_)
    refine w_reg fun K hK => ?_
    simp (disch := omega) only [↓wD, wU, Nat.reduceBEq, reduceCtorEq, Int.reduceEq, Int.reduceLT, Int.reduceLE, Int.reduceNeg, Value.cells, Value.oneCell', Nat.reduceAdd, Nat.reduceEqDiff, fillL, setL, Nat.reduceLeDiff, f11, f13, hil, hcs']
    refine hK _ _ ?_
    clear hK K
    generalize hH0 : H'.push (.cells #[.string L[i].key, .int .i64 L[i].name.client, .int .i64 L[i].name.num, .slice xa L[i].acts.length ca, .slice xr L[i].reads.length cr, .bool L[i].put, .string L[i].value] 35) = H0
    have hE0 : Ext H' H0 := by subst hH0; exact (Ext.refl _).push _
    have hr0 : rdn H0 H'.size 0 7 = some [.string L[i].key, .int .i64 L[i].name.client, .int .i64 L[i].name.num, .slice xa L[i].acts.length ca, .slice xr L[i].reads.length cr, .bool L[i].put, .string L[i].value] := by subst hH0; exact rdn_new H' _ 35 0 7 (Nat.le_refl _)
    have hlt0 := cell_lt (rdn7 hr0).1
    clear hH0
    refine w_reg fun K hK => ?_
    simp (disch := omega) only [↓wD, wU, Nat.reduceBEq, reduceCtorEq, Int.reduceEq, Int.reduceLT, Int.reduceLE, Int.reduceNeg, Value.cells, Value.oneCell', Nat.reduceAdd, Nat.reduceEqDiff, fillL, setL, Nat.reduceLeDiff, f1, hr0]
    refine w_call (hf _ (hE.trans hE0) _ (List.getElem_mem hil) _ he) ?_
    rintro _ H1 ⟨rfl, hE1⟩
    simp (disch := omega) only [↓wD, wU, Nat.reduceBEq, reduceCtorEq, Int.reduceEq, Int.reduceLT, Int.reduceLE, Int.reduceNeg, Value.cells, Value.oneCell', Nat.reduceAdd, Nat.reduceEqDiff, fillL, setL, Nat.reduceLeDiff, ]
    refine hK _ _ ?_
    clear hK K
    have hr1 := rdn_ext hE1 hr0
    obtain ⟨xo, no, co, evo⟩ : ∃ a n c, vo = .slice a n c := by
      obtain ⟨css, ⟨_, ⟨e, _⟩ | ⟨b, c, e, _⟩⟩, _⟩ := hrow
      · exact ⟨_, _, _, e⟩
      · exact ⟨_, _, _, e⟩
    have evo' := f5.trans evo
    cases hq : q L[i] with
    | true =>
      refine w_true (by simp only [ev_tmp, ev_const, upd_apply, Nat.reduceBEq, cond_true, cond_false, Bool.not_true, Bool.not_false, hq]) ?_
      refine w_reg1 fun K hK => ?_
      simp (disch := omega) only [↓wD, wU, Nat.reduceBEq, reduceCtorEq, Int.reduceEq, Int.reduceLT, Int.reduceLE, Int.reduceNeg, Value.cells, Value.oneCell', Nat.reduceAdd, Nat.reduceEqDiff, fillL, setL, Nat.reduceLeDiff, evo', hr1, as_1]
      have hEB : Ext H' (H1.push (.cells #[.string L[i].key, .int .i64 L[i].name.client, .int .i64 L[i].name.num, .slice xa L[i].acts.length ca, .slice xr L[i].reads.length cr, .bool L[i].put, .string L[i].value] 35)) := (hE0.trans hE1).push _
      refine app1 (G2 := G) (h := L[i]) hrow (fun x hx hg => ?_) (fun x hx => ?_) hEB (he.ext (hE.trans hEB)) (fun x hg hx => ?_) ?_ ?_ evo
      · have := (hMo x hx).1; have := hT.lt x (.inr hg); omega
      · rcases hx with hx | hx
        · exact (hMo x hx).2
        · exact Nat.lt_of_lt_of_le (hT.lt x (.inr hx)) hE.size
      · have := (hMo x hx).1; have := hT.lt x (.inr hg); omega
      · refine Nat.le_trans (List.length_filter_le _ _) ?_
        rw [List.length_take]; omega
      · intro v' H4 hrow' hkeep
        simp only [Array.size_push] at hrow'
        have hs4 := hkeep.1
        simp only [Array.size_push] at hs4
        simp (disch := omega) only [↓wD, wU, Nat.reduceBEq, reduceCtorEq, Int.reduceEq, Int.reduceLT, Int.reduceLE, Int.reduceNeg, Value.cells, Value.oneCell', Nat.reduceAdd, Nat.reduceEqDiff, fillL, setL, Nat.reduceLeDiff, ]
        refine hK _ _ ?_
        clear hK K
        repeat (first | with_reducible refine q_n ?_ | with_reducible refine q_e ?_ | with_reducible refine q_r ?_ | with_reducible refine bq_n ?_ | with_reducible refine bq_e ?_ | with_reducible refine bq_r ?_ | with_reducible refine bq_o rfl ?_)
        refine w_reg1 fun K hK => ?_
        simp (disch := omega) only [↓wD, wU, Nat.reduceBEq, reduceCtorEq, Int.reduceEq, Int.reduceLT, Int.reduceLE, Int.reduceNeg, Value.cells, Value.oneCell', Nat.reduceAdd, Nat.reduceEqDiff, fillL, setL, Nat.reduceLeDiff, f13]
        refine hK _ _ ?_
        clear hK K
        repeat (first | with_reducible refine q_n ?_ | with_reducible refine q_e ?_ | with_reducible refine q_r ?_ | with_reducible refine bq_n ?_ | with_reducible refine bq_e ?_ | with_reducible refine bq_r ?_ | with_reducible refine bq_o rfl ?_)
        have hz1 := hE1.size
        refine ⟨L.length - (i + 1), by omega, ⟨by have := hE.size; omega, fun b hb => ?_⟩, (by simp only [ev_tmp, ev_const, upd_apply, Nat.reduceBEq, cond_true, cond_false, f1]), (by simp only [ev_tmp, ev_const, upd_apply, Nat.reduceBEq, cond_true, cond_false, f11]), (by simp only [ev_tmp, ev_const, upd_apply, Nat.reduceBEq, cond_true, cond_false, f12]), i + 1, v', (by simp only [ev_tmp, ev_const, upd_apply, Nat.reduceBEq, cond_true, cond_false, ]), by omega, (by simp only [ev_tmp, ev_const, upd_apply, Nat.reduceBEq, cond_true, cond_false, ]), ⟨_, ?_, by rw [htake, List.filter_append]; simp only [List.filter_cons, hq, if_true, List.filter_nil]; exact hrow'.mono (fun _ h => h) (fun b hb => hb.elim id id) (Nat.le_refl _) fun _ _ _ => rfl⟩, rfl⟩
        · have := hE.size
          rw [hkeep.2 b (by simp only [Array.size_push]; omega) (fun hM => by have := (hMo b hM).1; omega), hEB.2 b (by omega), hE.2 b hb]
        · have := hE.size
          rintro x ⟨hx | hx, hx2⟩
          · exact ⟨(hMo x hx).1, hx2⟩
          · exact ⟨by omega, hx2⟩
    | false =>
      refine w_false (by simp only [ev_tmp, ev_const, upd_apply, Nat.reduceBEq, cond_true, cond_false, Bool.not_true, Bool.not_false, hq]) ?_
      refine w_skip ?_
      repeat (first | with_reducible refine q_n ?_ | with_reducible refine q_e ?_ | with_reducible refine q_r ?_ | with_reducible refine bq_n ?_ | with_reducible refine bq_e ?_ | with_reducible refine bq_r ?_ | with_reducible refine bq_o rfl ?_)
      refine w_reg1 fun K hK => ?_
      simp (disch := omega) only [↓wD, wU, Nat.reduceBEq, reduceCtorEq, Int.reduceEq, Int.reduceLT, Int.reduceLE, Int.reduceNeg, Value.cells, Value.oneCell', Nat.reduceAdd, Nat.reduceEqDiff, fillL, setL, Nat.reduceLeDiff, f13]
      refine hK _ _ ?_
      clear hK K
      repeat (first | with_reducible refine q_n ?_ | with_reducible refine q_e ?_ | with_reducible refine q_r ?_ | with_reducible refine bq_n ?_ | with_reducible refine bq_e ?_ | with_reducible refine bq_r ?_ | with_reducible refine bq_o rfl ?_)
      have hEB := hE0.trans hE1
      refine ⟨L.length - (i + 1), by omega, hE.trans hEB, (by simp only [ev_tmp, ev_const, upd_apply, Nat.reduceBEq, cond_true, cond_false, f1]), (by simp only [ev_tmp, ev_const, upd_apply, Nat.reduceBEq, cond_true, cond_false, f11]), (by simp only [ev_tmp, ev_const, upd_apply, Nat.reduceBEq, cond_true, cond_false, f12]), i + 1, vo, (by simp only [ev_tmp, ev_const, upd_apply, Nat.reduceBEq, cond_true, cond_false, ]), by omega, (by simp only [ev_tmp, ev_const, upd_apply, Nat.reduceBEq, cond_true, cond_false, f5]), ⟨Mo, fun x hx => ⟨(hMo x hx).1, Nat.lt_of_lt_of_le (hMo x hx).2 hEB.size⟩, ?_⟩, rfl⟩
      rw [htake, List.filter_append]
      simp only [List.filter_cons, hq, Bool.false_eq_true, if_false, List.filter_nil, List.append_nil]
      exact hrow.mono (fun _ h => h) (fun _ h => h) hEB.size fun b _ hb => hEB.2 b hb
  · refine w_reg fun K hK => ?_
    simp (disch := omega) only [↓wD, wU, Nat.reduceBEq, reduceCtorEq, Int.reduceEq, Int.reduceLT, Int.reduceLE, Int.reduceNeg, Value.cells, Value.oneCell', Nat.reduceAdd, Nat.reduceEqDiff, fillL, setL, Nat.reduceLeDiff, f12, f13, hil]
    refine hK _ _ ?_
    clear hK K
    refine w_seq ?_
    refine w_false (by simp only [ev_tmp, ev_const, upd_apply, Nat.reduceBEq, cond_true, cond_false, Bool.not_true, Bool.not_false, ]) ?_
    refine w_exit ?_
    repeat (first | with_reducible refine q_n ?_ | with_reducible refine q_e ?_ | with_reducible refine q_r ?_ | with_reducible refine bq_n ?_ | with_reducible refine bq_e ?_ | with_reducible refine bq_r ?_ | with_reducible refine bq_o rfl ?_)
    have : L.take i = L := List.take_of_length_le (by omega)
    rw [this] at hrow
    refine w_reg fun K hK => ?_
    simp (disch := omega) only [↓wD, wU, Nat.reduceBEq, reduceCtorEq, Int.reduceEq, Int.reduceLT, Int.reduceLE, Int.reduceNeg, Value.cells, Value.oneCell', Nat.reduceAdd, Nat.reduceEqDiff, fillL, setL, Nat.reduceLeDiff, f5]
    have hsf := hs.filter q
    refine w_call (own_cl (hrow.slp (by have := hsf.1; unfold big; omega)) hsf) ?_
    rintro _ H1 hF
    simp (disch := omega) only [↓wD, wU, Nat.reduceBEq, reduceCtorEq, Int.reduceEq, Int.reduceLT, Int.reduceLE, Int.reduceNeg, Value.cells, Value.oneCell', Nat.reduceAdd, Nat.reduceEqDiff, fillL, setL, Nat.reduceLeDiff, ]
    refine hK _ _ ?_
    clear hK K
    refine w_ret ?_
    repeat (first | with_reducible refine q_n ?_ | with_reducible refine q_e ?_ | with_reducible refine q_r ?_ | with_reducible refine bq_n ?_ | with_reducible refine bq_e ?_ | with_reducible refine bq_r ?_ | with_reducible refine bq_o rfl ?_)
    refine ret1 (by (try simp only [ev_tmp, ev_const, upd_apply, Nat.reduceBEq, cond_true, cond_false, ]); rfl) ?_
    exact hF.pre hE
theorem fIdx_any {α : Type} {p : α → Bool} {l : List α} : (fIdx p l = -1 ∧ ∀ x ∈ l, p x = false) ∨ ∃ i : Nat, fIdx p l = i ∧ ∃ hi : i < l.length, p l[i] = true ∧ ∀ j (hj : j < l.length), j < i → p l[j] = false := by
  cases h : l.findIdx? p with
  | none => exact .inl ⟨by simp [fIdx, h], List.findIdx?_eq_none_iff.1 h⟩
  | some i =>
    obtain ⟨hi, hp, hl⟩ := List.findIdx?_eq_some_iff_getElem.1 h
    exact .inr ⟨i, by simp [fIdx, h], hi, hp, fun j hj hji => by simpa using hl j hji⟩
theorem delete_cl {M G : Nat → Prop} {H : Hp} {L : List Hd} {v fv : Value} {q : Hd → Bool} (hrow : RowHd M G H v L) (dis : ∀ x, M x → ¬ G x) (lt : ∀ x, M x ∨ G x → x < H.size) (hL : L.length ≤ 1048576) (hf : FnR Tryz.prog M G H fv q) : Cl Tryz.prog 113 [v, fv] H fun r H' => RowHd M G H' r (L.filter fun h => !q h) ∧ KeepOn (fun x => ¬ M x) H H' := by
  refine cl_of mixed c_slices_DeleteFunc_Hold (Nat.le_of_ble_eq_true rfl) ?_
  simp only [fwp, ir_slices_DeleteFunc_Hold, argF, Nat.reduceAdd]
  have hon := hf.on L
  obtain ⟨g, first, cap, rfl, hf⟩ := hf
  have hslp := hrow.slp (by unfold big; omega)
  have hrow' := hrow
  obtain ⟨css, ⟨hall, hv⟩, hlen, hel⟩ := hrow
  refine w_reg fun K hK => ?_
  simp (disch := omega) only [↓wD, wU, Nat.reduceBEq, reduceCtorEq, Int.reduceEq, Int.reduceLT, Int.reduceLE, Int.reduceNeg, Value.cells, Value.oneCell', Nat.reduceAdd, Nat.reduceEqDiff, fillL, setL, Nat.reduceLeDiff, ]
  refine hK _ _ ?_
  clear hK K
  refine w_reg fun K hK => ?_
  simp (disch := omega) only [↓wD, wU, Nat.reduceBEq, reduceCtorEq, Int.reduceEq, Int.reduceLT, Int.reduceLE, Int.reduceNeg, Value.cells, Value.oneCell', Nat.reduceAdd, Nat.reduceEqDiff, fillL, setL, Nat.reduceLeDiff, ]
  have hslp' : SlP (fun x => M x ∨ G x) H 7 (ElHd G H) v L := by
    refine SlP.mono (H' := H) (Row.slp ⟨hall, hv⟩ hlen (by unfold big; omega) hel) (fun _ h => .inl h) (fun _ _ _ => rfl) fun _ _ _ h => h
  refine w_call (idxHold_cl hslp' hon) ?_
  rintro _ H1 ⟨rfl, hE⟩
  simp (disch := omega) only [↓wD, wU, Nat.reduceBEq, reduceCtorEq, Int.reduceEq, Int.reduceLT, Int.reduceLE, Int.reduceNeg, Value.cells, Value.oneCell', Nat.reduceAdd, Nat.reduceEqDiff, fillL, setL, Nat.reduceLeDiff, ]
  refine hK _ _ ?_
  clear hK K
  refine w_seq (w_seq ?_)
  rcases fIdx_any (p := q) (l := L) with ⟨hm, hno⟩ | ⟨i0, hm, hi0, hp0, hno⟩
  · rw [hm]
    refine w_reg fun K hK => ?_
    simp (disch := omega) only [↓wD, wU, Nat.reduceBEq, reduceCtorEq, Int.reduceEq, Int.reduceLT, Int.reduceLE, Int.reduceNeg, Value.cells, Value.oneCell', Nat.reduceAdd, Nat.reduceEqDiff, fillL, setL, Nat.reduceLeDiff, ]
    refine hK _ _ ?_
    clear hK K
    refine w_true (by simp only [ev_tmp, ev_const, upd_apply, Nat.reduceBEq, cond_true, cond_false, Bool.not_true, Bool.not_false, ]) ?_
    refine w_reg fun K hK => ?_
    simp (disch := omega) only [↓wD, wU, Nat.reduceBEq, reduceCtorEq, Int.reduceEq, Int.reduceLT, Int.reduceLE, Int.reduceNeg, Value.cells, Value.oneCell', Nat.reduceAdd, Nat.reduceEqDiff, fillL, setL, Nat.reduceLeDiff, ]
    refine hK _ _ ?_
    clear hK K
    refine w_ret ?_
    repeat (first | with_reducible refine q_n ?_ | with_reducible refine q_e ?_ | with_reducible refine q_r ?_ | with_reducible refine bq_n ?_ | with_reducible refine bq_e ?_ | with_reducible refine bq_r ?_ | with_reducible refine bq_o rfl ?_)
    refine ret1 (by (try simp only [ev_tmp, ev_const, upd_apply, Nat.reduceBEq, cond_true, cond_false, ]); rfl) ?_
    refine ⟨?_, hE.on _⟩
    have : L.filter (fun h => !q h) = L := List.filter_eq_self.2 fun x hx => by simp [hno x hx]
    rw [this]
    exact hrow'.mono (fun _ h => h) (fun _ h => h) hE.size fun b _ hb => hE.2 b hb
  · rw [hm]
    have hne : ((i0 : Int) = -1) = False := by simp
    refine w_reg fun K hK => ?_
    simp (disch := omega) only [↓wD, wU, Nat.reduceBEq, reduceCtorEq, Int.reduceEq, Int.reduceLT, Int.reduceLE, Int.reduceNeg, Value.cells, Value.oneCell', Nat.reduceAdd, Nat.reduceEqDiff, fillL, setL, Nat.reduceLeDiff, hne]
    refine hK _ _ ?_
    clear hK K
    refine w_false (by simp only [ev_tmp, ev_const, upd_apply, Nat.reduceBEq, cond_true, cond_false, Bool.not_true, Bool.not_false, ]) ?_
    refine w_skip ?_
    repeat (first | with_reducible refine q_n ?_ | with_reducible refine q_e ?_ | with_reducible refine q_r ?_ | with_reducible refine bq_n ?_ | with_reducible refine bq_e ?_ | with_reducible refine bq_r ?_ | with_reducible refine bq_o rfl ?_)
    rcases hv with ⟨rfl, rfl⟩ | ⟨b, c, rfl, hc, hMb, hbs, ⟨hown, hfz⟩, hrd⟩
    · rw [← hlen] at hi0; simp at hi0
    rw [hlen] at hc ⊢
    have hpre : (L.take (i0 + 1)).filter (fun h => !q h) = L.take i0 := by
      have : L.take (i0 + 1) = L.take i0 ++ [L[i0]] := by rw [List.take_add_one, List.getElem?_eq_getElem hi0]; rfl
      rw [this, List.filter_append]
      simp only [List.filter_cons, hp0, Bool.not_true, Bool.false_eq_true, if_false, List.filter_nil, List.append_nil]
      refine List.filter_eq_self.2 fun x hx => ?_
      obtain ⟨j, hj, rfl⟩ := List.getElem_of_mem hx
      rw [List.length_take] at hj
      rw [List.getElem_take]
      simp [hno j (by omega) (by omega)]
    refine w_seq (w_seq ?_)
    refine w_reg fun K hK => ?_
    simp (disch := omega) only [↓wD, wU, Nat.reduceBEq, reduceCtorEq, Int.reduceEq, Int.reduceLT, Int.reduceLE, Int.reduceNeg, Value.cells, Value.oneCell', Nat.reduceAdd, Nat.reduceEqDiff, fillL, setL, Nat.reduceLeDiff, ]
    refine hK _ _ ?_
    clear hK K
    refine w_blk (w_loop (fun n f H' => KeepOn (fun x => ¬ M x) H H' ∧ f 0 = .slice (some ⟨b, 0, none⟩) L.length c ∧ f 1 = .func (.func g) first cap ∧ ∃ (i j : Nat), f 5 = .int .i64 i ∧ f 6 = .int .i64 j ∧ i < j ∧ j ≤ L.length ∧ (Own H' b 0 (c * 7) ∧ ∀ i, frz H' b i = false) ∧ ((L.take j).filter fun h => !q h).length = i ∧ (∃ fl : List (List Value), fl.length = i ∧ (∀ k (hk : k < fl.length), rdn H' b (k * 7) 7 = some fl[k]) ∧ ∀ k (hk : k < fl.length) (hk' : k < ((L.take j).filter fun h => !q h).length), ElHd G H' fl[k] ((L.take j).filter fun h => !q h)[k]) ∧ (∀ k (hk : k < css.length), j ≤ k → rdn H' b (k * 7) 7 = some css[k]) ∧ n = L.length - j) _ ⟨hE.on _, (by simp only [ev_tmp, ev_const, upd_apply, Nat.reduceBEq, cond_true, cond_false, ]), (by simp only [ev_tmp, ev_const, upd_apply, Nat.reduceBEq, cond_true, cond_false, ]), i0, i0 + 1, (by simp only [ev_tmp, ev_const, upd_apply, Nat.reduceBEq, cond_true, cond_false, ]), (by simp only [ev_tmp, ev_const, upd_apply, Nat.reduceBEq, cond_true, cond_false, ]), by omega, by omega, ?_, ?_, ?_, ?_, rfl⟩ ?_)
    · exact ⟨Own_block (hE.2 b hbs) hown, fun i => by rw [frz_block (hE.2 b hbs)]; exact hfz i⟩
    · rw [hpre, List.length_take]; omega
    · refine ⟨css.take i0, by rw [List.length_take]; omega, fun k hk => ?_, fun k hk hk' => ?_⟩
      · rw [List.length_take] at hk
        rw [List.getElem_take]
        exact rdn_ext hE (hrd k (by omega))
      · have hk2 : k < css.length := by rw [List.length_take] at hk; omega
        have e2 : ((L.take (i0 + 1)).filter fun h => !q h)[k] = L[k]'(by omega) := by
          simp only [hpre, List.getElem_take]
        rw [e2, List.getElem_take]
        exact (hel k hk2 (by omega)).ext hE
    · intro k hk _
      exact rdn_ext hE (hrd k hk)
    rintro n f H' ⟨hKe, f0, f1, i, j, f5, f6, hij, hj, ⟨hown', hfz'⟩, hcnt, ⟨fl, hfl, hfr, hfe⟩, hrest, rfl⟩
    refine w_seq (w_seq ?_)
    have hb' : b < H'.size := Nat.lt_of_lt_of_le hbs hKe.1
    by_cases hjl : j < L.length
    · have hjc : j < css.length := by omega
      have hcs := hrest j hjc (Nat.le_refl _)
      have he : ElHd G H' css[j] L[j] := (hel j hjc hjl).mono (fun _ h => h) fun x hx hx' => hKe.2 x hx' fun hm => dis x hm hx
      have htake : L.take (j + 1) = L.take j ++ [L[j]] := by
        rw [List.take_add_one, List.getElem?_eq_getElem hjl]; rfl
      have he' := he
      obtain ⟨va, vr, ecs, ha, hr, hnm, hsk, hsv⟩ := he'
      obtain ⟨xa, ca, rfl, hca, -⟩ := ha.form
      obtain ⟨xr, cr, rfl, hcr, -⟩ := hr.form
      refine w_reg fun K hK => ?_
      simp (disch := omega) only [↓wD, wU, Nat.reduceBEq, reduceCtorEq, Int.reduceEq, Int.reduceLT, Int.reduceLE, Int.reduceNeg, Value.cells, Value.oneCell', Nat.reduceAdd, Nat.reduceEqDiff, fillL, setL, Nat.reduceLeDiff, f0, f6, hjl]
      refine hK _ _ ?_
      clear hK K
      refine w_true (by simp only [ev_tmp, ev_const, upd_apply, Nat.reduceBEq, cond_true, cond_false, Bool.not_true, Bool.not_false, ]) ?_
      refine w_skip ?_
      repeat (first | with_reducible refine q_n ?_ | with_reducible refine q_e ?_ | with_reducible refine q_r ?_ | with_reducible refine bq_n ?_ | with_reducible refine bq_e ?_ | with_reducible refine bq_r ?_ | with_reducible refine bq_o rfl ?_)
      refine w_seq (w_blk ?_)
      have hcs0 := hcs
      rw [ecs] at hcs
      refine w_reg fun K hK => ?_
      simp (disch := omega) only [↓wD, wU, Nat.reduceBEq, reduceCtorEq, Int.reduceEq, Int.reduceLT, Int.reduceLE, Int.reduceNeg, Value.cells, Value.oneCell', Nat.reduceAdd, Nat.reduceEqDiff, fillL, setL, Nat.reduceLeDiff, f0, f6, hjl, hcs]
      refine hK _ _ ?_
      clear hK K
      generalize hH0 : H'.push (.cells #[.string L[j].key, .int .i64 L[j].name.client, .int .i64 L[j].name.num, .slice xa L[j].acts.length ca, .slice xr L[j].reads.length cr, .bool L[j].put, .string L[j].value] 35) = H0
      have hE0 : Ext H' H0 := by subst hH0; exact (Ext.refl _).push _
      have hr0 : rdn H0 H'.size 0 7 = some css[j] := by rw [ecs]; subst hH0; exact rdn_new H' _ 35 0 7 (Nat.le_refl _)
      have hlt0 : H'.size < H0.size := by subst hH0; simp
      clear hH0
      refine w_reg fun K hK => ?_
      rw [ecs] at hr0
      simp (disch := omega) only [↓wD, wU, Nat.reduceBEq, reduceCtorEq, Int.reduceEq, Int.reduceLT, Int.reduceLE, Int.reduceNeg, Value.cells, Value.oneCell', Nat.reduceAdd, Nat.reduceEqDiff, fillL, setL, Nat.reduceLeDiff, f1, hr0]
      rw [← ecs]
      refine w_call (hf _ (hKe.trans (hE0.on _)) _ _ (he.ext hE0)) ?_
      rintro _ H1 ⟨rfl, hE1⟩
      simp (disch := omega) only [↓wD, wU, Nat.reduceBEq, reduceCtorEq, Int.reduceEq, Int.reduceLT, Int.reduceLE, Int.reduceNeg, Value.cells, Value.oneCell', Nat.reduceAdd, Nat.reduceEqDiff, fillL, setL, Nat.reduceLeDiff, ]
      refine hK _ _ ?_
      clear hK K
      have hr1 := rdn_ext hE1 hr0
      have hE01 := hE0.trans hE1
      cases hq : q L[j] with
      | true =>
        refine w_false (by simp only [ev_tmp, ev_const, upd_apply, Nat.reduceBEq, cond_true, cond_false, Bool.not_true, Bool.not_false, hq]) ?_
        refine w_skip ?_
        repeat (first | with_reducible refine q_n ?_ | with_reducible refine q_e ?_ | with_reducible refine q_r ?_ | with_reducible refine bq_n ?_ | with_reducible refine bq_e ?_ | with_reducible refine bq_r ?_ | with_reducible refine bq_o rfl ?_)
        refine w_reg1 fun K hK => ?_
        simp (disch := omega) only [↓wD, wU, Nat.reduceBEq, reduceCtorEq, Int.reduceEq, Int.reduceLT, Int.reduceLE, Int.reduceNeg, Value.cells, Value.oneCell', Nat.reduceAdd, Nat.reduceEqDiff, fillL, setL, Nat.reduceLeDiff, f6]
        refine hK _ _ ?_
        clear hK K
        repeat (first | with_reducible refine q_n ?_ | with_reducible refine q_e ?_ | with_reducible refine q_r ?_ | with_reducible refine bq_n ?_ | with_reducible refine bq_e ?_ | with_reducible refine bq_r ?_ | with_reducible refine bq_o rfl ?_)
        have hsame : (L.take (j + 1)).filter (fun h => !q h) = (L.take j).filter fun h => !q h := by
          rw [htake, List.filter_append]
          simp [hq]
        refine ⟨L.length - (j + 1), by omega, hKe.trans (hE01.on _), (by simp only [ev_tmp, ev_const, upd_apply, Nat.reduceBEq, cond_true, cond_false, f0]), (by simp only [ev_tmp, ev_const, upd_apply, Nat.reduceBEq, cond_true, cond_false, f1]), i, j + 1, (by simp only [ev_tmp, ev_const, upd_apply, Nat.reduceBEq, cond_true, cond_false, f5]), (by simp only [ev_tmp, ev_const, upd_apply, Nat.reduceBEq, cond_true, cond_false, ]), by omega, by omega, ⟨Own_block (hE01.2 b hb') hown', fun i => by rw [frz_block (hE01.2 b hb')]; exact hfz' i⟩, by rw [hsame]; exact hcnt, ⟨fl, hfl, fun k hk => rdn_ext hE01 (hfr k hk), fun k hk hk' => ?_⟩, fun k hk hk' => rdn_ext hE01 (hrest k hk (by omega)), rfl⟩
        simp only [hsame] at hk' ⊢
        exact (hfe k hk hk').ext hE01
      | false =>
        refine w_true (by simp only [ev_tmp, ev_const, upd_apply, Nat.reduceBEq, cond_true, cond_false, Bool.not_true, Bool.not_false, hq]) ?_
        have hil : i < L.length := by omega
        have hiL : (i < L.length) = True := eq_true hil
        have h7 : css[j].length = 7 := he.len
        have hic : i * 7 + 7 ≤ c * 7 := by omega
        obtain ⟨H2, hw, hW⟩ := wrn_ok (H := H1) (b := b) (o := i * 7) (l := css[j]) ((Own_block (hE01.2 b hb') hown').sub (Nat.zero_le _) (by omega)) he.one
        rw [ecs] at hw
        refine w_seq ?_
        refine w_reg fun K hK => ?_
        simp (disch := omega) only [↓wD, wU, Nat.reduceBEq, reduceCtorEq, Int.reduceEq, Int.reduceLT, Int.reduceLE, Int.reduceNeg, Value.cells, Value.oneCell', Nat.reduceAdd, Nat.reduceEqDiff, fillL, setL, Nat.reduceLeDiff, f0, f5, hr1, hiL, hw]
        refine hK _ _ ?_
        clear hK K
        refine w_reg1 fun K hK => ?_
        simp (disch := omega) only [↓wD, wU, Nat.reduceBEq, reduceCtorEq, Int.reduceEq, Int.reduceLT, Int.reduceLE, Int.reduceNeg, Value.cells, Value.oneCell', Nat.reduceAdd, Nat.reduceEqDiff, fillL, setL, Nat.reduceLeDiff, f5]
        refine hK _ _ ?_
        clear hK K
        repeat (first | with_reducible refine q_n ?_ | with_reducible refine q_e ?_ | with_reducible refine q_r ?_ | with_reducible refine bq_n ?_ | with_reducible refine bq_e ?_ | with_reducible refine bq_r ?_ | with_reducible refine bq_o rfl ?_)
        refine w_reg1 fun K hK => ?_
        simp (disch := omega) only [↓wD, wU, Nat.reduceBEq, reduceCtorEq, Int.reduceEq, Int.reduceLT, Int.reduceLE, Int.reduceNeg, Value.cells, Value.oneCell', Nat.reduceAdd, Nat.reduceEqDiff, fillL, setL, Nat.reduceLeDiff, f6]
        refine hK _ _ ?_
        clear hK K
        repeat (first | with_reducible refine q_n ?_ | with_reducible refine q_e ?_ | with_reducible refine q_r ?_ | with_reducible refine bq_n ?_ | with_reducible refine bq_e ?_ | with_reducible refine bq_r ?_ | with_reducible refine bq_o rfl ?_)
        have hsame : (L.take (j + 1)).filter (fun h => !q h) = ((L.take j).filter fun h => !q h) ++ [L[j]] := by
          rw [htake, List.filter_append]
          simp [hq]
        have hE2 : ∀ x, ¬ M x → x < H1.size → H2[x]? = H1[x]? := fun x hx _ => hW.other x (fun e => hx (e ▸ hMb))
        refine ⟨L.length - (j + 1), by omega, (hKe.trans (hE01.on _)).trans (hW.keep fun hn => hn hMb), (by simp only [ev_tmp, ev_const, upd_apply, Nat.reduceBEq, cond_true, cond_false, f0]), (by simp only [ev_tmp, ev_const, upd_apply, Nat.reduceBEq, cond_true, cond_false, f1]), i + 1, j + 1, (by simp only [ev_tmp, ev_const, upd_apply, Nat.reduceBEq, cond_true, cond_false, ]), (by simp only [ev_tmp, ev_const, upd_apply, Nat.reduceBEq, cond_true, cond_false, ]), by omega, by omega, ⟨hW.own (Own_block (hE01.2 b hb') hown'), fun i => by rw [hW.frz, frz_block (hE01.2 b hb')]; exact hfz' i⟩, by rw [hsame]; simp [hcnt], ⟨fl ++ [css[j]], by simp [hfl], fun k hk => ?_, fun k hk hk' => ?_⟩, fun k hk hk' => ?_, rfl⟩
        · by_cases hki : k < fl.length
          · rw [List.getElem_append_left hki]
            exact hW.rdn_off (.inl (by omega)) (rdn_ext hE01 (hfr k hki))
          · have hk2 : k = i := by simp at hk; omega
            have e1 : (fl ++ [css[j]])[k]'hk = css[j] := by
              subst hk2; simp [← hfl]
            rw [e1, hk2]
            have := hW.rdn_at
            rwa [h7] at this
        · have mono : ∀ {cs h}, ElHd G H' cs h → ElHd G H2 cs h := fun h => (h.ext hE01).mono (fun _ h => h) fun x hx hx' => hE2 x (fun hm => dis x hm hx) hx'
          by_cases hki : k < fl.length
          · simp only [hsame]
            rw [List.getElem_append_left hki, List.getElem_append_left (by omega)]
            exact mono (hfe k hki (by omega))
          · have hk2 : k = i := by simp at hk; omega
            have e1 : (fl ++ [css[j]])[k]'hk = css[j] := by
              subst hk2; simp [← hfl]
            have e2 : ((L.take (j + 1)).filter fun h => !q h)[k] = L[j] := by
              simp only [hsame]
              rw [List.getElem_append_right (by omega)]
              simp
            rw [e1, e2]
            exact mono he
        · exact hW.rdn_off (.inr (by rw [h7]; omega)) (rdn_ext hE01 (hrest k hk (by omega)))
    · refine w_reg fun K hK => ?_
      simp (disch := omega) only [↓wD, wU, Nat.reduceBEq, reduceCtorEq, Int.reduceEq, Int.reduceLT, Int.reduceLE, Int.reduceNeg, Value.cells, Value.oneCell', Nat.reduceAdd, Nat.reduceEqDiff, fillL, setL, Nat.reduceLeDiff, f0, f6, hjl]
      refine hK _ _ ?_
      clear hK K
      refine w_false (by simp only [ev_tmp, ev_const, upd_apply, Nat.reduceBEq, cond_true, cond_false, Bool.not_true, Bool.not_false, ]) ?_
      refine w_exit ?_
      repeat (first | with_reducible refine q_n ?_ | with_reducible refine q_e ?_ | with_reducible refine q_r ?_ | with_reducible refine bq_n ?_ | with_reducible refine bq_e ?_ | with_reducible refine bq_r ?_ | with_reducible refine bq_o rfl ?_)
      have hjL : j = L.length := by omega
      have hfull : L.take j = L := List.take_of_length_le (by omega)
      have hci : (c = i) = False := by simp; omega
      have hc0 : (c = 0) = False := by simp; omega
      have hbd1 : bounds3 L.length c (some (.int .i64 (i : Int))) none none = some (i, L.length, c) := b3_10 (by rw [bd_ok (by omega) (by omega)]; simp)
      have hbd2 : bounds3 L.length c none (some (.int .i64 (i : Int))) none = some (0, i, c) := b3_01 (by rw [bd_ok (by omega) (by omega)]; simp)
      obtain ⟨H2, hw, hW⟩ := wrn_ok (H := H') (b := b) (o := i * 7) (l := zerosL zHold (L.length - i)) (hown'.sub (Nat.zero_le _) (by rw [zerosL_len]; simp; omega)) (zHold_one _)
      refine w_reg fun K hK => ?_
      simp (disch := omega) only [↓wD, wU, Nat.reduceBEq, reduceCtorEq, Int.reduceEq, Int.reduceLT, Int.reduceLE, Int.reduceNeg, Value.cells, Value.oneCell', Nat.reduceAdd, Nat.reduceEqDiff, fillL, setL, Nat.reduceLeDiff, f0, f5, hbd1, hci, i_clr, hw]
      refine hK _ _ ?_
      clear hK K
      refine w_reg fun K hK => ?_
      simp (disch := omega) only [↓wD, wU, Nat.reduceBEq, reduceCtorEq, Int.reduceEq, Int.reduceLT, Int.reduceLE, Int.reduceNeg, Value.cells, Value.oneCell', Nat.reduceAdd, Nat.reduceEqDiff, fillL, setL, Nat.reduceLeDiff, f0, f5, hbd2, hc0, Nat.sub_zero, Nat.zero_mul]
      refine hK _ _ ?_
      clear hK K
      refine w_ret ?_
      repeat (first | with_reducible refine q_n ?_ | with_reducible refine q_e ?_ | with_reducible refine q_r ?_ | with_reducible refine bq_n ?_ | with_reducible refine bq_e ?_ | with_reducible refine bq_r ?_ | with_reducible refine bq_o rfl ?_)
      refine ret1 (by (try simp only [ev_tmp, ev_const, upd_apply, Nat.reduceBEq, cond_true, cond_false, ]); rfl) ?_
      rw [hfull] at hcnt hfe
      refine ⟨⟨fl, ⟨fun cs hcs => ?_, .inr ⟨b, c, by simp [hfl], by omega, hMb, by rw [hW.size]; exact hb', ⟨hW.own hown', fun i => by rw [hW.frz]; exact hfz' i⟩, fun k hk => ?_⟩⟩, by omega, fun k hk hk' => ?_⟩, hKe.trans (hW.keep fun hn => hn hMb)⟩
      · obtain ⟨k, hk, rfl⟩ := List.getElem_of_mem hcs
        have := hfe k hk (by omega)
        exact ⟨this.len, this.one⟩
      · exact hW.rdn_off (.inl (by omega)) (hfr k hk)
      · exact (hfe k hk hk').mono (fun _ h => h) fun x hx hx' => hW.other x (fun e => dis x (e ▸ hMb) hx)
end Go.WK
/-
  Taking away; what functions ask.
-/
namespace Go.WK
open Go Go.Proofs

theorem FreshIn.keep {n : Nat} {A B : Hp} {v : Value} {l : List Hd} {K : Nat → Prop} (h : FreshIn n A v l) (hk : KeepOn K A B) (hK : ∀ x, n ≤ x → K x) : FreshIn n B v l := by
  obtain ⟨M, G, h1, h2, h3⟩ := h
  exact ⟨M, G, h1, fun x hx => ⟨(h2 x hx).1, Nat.lt_of_lt_of_le (h2 x hx).2 hk.1⟩, h3.mono (fun _ h => h) (fun _ h => h) hk.1 fun b hb hb' => hk.2 b hb' (hK b (h2 b hb).1)⟩
theorem RowHd.one {M G : Nat → Prop} {H : Hp} {v : Value} {l : List Hd} (h : RowHd M G H v l) : v.oneCell' = true ∧ v.cells = #[v] := by
  obtain ⟨css, ⟨_, ⟨rfl, _⟩ | ⟨b, c, rfl, _⟩⟩, _⟩ := h <;> exact ⟨rfl, rfl⟩
theorem less_cl {M G : Nat → Prop} {H : Hp} {p : Nat} {L : List Hd} {v fv : Value} {q : Hd → Bool} (hT : Tab M G H p L v) (hs : Sm L) (hf : FnR Tryz.prog M G H fv q) : Cl Tryz.prog 56 [.pointer (some ⟨p, 0, none⟩), fv] H fun r H' => FreshIn H.size H' r (L.filter q) ∧ KeepOn (fun x => ¬ M x ∧ x ≠ p) H H' ∧ ∃ v', Tab M G H' p (L.filter fun h => !q h) v' := by
  refine cl_of mixed c_holds_row_less (Nat.le_of_ble_eq_true rfl) ?_
  simp only [fwp, ir_holds_row_less, argF, Nat.reduceAdd]
  have hon := hf.on L
  have hp := cell_lt hT.c0
  refine w_reg fun K hK => ?_
  simp (disch := omega) only [↓wD, wU, Nat.reduceBEq, reduceCtorEq, Int.reduceEq, Int.reduceLT, Int.reduceLE, Int.reduceNeg, Value.cells, Value.oneCell', Nat.reduceAdd, Nat.reduceEqDiff, fillL, setL, Nat.reduceLeDiff, ]
  refine hK _ _ ?_
  clear hK K
  refine w_reg fun K hK => ?_
  simp (disch := omega) only [↓wD, wU, Nat.reduceBEq, reduceCtorEq, Int.reduceEq, Int.reduceLT, Int.reduceLE, Int.reduceNeg, Value.cells, Value.oneCell', Nat.reduceAdd, Nat.reduceEqDiff, fillL, setL, Nat.reduceLeDiff, ]
  refine w_call (those_cl hT hs hon) ?_
  rintro _ H1 ⟨hE, hF⟩
  simp (disch := omega) only [↓wD, wU, Nat.reduceBEq, reduceCtorEq, Int.reduceEq, Int.reduceLT, Int.reduceLE, Int.reduceNeg, Value.cells, Value.oneCell', Nat.reduceAdd, Nat.reduceEqDiff, fillL, setL, Nat.reduceLeDiff, ]
  refine hK _ _ ?_
  clear hK K
  have c0 := (hE.cell p 0 hp).trans hT.c0
  have c1 := (hE.cell p 1 hp).trans hT.c1
  have hrow1 := hT.row.mono (M' := M) (G' := G) (fun _ h => h) (fun _ h => h) hE.size fun b _ hb => hE.2 b hb
  have hp1 := Nat.lt_of_lt_of_le hp hE.size
  refine w_reg fun K hK => ?_
  simp (disch := omega) only [↓wD, wU, Nat.reduceBEq, reduceCtorEq, Int.reduceEq, Int.reduceLT, Int.reduceLE, Int.reduceNeg, Value.cells, Value.oneCell', Nat.reduceAdd, Nat.reduceEqDiff, fillL, setL, Nat.reduceLeDiff, c0]
  have hf1 : FnR Tryz.prog M G H1 fv q := by
    obtain ⟨g, first, cap, e, h⟩ := hf
    exact ⟨g, first, cap, e, fun H' hk cs a he => h H' ((hE.on _).trans hk) cs a he⟩
  refine w_call (delete_cl hrow1 hT.dis (fun x hx => Nat.lt_of_lt_of_le (hT.lt x hx) hE.size) hs.1 hf1) ?_
  rintro _ H2 ⟨hrow2, hk2⟩
  have d0 : cell H2 p 0 = some v := (cell_block (hk2.2 p hp1 hT.pM) 0).trans c0
  have d1 : cell H2 p 1 = some (.bool true) := (cell_block (hk2.2 p hp1 hT.pM) 1).trans c1
  have dz : frz H2 p 0 = false := by rw [frz_block (hk2.2 p hp1 hT.pM), frz_block (hE.2 p hp)]; exact hT.fz
  rename_i r2
  obtain ⟨ra, rn, rc, er2⟩ : ∃ a n c, r2 = .slice a n c := by obtain ⟨a, c, e, _⟩ := hrow2.form; exact ⟨a, _, c, e⟩
  have hp2 := Nat.lt_of_lt_of_le hp1 hk2.1
  rw [er2]
  simp (disch := omega) only [↓wD, wU, Nat.reduceBEq, reduceCtorEq, Int.reduceEq, Int.reduceLT, Int.reduceLE, Int.reduceNeg, Value.cells, Value.oneCell', Nat.reduceAdd, Nat.reduceEqDiff, fillL, setL, Nat.reduceLeDiff, d0, dz]
  rw [← er2]
  refine hK _ _ ?_
  clear hK K
  refine w_reg fun K hK => ?_
  simp (disch := omega) only [↓wD, wU, Nat.reduceBEq, reduceCtorEq, Int.reduceEq, Int.reduceLT, Int.reduceLE, Int.reduceNeg, Value.cells, Value.oneCell', Nat.reduceAdd, Nat.reduceEqDiff, fillL, setL, Nat.reduceLeDiff, ]
  refine hK _ _ ?_
  clear hK K
  refine w_ret ?_
  repeat (first | with_reducible refine q_n ?_ | with_reducible refine q_e ?_ | with_reducible refine q_r ?_ | with_reducible refine bq_n ?_ | with_reducible refine bq_e ?_ | with_reducible refine bq_r ?_ | with_reducible refine bq_o rfl ?_)
  refine ret1 (by (try simp only [ev_tmp, ev_const, upd_apply, Nat.reduceBEq, cond_true, cond_false, ]); rfl) ?_
  have hW : KeepOn (fun x => x ≠ p) H2 (putc H2 p 0 r2) := ⟨by rw [putc_size]; exact Nat.le_refl _, fun b _ hb => putc_ne hb⟩
  have hkA : KeepOn (fun x => ¬ M x ∧ x ≠ p) H1 (putc H2 p 0 r2) := ⟨Nat.le_trans hk2.1 hW.1, fun b hb hx => (hW.2 b (Nat.lt_of_lt_of_le hb hk2.1) hx.2).trans (hk2.2 b hb hx.1)⟩
  refine ⟨hF.keep hkA fun x hx => ⟨fun hm => ?_, fun e => ?_⟩, (hE.on _).trans hkA, r2, ?_, ?_, ?_, ?_, hT.pM, hT.pG, hT.dis, fun x hx => ?_⟩
  · have := hT.lt x (.inl hm); omega
  · subst e; omega
  · rw [cell_putc, if_pos ⟨rfl, rfl⟩, d0]; rfl
  · rw [cell_putc, if_neg (by simp)]; exact d1
  · rw [frz_putc]; exact dz
  · exact hrow2.mono (fun _ h => h) (fun _ h => h) hW.1 fun b hb _ => hW.2 b (by assumption) (fun e => by subst e; exact hb.elim hT.pM hT.pG)
  · rw [putc_size]
    exact Nat.lt_of_lt_of_le (hT.lt x hx) (Nat.le_trans hE.size hk2.1)

theorem index_cl {S : Nat → Prop} {H : Hp} {v : Value} {l : List ByteArray} (s : ByteArray) (hv : StrSl S H v l) : Cl Tryz.prog 114 [v, .string s] H fun r H' => r = .int .i64 (fIdx (fun x => decide (s = x)) l) ∧ H' = H := by
  refine cl_of mixed c_slices_Index_string (Nat.le_of_ble_eq_true rfl) ?_
  simp only [fwp, ir_slices_Index_string, argF, Nat.reduceAdd]
  obtain ⟨a, c, rfl, hc, hl, hel⟩ := SlP.open hv
  clear hv
  refine w_reg fun K hK => ?_
  simp (disch := omega) only [↓wD, wU, Nat.reduceBEq, reduceCtorEq, Int.reduceEq, Int.reduceLT, Int.reduceLE, Int.reduceNeg, Value.cells, Value.oneCell', Nat.reduceAdd, Nat.reduceEqDiff, fillL, setL, Nat.reduceLeDiff, ]
  refine hK _ _ ?_
  clear hK K
  refine w_seq (w_seq ?_)
  refine w_reg fun K hK => ?_
  simp (disch := omega) only [↓wD, wU, Nat.reduceBEq, reduceCtorEq, Int.reduceEq, Int.reduceLT, Int.reduceLE, Int.reduceNeg, Value.cells, Value.oneCell', Nat.reduceAdd, Nat.reduceEqDiff, fillL, setL, Nat.reduceLeDiff, ]
  refine hK _ _ ?_
  clear hK K
  refine w_blk (w_loop (fun n f H' => H' = H ∧ f 0 = .slice a l.length c ∧ f 1 = .string s ∧ f 7 = .int .i64 l.length ∧ ∃ (i : Nat), f 8 = .int .i64 i ∧ i ≤ l.length ∧ (∀ j (hj : j < l.length), j < i → decide (s = l[j]) = false) ∧ n = l.length - i) _ ⟨rfl, by simp only [ev_tmp, ev_const, upd_apply, Nat.reduceBEq, cond_true, cond_false], by simp only [ev_tmp, ev_const, upd_apply, Nat.reduceBEq, cond_true, cond_false], by simp only [ev_tmp, ev_const, upd_apply, Nat.reduceBEq, cond_true, cond_false], 0, rfl, Nat.zero_le _, fun j hj h => by omega, rfl⟩ ?_)
  rintro n f H' ⟨rfl, f0, f1, f7, i, f8, hi, hno, rfl⟩
  by_cases hlt : i < l.length
  · obtain ⟨b, o, rfl, hS, cs, hcs, rfl, hsz⟩ := hel i hlt
    have hcs' := rdn1 hcs
    rw [Nat.mul_one] at hcs'
    refine w_reg fun K hK => ?_
    simp (disch := omega) only [↓wD, wU, Nat.reduceBEq, reduceCtorEq, Int.reduceEq, Int.reduceLT, Int.reduceLE, Int.reduceNeg, Value.cells, Value.oneCell', Nat.reduceAdd, Nat.reduceEqDiff, fillL, setL, Nat.reduceLeDiff, f7, f8, hlt]
    refine hK _ _ ?_
    clear hK K
    refine w_seq ?_
    refine w_true (by simp only [ev_tmp, ev_const, upd_apply, Nat.reduceBEq, cond_true, cond_false, Bool.not_true, Bool.not_false, ]) ?_
    refine w_skip ?_
    repeat (first | with_reducible refine q_n ?_ | with_reducible refine q_e ?_ | with_reducible refine q_r ?_ | with_reducible refine bq_n ?_ | with_reducible refine bq_e ?_ | with_reducible refine bq_r ?_ | with_reducible refine bq_o rfl ?_)
    refine w_seq (w_blk ?_)
    refine w_reg fun K hK => ?_
    simp (disch := omega) only [↓wD, wU, Nat.reduceBEq, reduceCtorEq, Int.reduceEq, Int.reduceLT, Int.reduceLE, Int.reduceNeg, Value.cells, Value.oneCell', Nat.reduceAdd, Nat.reduceEqDiff, fillL, setL, Nat.reduceLeDiff, f8]
    refine hK _ _ ?_
    clear hK K
    by_cases hp : s = l[i]
    · have hpT := eq_true hp
      refine w_reg fun K hK => ?_
      simp (disch := omega) only [↓wD, wU, Nat.reduceBEq, reduceCtorEq, Int.reduceEq, Int.reduceLT, Int.reduceLE, Int.reduceNeg, Value.cells, Value.oneCell', Nat.reduceAdd, Nat.reduceEqDiff, fillL, setL, Nat.reduceLeDiff, f0, f1, f8, hlt, hcs', Nat.mul_one, hpT]
      refine hK _ _ ?_
      clear hK K
      refine w_true (by simp only [ev_tmp, ev_const, upd_apply, Nat.reduceBEq, cond_true, cond_false, Bool.not_true, Bool.not_false, ]) ?_
      refine w_reg fun K hK => ?_
      simp (disch := omega) only [↓wD, wU, Nat.reduceBEq, reduceCtorEq, Int.reduceEq, Int.reduceLT, Int.reduceLE, Int.reduceNeg, Value.cells, Value.oneCell', Nat.reduceAdd, Nat.reduceEqDiff, fillL, setL, Nat.reduceLeDiff, ]
      refine hK _ _ ?_
      clear hK K
      refine w_ret ?_
      repeat (first | with_reducible refine q_n ?_ | with_reducible refine q_e ?_ | with_reducible refine q_r ?_ | with_reducible refine bq_n ?_ | with_reducible refine bq_e ?_ | with_reducible refine bq_r ?_ | with_reducible refine bq_o rfl ?_)
      refine ret1 (by (try simp only [ev_tmp, ev_const, upd_apply, Nat.reduceBEq, cond_true, cond_false, ]); rfl) ?_
      exact ⟨by rw [fIdx_some hlt hno (by simp [hp])], rfl⟩
    · have hpF := eq_false hp
      refine w_reg fun K hK => ?_
      simp (disch := omega) only [↓wD, wU, Nat.reduceBEq, reduceCtorEq, Int.reduceEq, Int.reduceLT, Int.reduceLE, Int.reduceNeg, Value.cells, Value.oneCell', Nat.reduceAdd, Nat.reduceEqDiff, fillL, setL, Nat.reduceLeDiff, f0, f1, f8, hlt, hcs', Nat.mul_one, hpF]
      refine hK _ _ ?_
      clear hK K
      refine w_false (by simp only [ev_tmp, ev_const, upd_apply, Nat.reduceBEq, cond_true, cond_false, Bool.not_true, Bool.not_false, ]) ?_
      refine w_skip ?_
      repeat (first | with_reducible refine q_n ?_ | with_reducible refine q_e ?_ | with_reducible refine q_r ?_ | with_reducible refine bq_n ?_ | with_reducible refine bq_e ?_ | with_reducible refine bq_r ?_ | with_reducible refine bq_o rfl ?_)
      refine w_reg1 fun K hK => ?_
      simp (disch := omega) only [↓wD, wU, Nat.reduceBEq, reduceCtorEq, Int.reduceEq, Int.reduceLT, Int.reduceLE, Int.reduceNeg, Value.cells, Value.oneCell', Nat.reduceAdd, Nat.reduceEqDiff, fillL, setL, Nat.reduceLeDiff, f8]
      refine hK _ _ ?_
      clear hK K
      repeat (first | with_reducible refine q_n ?_ | with_reducible refine q_e ?_ | with_reducible refine q_r ?_ | with_reducible refine bq_n ?_ | with_reducible refine bq_e ?_ | with_reducible refine bq_r ?_ | with_reducible refine bq_o rfl ?_)
      refine ⟨l.length - (i + 1), by omega, rfl, (by simp only [ev_tmp, ev_const, upd_apply, Nat.reduceBEq, cond_true, cond_false, f0]), (by simp only [ev_tmp, ev_const, upd_apply, Nat.reduceBEq, cond_true, cond_false, f1]), (by simp only [ev_tmp, ev_const, upd_apply, Nat.reduceBEq, cond_true, cond_false, f7]), i + 1, (by simp only [ev_tmp, ev_const, upd_apply, Nat.reduceBEq, cond_true, cond_false, ]), by omega, fun j hj h => ?_, rfl⟩
      by_cases hji : j = i
      · subst hji; simp [hp]
      · exact hno j hj (by omega)
  · refine w_reg fun K hK => ?_
    simp (disch := omega) only [↓wD, wU, Nat.reduceBEq, reduceCtorEq, Int.reduceEq, Int.reduceLT, Int.reduceLE, Int.reduceNeg, Value.cells, Value.oneCell', Nat.reduceAdd, Nat.reduceEqDiff, fillL, setL, Nat.reduceLeDiff, f7, f8, hlt]
    refine hK _ _ ?_
    clear hK K
    refine w_seq ?_
    refine w_false (by simp only [ev_tmp, ev_const, upd_apply, Nat.reduceBEq, cond_true, cond_false, Bool.not_true, Bool.not_false, ]) ?_
    refine w_exit ?_
    repeat (first | with_reducible refine q_n ?_ | with_reducible refine q_e ?_ | with_reducible refine q_r ?_ | with_reducible refine bq_n ?_ | with_reducible refine bq_e ?_ | with_reducible refine bq_r ?_ | with_reducible refine bq_o rfl ?_)
    refine w_reg fun K hK => ?_
    simp (disch := omega) only [↓wD, wU, Nat.reduceBEq, reduceCtorEq, Int.reduceEq, Int.reduceLT, Int.reduceLE, Int.reduceNeg, Value.cells, Value.oneCell', Nat.reduceAdd, Nat.reduceEqDiff, fillL, setL, Nat.reduceLeDiff, ]
    refine hK _ _ ?_
    clear hK K
    refine w_ret ?_
    repeat (first | with_reducible refine q_n ?_ | with_reducible refine q_e ?_ | with_reducible refine q_r ?_ | with_reducible refine bq_n ?_ | with_reducible refine bq_e ?_ | with_reducible refine bq_r ?_ | with_reducible refine bq_o rfl ?_)
    refine ret1 (by (try simp only [ev_tmp, ev_const, upd_apply, Nat.reduceBEq, cond_true, cond_false, ]); rfl) ?_
    exact ⟨by rw [fIdx_none fun j hj => hno j hj (by omega)], rfl⟩
theorem contain_cl {S : Nat → Prop} {H : Hp} {v : Value} {l : List ByteArray} (s : ByteArray) (hv : StrSl S H v l) : Cl Tryz.prog 58 [v, .string s] H fun r H' => r = .bool (l.any fun x => decide (s = x)) ∧ H' = H := by
  refine cl_of mixed c_slices_Contains_string (Nat.le_of_ble_eq_true rfl) ?_
  simp only [fwp, ir_slices_Contains_string, argF, Nat.reduceAdd]
  refine w_reg fun K hK => ?_
  simp (disch := omega) only [↓wD, wU, Nat.reduceBEq, reduceCtorEq, Int.reduceEq, Int.reduceLT, Int.reduceLE, Int.reduceNeg, Value.cells, Value.oneCell', Nat.reduceAdd, Nat.reduceEqDiff, fillL, setL, Nat.reduceLeDiff, ]
  refine hK _ _ ?_
  clear hK K
  refine w_reg fun K hK => ?_
  simp (disch := omega) only [↓wD, wU, Nat.reduceBEq, reduceCtorEq, Int.reduceEq, Int.reduceLT, Int.reduceLE, Int.reduceNeg, Value.cells, Value.oneCell', Nat.reduceAdd, Nat.reduceEqDiff, fillL, setL, Nat.reduceLeDiff, ]
  refine w_call (index_cl s hv) ?_
  rintro _ _ ⟨rfl, rfl⟩
  simp (disch := omega) only [↓wD, wU, Nat.reduceBEq, reduceCtorEq, Int.reduceEq, Int.reduceLT, Int.reduceLE, Int.reduceNeg, Value.cells, Value.oneCell', Nat.reduceAdd, Nat.reduceEqDiff, fillL, setL, Nat.reduceLeDiff, fIdx_nneg]
  refine hK _ _ ?_
  clear hK K
  refine w_ret ?_
  repeat (first | with_reducible refine q_n ?_ | with_reducible refine q_e ?_ | with_reducible refine q_r ?_ | with_reducible refine bq_n ?_ | with_reducible refine bq_e ?_ | with_reducible refine bq_r ?_ | with_reducible refine bq_o rfl ?_)
  refine ret1 (by (try simp only [ev_tmp, ev_const, upd_apply, Nat.reduceBEq, cond_true, cond_false, ]); rfl) ?_
  exact ⟨rfl, rfl⟩
/-- What Free asks. -/
theorem free_fn {M G S : Nat → Prop} {H : Hp} {k : Nat} {v : Value} {l : List ByteArray} (hk : cell H k 0 = some v) (hM : ¬ M k) (hv : StrSl S H v l) (hS : ∀ x, S x → ¬ M x) : FnR Tryz.prog M G H (.func (.func 57) #[] #[.pointer (some ⟨k, 0, none⟩)]) fun h => l.any fun x => decide (h.key = x) := by
  refine ⟨_, _, _, rfl, fun H' hkeep cs a he => ?_⟩
  obtain ⟨va, vr, rfl, -⟩ := he
  have hk' : cell H' k 0 = some v := (cell_block (hkeep.2 k (cell_lt hk) hM) 0).trans hk
  have hlt := cell_lt hk'
  have hv' : StrSl S H' v l := SlP.mono hv (fun _ h => h) (fun b hb hb' => hkeep.2 b hb' (hS b hb)) fun _ _ _ h => h
  show Cl _ _ [.agg _, .pointer _] _ _
  refine cl_of mixed c_holds_Holds_Free_1 (Nat.le_of_ble_eq_true rfl) ?_
  simp only [fwp, ir_holds_Holds_Free_1, argF, Nat.reduceAdd]
  refine w_reg fun K hK => ?_
  simp (disch := omega) only [↓wD, wU, Nat.reduceBEq, reduceCtorEq, Int.reduceEq, Int.reduceLT, Int.reduceLE, Int.reduceNeg, Value.cells, Value.oneCell', Nat.reduceAdd, Nat.reduceEqDiff, fillL, setL, Nat.reduceLeDiff, ]
  refine hK _ _ ?_
  clear hK K
  refine w_reg fun K hK => ?_
  simp (disch := omega) only [↓wD, wU, Nat.reduceBEq, reduceCtorEq, Int.reduceEq, Int.reduceLT, Int.reduceLE, Int.reduceNeg, Value.cells, Value.oneCell', Nat.reduceAdd, Nat.reduceEqDiff, fillL, setL, Nat.reduceLeDiff, hk']
  refine w_call (contain_cl a.key (hv'.ext ((Ext.refl _).push _))) ?_
  rintro _ _ ⟨rfl, rfl⟩
  simp (disch := omega) only [↓wD, wU, Nat.reduceBEq, reduceCtorEq, Int.reduceEq, Int.reduceLT, Int.reduceLE, Int.reduceNeg, Value.cells, Value.oneCell', Nat.reduceAdd, Nat.reduceEqDiff, fillL, setL, Nat.reduceLeDiff, ]
  refine hK _ _ ?_
  clear hK K
  refine w_ret ?_
  repeat (first | with_reducible refine q_n ?_ | with_reducible refine q_e ?_ | with_reducible refine q_r ?_ | with_reducible refine bq_n ?_ | with_reducible refine bq_e ?_ | with_reducible refine bq_r ?_ | with_reducible refine bq_o rfl ?_)
  refine ret1 (by (try simp only [ev_tmp, ev_const, upd_apply, Nat.reduceBEq, cond_true, cond_false, ]); rfl) ?_
  refine ⟨rfl, ?_⟩
  repeat (first | exact Ext.refl _ | assumption | (refine Ext.trans ?_ (by assumption)) | refine Ext.push ?_ _ | refine Ext.putc ?_ (by first | omega | (simp only [Array.size_push, putc_size]; omega)) _ _)
/-- What In and Take ask. -/
theorem in_fn {M G : Nat → Prop} {H : Hp} {k : Nat} {lo hi : ByteArray} (hk0 : cell H k 0 = some (.string lo)) (hk1 : cell H k (0 + 1) = some (.string hi)) (h1 : Sz lo) (h2 : Sz hi) (hM : ¬ M k) : FnR Tryz.prog M G H (.func (.func 50) #[] #[.pointer (some ⟨k, 0, none⟩)]) fun h => spHas lo hi h.key := by
  refine ⟨_, _, _, rfl, fun H' hkeep cs a he => ?_⟩
  obtain ⟨va, vr, rfl, -, -, -, h3, -⟩ := he
  have hb := hkeep.2 k (cell_lt hk0) hM
  have hk0' := (cell_block hb 0).trans hk0
  have hk1' := (cell_block hb (0 + 1)).trans hk1
  have hlt := cell_lt hk0'
  show Cl _ _ [.agg _, .pointer _] _ _
  refine cl_of mixed c_holds_Holds_In_1 (Nat.le_of_ble_eq_true rfl) ?_
  simp only [fwp, ir_holds_Holds_In_1, argF, Nat.reduceAdd]
  refine w_reg fun K hK => ?_
  simp (disch := omega) only [↓wD, wU, Nat.reduceBEq, reduceCtorEq, Int.reduceEq, Int.reduceLT, Int.reduceLE, Int.reduceNeg, Value.cells, Value.oneCell', Nat.reduceAdd, Nat.reduceEqDiff, fillL, setL, Nat.reduceLeDiff, ]
  refine hK _ _ ?_
  clear hK K
  refine w_reg fun K hK => ?_
  simp (disch := omega) only [↓wD, wU, Nat.reduceBEq, reduceCtorEq, Int.reduceEq, Int.reduceLT, Int.reduceLE, Int.reduceNeg, Value.cells, Value.oneCell', Nat.reduceAdd, Nat.reduceEqDiff, fillL, setL, Nat.reduceLeDiff, hk0', hk1']
  refine w_call (spHas_cl lo hi a.key h1 h2 h3) ?_
  rintro _ H1 ⟨rfl, hE⟩
  simp (disch := omega) only [↓wD, wU, Nat.reduceBEq, reduceCtorEq, Int.reduceEq, Int.reduceLT, Int.reduceLE, Int.reduceNeg, Value.cells, Value.oneCell', Nat.reduceAdd, Nat.reduceEqDiff, fillL, setL, Nat.reduceLeDiff, ]
  refine hK _ _ ?_
  clear hK K
  refine w_ret ?_
  repeat (first | with_reducible refine q_n ?_ | with_reducible refine q_e ?_ | with_reducible refine q_r ?_ | with_reducible refine bq_n ?_ | with_reducible refine bq_e ?_ | with_reducible refine bq_r ?_ | with_reducible refine bq_o rfl ?_)
  refine ret1 (by (try simp only [ev_tmp, ev_const, upd_apply, Nat.reduceBEq, cond_true, cond_false, ]); rfl) ?_
  refine ⟨rfl, ?_⟩
  repeat (first | exact Ext.refl _ | assumption | (refine Ext.trans ?_ (by assumption)) | refine Ext.push ?_ _ | refine Ext.putc ?_ (by first | omega | (simp only [Array.size_push, putc_size]; omega)) _ _)
end Go.WK
/-
  The place of a key.
-/
namespace Go.WK
open Go Go.Proofs

theorem at1_cl {G : Nat → Prop} {H : Hp} {cs : List Value} {a : Hd} (k : ByteArray) (he : ElHd G H cs a) : Cl Tryz.prog 105 [.agg cs.toArray, .string k] H fun r H' => r = .int .i64 (cmp3 a.key k) ∧ Ext H H' := by
  obtain ⟨va, vr, rfl, -⟩ := he
  refine cl_of mixed c_holds_row_at_1 (Nat.le_of_ble_eq_true rfl) ?_
  simp only [fwp, ir_holds_row_at_1, argF, Nat.reduceAdd]
  refine w_reg fun K hK => ?_
  simp (disch := omega) only [↓wD, wU, Nat.reduceBEq, reduceCtorEq, Int.reduceEq, Int.reduceLT, Int.reduceLE, Int.reduceNeg, Value.cells, Value.oneCell', Nat.reduceAdd, Nat.reduceEqDiff, fillL, setL, Nat.reduceLeDiff, ]
  refine hK _ _ ?_
  clear hK K
  refine w_reg fun K hK => ?_
  simp (disch := omega) only [↓wD, wU, Nat.reduceBEq, reduceCtorEq, Int.reduceEq, Int.reduceLT, Int.reduceLE, Int.reduceNeg, Value.cells, Value.oneCell', Nat.reduceAdd, Nat.reduceEqDiff, fillL, setL, Nat.reduceLeDiff, ]
  refine w_call (Compare_cl a.key k) ?_
  rintro _ _ ⟨rfl, rfl⟩
  simp (disch := omega) only [↓wD, wU, Nat.reduceBEq, reduceCtorEq, Int.reduceEq, Int.reduceLT, Int.reduceLE, Int.reduceNeg, Value.cells, Value.oneCell', Nat.reduceAdd, Nat.reduceEqDiff, fillL, setL, Nat.reduceLeDiff, ]
  refine hK _ _ ?_
  clear hK K
  refine w_ret ?_
  repeat (first | with_reducible refine q_n ?_ | with_reducible refine q_e ?_ | with_reducible refine q_r ?_ | with_reducible refine bq_n ?_ | with_reducible refine bq_e ?_ | with_reducible refine bq_r ?_ | with_reducible refine bq_o rfl ?_)
  refine ret1 (by (try simp only [ev_tmp, ev_const, upd_apply, Nat.reduceBEq, cond_true, cond_false, ]); rfl) ?_
  refine ⟨rfl, ?_⟩
  repeat (first | exact Ext.refl _ | assumption | (refine Ext.trans ?_ (by assumption)) | refine Ext.push ?_ _ | refine Ext.putc ?_ (by first | omega | (simp only [Array.size_push, putc_size]; omega)) _ _)

def Sorted (L : List Hd) : Prop := L.Pairwise fun a b => sless a.key b.key = true
theorem Sorted.get {L : List Hd} (h : Sorted L) {i j : Nat} (hi : i < L.length) (hj : j < L.length) (hij : i < j) : sless L[i].key L[j].key = true := List.pairwise_iff_getElem.1 h i j hi hj hij
def hasK (L : List Hd) (key : ByteArray) : Bool := L.any fun h => decide (h.key = key)
/-- m is the place of a key. -/
structure Place (L : List Hd) (key : ByteArray) (m : Nat) : Prop where
  le : m ≤ L.length
  lo : ∀ k (hk : k < L.length), k < m → sless L[k].key key = true
  hi : ∀ k (hk : k < L.length), m ≤ k → sless L[k].key key = false
theorem cmp3_lt (a b : ByteArray) : decide (cmp3 a b < 0) = sless a b := by
  unfold cmp3
  cases h1 : sless a b with
  | true => simp
  | false => cases sless b a <;> simp
theorem cmp3_eq (a b : ByteArray) : decide (cmp3 a b = 0) = decide (a = b) := by
  unfold cmp3
  cases h1 : sless a b with
  | true =>
    have : ¬ a = b := fun e => by subst e; rw [sless_irrefl] at h1; cases h1
    simp [this]
  | false =>
    cases h2 : sless b a with
    | true =>
      have : ¬ a = b := fun e => by subst e; rw [sless_irrefl] at h2; cases h2
      simp [this]
    | false => simp [sless_total h1 h2]
theorem Place.has {L : List Hd} {key : ByteArray} {m : Nat} (h : Place L key m) (hs : Sorted L) (hm : m < L.length) : hasK L key = decide (L[m].key = key) := by
  by_cases e : L[m].key = key
  · rw [decide_eq_true e]
    exact List.any_eq_true.2 ⟨_, List.getElem_mem hm, by simp [e]⟩
  · rw [decide_eq_false e]
    refine List.any_eq_false.2 fun x hx => ?_
    obtain ⟨k, hk, rfl⟩ := List.getElem_of_mem hx
    simp only [decide_eq_true_eq]
    intro e2
    rcases Nat.lt_trichotomy k m with hlt | heq | hgt
    · have := h.lo k hk hlt
      rw [e2, sless_irrefl] at this
      cases this
    · subst heq; exact e e2
    · have h1 := hs.get hm hk hgt
      rw [e2] at h1
      rw [h.hi m hm (Nat.le_refl _)] at h1
      cases h1
theorem Place.none {L : List Hd} {key : ByteArray} {m : Nat} (h : Place L key m) (hm : m = L.length) : hasK L key = false := by
  refine List.any_eq_false.2 fun x hx => ?_
  obtain ⟨k, hk, rfl⟩ := List.getElem_of_mem hx
  simp only [decide_eq_true_eq]
  intro e2
  have := h.lo k hk (by omega)
  rw [e2, sless_irrefl] at this
  cases this
theorem wru {x : Int} (h1 : 0 ≤ x) (h2 : x ≤ 18446744073709551615) : IntKind.u64.wrap x = x := by
  unfold IntKind.wrap; simp [IntKind.signed, IntKind.bits]; omega
theorem half (n : Nat) : ((n : Int).fdiv (2 ^ (min (1 : Int).toNat IntKind.u64.bits))) = ((n / 2 : Nat) : Int) := by
  have : (2 : Int) ^ (min (1 : Int).toNat IntKind.u64.bits) = 2 := by decide
  rw [this]
  rw [Int.fdiv_eq_ediv_of_nonneg _ (by omega)]; omega

theorem bs_cl {S G : Nat → Prop} {H : Hp} {v : Value} {L : List Hd} (key : ByteArray) (hv : SlP S H 7 (ElHd G H) v L) (hs : Sorted L) : Cl Tryz.prog 104 [v, .string key, .func (.func 105) #[] #[]] H fun r H' => Ext H H' ∧ ∃ m : Nat, Place L key m ∧ r = .tuple #[.int .i64 m, .bool (hasK L key)] := by
  refine cl_of mixed c_slices_BinarySearchFunc_string (Nat.le_of_ble_eq_true rfl) ?_
  simp only [fwp, ir_slices_BinarySearchFunc_string, argF, Nat.reduceAdd]
  obtain ⟨a, c, rfl, hc, hl, hel⟩ := SlP.open hv
  clear hv
  refine w_reg fun K hK => ?_
  simp (disch := omega) only [↓wD, wU, Nat.reduceBEq, reduceCtorEq, Int.reduceEq, Int.reduceLT, Int.reduceLE, Int.reduceNeg, Value.cells, Value.oneCell', Nat.reduceAdd, Nat.reduceEqDiff, fillL, setL, Nat.reduceLeDiff, ]
  refine hK _ _ ?_
  clear hK K
  refine w_reg fun K hK => ?_
  simp (disch := omega) only [↓wD, wU, Nat.reduceBEq, reduceCtorEq, Int.reduceEq, Int.reduceLT, Int.reduceLE, Int.reduceNeg, Value.cells, Value.oneCell', Nat.reduceAdd, Nat.reduceEqDiff, fillL, setL, Nat.reduceLeDiff, ]
  refine hK _ _ ?_
  clear hK K
  refine w_reg fun K hK => ?_
  simp (disch := omega) only [↓wD, wU, Nat.reduceBEq, reduceCtorEq, Int.reduceEq, Int.reduceLT, Int.reduceLE, Int.reduceNeg, Value.cells, Value.oneCell', Nat.reduceAdd, Nat.reduceEqDiff, fillL, setL, Nat.reduceLeDiff, ]
  refine hK _ _ ?_
  clear hK K
  refine w_seq ?_
  refine w_blk (w_loop (fun n f H' => Ext H H' ∧ f 0 = .slice a L.length c ∧ f 1 = .string key ∧ f 2 = .func (.func 105) #[] #[] ∧ f 8 = .int .i64 L.length ∧ ∃ (i j : Nat), f 9 = .int .i64 i ∧ f 10 = .int .i64 j ∧ i ≤ j ∧ j ≤ L.length ∧ (∀ k (hk : k < L.length), k < i → sless L[k].key key = true) ∧ (∀ k (hk : k < L.length), j ≤ k → sless L[k].key key = false) ∧ n = j - i) _ ⟨Ext.refl _, (by simp only [ev_tmp, ev_const, upd_apply, Nat.reduceBEq, cond_true, cond_false, ]), (by simp only [ev_tmp, ev_const, upd_apply, Nat.reduceBEq, cond_true, cond_false, ]), (by simp only [ev_tmp, ev_const, upd_apply, Nat.reduceBEq, cond_true, cond_false, ]), (by simp only [ev_tmp, ev_const, upd_apply, Nat.reduceBEq, cond_true, cond_false, ]), 0, L.length, rfl, (by simp only [ev_tmp, ev_const, upd_apply, Nat.reduceBEq, cond_true, cond_false, ]), Nat.zero_le _, Nat.le_refl _, fun k hk h => by omega, fun k hk h => by omega, rfl⟩ ?_)
  rintro n f H' ⟨hE, f0, f1, f2, f8, i, j, f9, f10, hij, hj, hlo, hhi, rfl⟩
  refine w_seq (w_seq ?_)
  by_cases hlt : i < j
  · refine w_reg fun K hK => ?_
    simp (disch := omega) only [↓wD, wU, Nat.reduceBEq, reduceCtorEq, Int.reduceEq, Int.reduceLT, Int.reduceLE, Int.reduceNeg, Value.cells, Value.oneCell', Nat.reduceAdd, Nat.reduceEqDiff, fillL, setL, Nat.reduceLeDiff, f9, f10, hlt]
    refine hK _ _ ?_
    clear hK K
    refine w_true (by simp only [ev_tmp, ev_const, upd_apply, Nat.reduceBEq, cond_true, cond_false, Bool.not_true, Bool.not_false, ]) ?_
    refine w_skip ?_
    repeat (first | with_reducible refine q_n ?_ | with_reducible refine q_e ?_ | with_reducible refine q_r ?_ | with_reducible refine bq_n ?_ | with_reducible refine bq_e ?_ | with_reducible refine bq_r ?_ | with_reducible refine bq_o rfl ?_)
    refine w_blk ?_
    have hsh : binV .shr (.int .u64 ((i + j : Nat) : Int)) (.int .u64 1) = some (.int .u64 (((i + j) / 2 : Nat) : Int)) := by
      rw [b_shr (by omega), half]
    have hw1 : IntKind.u64.wrap ((i + j : Nat) : Int) = ((i + j : Nat) : Int) := wru (by omega) (by omega)
    refine w_reg fun K hK => ?_
    simp (disch := omega) only [↓wD, wU, Nat.reduceBEq, reduceCtorEq, Int.reduceEq, Int.reduceLT, Int.reduceLE, Int.reduceNeg, Value.cells, Value.oneCell', Nat.reduceAdd, Nat.reduceEqDiff, fillL, setL, Nat.reduceLeDiff, f9, f10, hw1, hsh]
    refine hK _ _ ?_
    clear hK K
    obtain ⟨m, hm⟩ : ∃ m, m = (i + j) / 2 := ⟨_, rfl⟩
    rw [← hm]
    have hmL : m < L.length := by omega
    obtain ⟨b, o, rfl, hS, cs, hcs, he⟩ := hel m hmL
    have hcs' := rdn_ext hE hcs
    refine w_reg fun K hK => ?_
    simp (disch := omega) only [↓wD, wU, Nat.reduceBEq, reduceCtorEq, Int.reduceEq, Int.reduceLT, Int.reduceLE, Int.reduceNeg, Value.cells, Value.oneCell', Nat.reduceAdd, Nat.reduceEqDiff, fillL, setL, Nat.reduceLeDiff, f0, f1, f2, hmL, hcs']
    refine w_call (at1_cl key (he.ext hE)) ?_
    rintro _ H1 ⟨rfl, hE1⟩
    simp (disch := omega) only [↓wD, wU, Nat.reduceBEq, reduceCtorEq, Int.reduceEq, Int.reduceLT, Int.reduceLE, Int.reduceNeg, Value.cells, Value.oneCell', Nat.reduceAdd, Nat.reduceEqDiff, fillL, setL, Nat.reduceLeDiff, cmp3_lt]
    refine hK _ _ ?_
    clear hK K
    cases hc3 : sless L[m].key key with
    | true =>
      refine w_true (by simp only [ev_tmp, ev_const, upd_apply, Nat.reduceBEq, cond_true, cond_false, Bool.not_true, Bool.not_false, hc3]) ?_
      refine w_reg1 fun K hK => ?_
      simp (disch := omega) only [↓wD, wU, Nat.reduceBEq, reduceCtorEq, Int.reduceEq, Int.reduceLT, Int.reduceLE, Int.reduceNeg, Value.cells, Value.oneCell', Nat.reduceAdd, Nat.reduceEqDiff, fillL, setL, Nat.reduceLeDiff, ]
      refine hK _ _ ?_
      clear hK K
      repeat (first | with_reducible refine q_n ?_ | with_reducible refine q_e ?_ | with_reducible refine q_r ?_ | with_reducible refine bq_n ?_ | with_reducible refine bq_e ?_ | with_reducible refine bq_r ?_ | with_reducible refine bq_o rfl ?_)
      exact ⟨j - (m + 1), by omega, hE.trans hE1, (by simp only [ev_tmp, ev_const, upd_apply, Nat.reduceBEq, cond_true, cond_false, f0]), (by simp only [ev_tmp, ev_const, upd_apply, Nat.reduceBEq, cond_true, cond_false, f1]), (by simp only [ev_tmp, ev_const, upd_apply, Nat.reduceBEq, cond_true, cond_false, f2]), (by simp only [ev_tmp, ev_const, upd_apply, Nat.reduceBEq, cond_true, cond_false, f8]), m + 1, j, (by simp only [ev_tmp, ev_const, upd_apply, Nat.reduceBEq, cond_true, cond_false, ]), (by simp only [ev_tmp, ev_const, upd_apply, Nat.reduceBEq, cond_true, cond_false, f10]), by omega, hj, fun k hk h => (by
        by_cases hkm : k = m
        · subst hkm; exact hc3
        · exact sless_trans (hs.get hk hmL (by omega)) hc3), hhi, rfl⟩
    | false =>
      refine w_false (by simp only [ev_tmp, ev_const, upd_apply, Nat.reduceBEq, cond_true, cond_false, Bool.not_true, Bool.not_false, hc3]) ?_
      refine w_reg1 fun K hK => ?_
      simp (disch := omega) only [↓wD, wU, Nat.reduceBEq, reduceCtorEq, Int.reduceEq, Int.reduceLT, Int.reduceLE, Int.reduceNeg, Value.cells, Value.oneCell', Nat.reduceAdd, Nat.reduceEqDiff, fillL, setL, Nat.reduceLeDiff, ]
      refine hK _ _ ?_
      clear hK K
      repeat (first | with_reducible refine q_n ?_ | with_reducible refine q_e ?_ | with_reducible refine q_r ?_ | with_reducible refine bq_n ?_ | with_reducible refine bq_e ?_ | with_reducible refine bq_r ?_ | with_reducible refine bq_o rfl ?_)
      exact ⟨m - i, by omega, hE.trans hE1, (by simp only [ev_tmp, ev_const, upd_apply, Nat.reduceBEq, cond_true, cond_false, f0]), (by simp only [ev_tmp, ev_const, upd_apply, Nat.reduceBEq, cond_true, cond_false, f1]), (by simp only [ev_tmp, ev_const, upd_apply, Nat.reduceBEq, cond_true, cond_false, f2]), (by simp only [ev_tmp, ev_const, upd_apply, Nat.reduceBEq, cond_true, cond_false, f8]), i, m, (by simp only [ev_tmp, ev_const, upd_apply, Nat.reduceBEq, cond_true, cond_false, f9]), (by simp only [ev_tmp, ev_const, upd_apply, Nat.reduceBEq, cond_true, cond_false, ]), by omega, by omega, hlo, fun k hk h => (by
        by_cases hkm : k = m
        · subst hkm; exact hc3
        · cases h2 : sless L[k].key key with
          | false => rfl
          | true =>
            have := sless_trans (hs.get hmL hk (by omega)) h2
            rw [hc3] at this; cases this), rfl⟩
  · have hije : i = j := by omega
    subst hije
    have hP : Place L key i := ⟨hj, hlo, hhi⟩
    refine w_reg fun K hK => ?_
    simp (disch := omega) only [↓wD, wU, Nat.reduceBEq, reduceCtorEq, Int.reduceEq, Int.reduceLT, Int.reduceLE, Int.reduceNeg, Value.cells, Value.oneCell', Nat.reduceAdd, Nat.reduceEqDiff, fillL, setL, Nat.reduceLeDiff, f9, f10, hlt]
    refine hK _ _ ?_
    clear hK K
    refine w_false (by simp only [ev_tmp, ev_const, upd_apply, Nat.reduceBEq, cond_true, cond_false, Bool.not_true, Bool.not_false, ]) ?_
    refine w_exit ?_
    repeat (first | with_reducible refine q_n ?_ | with_reducible refine q_e ?_ | with_reducible refine q_r ?_ | with_reducible refine bq_n ?_ | with_reducible refine bq_e ?_ | with_reducible refine bq_r ?_ | with_reducible refine bq_o rfl ?_)
    refine w_reg fun K hK => ?_
    by_cases hiL : i < L.length
    · obtain ⟨b, o, rfl, hS, cs, hcs, he⟩ := hel i hiL
      have hcs' := rdn_ext hE hcs
      simp (disch := omega) only [↓wD, wU, Nat.reduceBEq, reduceCtorEq, Int.reduceEq, Int.reduceLT, Int.reduceLE, Int.reduceNeg, Value.cells, Value.oneCell', Nat.reduceAdd, Nat.reduceEqDiff, fillL, setL, Nat.reduceLeDiff, f0, f1, f2, f8, f9, hiL, hcs']
      refine w_call (at1_cl key (he.ext hE)) ?_
      rintro _ H1 ⟨rfl, hE1⟩
      simp (disch := omega) only [↓wD, wU, Nat.reduceBEq, reduceCtorEq, Int.reduceEq, Int.reduceLT, Int.reduceLE, Int.reduceNeg, Value.cells, Value.oneCell', Nat.reduceAdd, Nat.reduceEqDiff, fillL, setL, Nat.reduceLeDiff, cmp3_eq]
      refine hK _ _ ?_
      clear hK K
      refine w_ret ?_
      repeat (first | with_reducible refine q_n ?_ | with_reducible refine q_e ?_ | with_reducible refine q_r ?_ | with_reducible refine bq_n ?_ | with_reducible refine bq_e ?_ | with_reducible refine bq_r ?_ | with_reducible refine bq_o rfl ?_)
      refine ret2 (by (try simp only [ev_tmp, ev_const, upd_apply, Nat.reduceBEq, cond_true, cond_false, f9]); rfl) (by (try simp only [ev_tmp, ev_const, upd_apply, Nat.reduceBEq, cond_true, cond_false, f9]); rfl) ?_
      exact ⟨hE.trans hE1, i, hP, by rw [hP.has hs hiL]⟩
    · simp (disch := omega) only [↓wD, wU, Nat.reduceBEq, reduceCtorEq, Int.reduceEq, Int.reduceLT, Int.reduceLE, Int.reduceNeg, Value.cells, Value.oneCell', Nat.reduceAdd, Nat.reduceEqDiff, fillL, setL, Nat.reduceLeDiff, f0, f1, f2, f8, f9, hiL]
      refine hK _ _ ?_
      clear hK K
      refine w_ret ?_
      repeat (first | with_reducible refine q_n ?_ | with_reducible refine q_e ?_ | with_reducible refine q_r ?_ | with_reducible refine bq_n ?_ | with_reducible refine bq_e ?_ | with_reducible refine bq_r ?_ | with_reducible refine bq_o rfl ?_)
      refine ret2 (by (try simp only [ev_tmp, ev_const, upd_apply, Nat.reduceBEq, cond_true, cond_false, f9]); rfl) (by (try simp only [ev_tmp, ev_const, upd_apply, Nat.reduceBEq, cond_true, cond_false, f9]); rfl) ?_
      exact ⟨hE, i, hP, by rw [hP.none (by omega)]⟩

theorem at_cl {M G : Nat → Prop} {H : Hp} {p : Nat} {L : List Hd} {v : Value} (key : ByteArray) (hT : Tab M G H p L v) (hs : Sorted L) (hb : L.length ≤ big) : Cl Tryz.prog 51 [.pointer (some ⟨p, 0, none⟩), .string key] H fun r H' => Ext H H' ∧ ∃ m : Nat, Place L key m ∧ r = .tuple #[.int .i64 m, .bool (hasK L key)] := by
  refine cl_of mixed c_holds_row_at (Nat.le_of_ble_eq_true rfl) ?_
  simp only [fwp, ir_holds_row_at, argF, Nat.reduceAdd]
  have hc0 := hT.c0
  have hslp : SlP (fun x => M x ∨ G x) H 7 (ElHd G H) v L := by
    obtain ⟨css, h1, h2, h3⟩ := hT.row
    exact SlP.mono (H' := H) (h1.slp h2 hb h3) (fun _ h => .inl h) (fun _ _ _ => rfl) fun _ _ _ h => h
  refine w_reg fun K hK => ?_
  simp (disch := omega) only [↓wD, wU, Nat.reduceBEq, reduceCtorEq, Int.reduceEq, Int.reduceLT, Int.reduceLE, Int.reduceNeg, Value.cells, Value.oneCell', Nat.reduceAdd, Nat.reduceEqDiff, fillL, setL, Nat.reduceLeDiff, ]
  refine hK _ _ ?_
  clear hK K
  refine w_reg fun K hK => ?_
  simp (disch := omega) only [↓wD, wU, Nat.reduceBEq, reduceCtorEq, Int.reduceEq, Int.reduceLT, Int.reduceLE, Int.reduceNeg, Value.cells, Value.oneCell', Nat.reduceAdd, Nat.reduceEqDiff, fillL, setL, Nat.reduceLeDiff, hc0]
  refine w_call (bs_cl key hslp hs) ?_
  rintro _ H1 ⟨hE, m, hP, rfl⟩
  simp (disch := omega) only [↓wD, wU, Nat.reduceBEq, reduceCtorEq, Int.reduceEq, Int.reduceLT, Int.reduceLE, Int.reduceNeg, Value.cells, Value.oneCell', Nat.reduceAdd, Nat.reduceEqDiff, fillL, setL, Nat.reduceLeDiff, ]
  refine hK _ _ ?_
  clear hK K
  refine w_ret ?_
  repeat (first | with_reducible refine q_n ?_ | with_reducible refine q_e ?_ | with_reducible refine q_r ?_ | with_reducible refine bq_n ?_ | with_reducible refine bq_e ?_ | with_reducible refine bq_r ?_ | with_reducible refine bq_o rfl ?_)
  refine ret2 (by (try simp only [ev_tmp, ev_const, upd_apply, Nat.reduceBEq, cond_true, cond_false, ]); rfl) (by (try simp only [ev_tmp, ev_const, upd_apply, Nat.reduceBEq, cond_true, cond_false, ]); rfl) ?_
  exact ⟨hE, m, hP, rfl⟩
end Go.WK
