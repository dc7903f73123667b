/-
  HoldsSpans: holds of a table in the document's shape, spans of them, taken and put back, written and read again. Part 7 of 14.
-/
import Derived.Test.YtcafflmhjgnehaaGreatDoorHoldsSpansQ5
import Derived.Test.YtcafflmhjgnehaaGreatDoorHoldsSpansQ2
import Derived.Test.YtcafflmhjgnehaaGreatDoorProg
import Derived.KernelRfl
set_option linter.unusedSimpArgs false
set_option linter.unusedVariables false
set_option linter.defProp false
set_option maxRecDepth 100000
/-
  Is it a hold?
-/
namespace Go.WK
open Go Go.Proofs

theorem notAct_cl {H : Hp} {cs : List Value} {a : Ac} (he : ElAc cs a) : Cl Tryz.prog 159 [.agg cs.toArray] H fun r H' => r = .bool (!actB a) ∧ Ext H H' := by
  refine cl_of mixed c_act_Right_1 (Nat.le_of_ble_eq_true rfl) ?_
  simp only [fwp, ir_act_Right_1, argF, Nat.reduceAdd]
  have hl : cs.length = 4 := by obtain ⟨rfl, _⟩ := he; rfl
  refine w_reg fun K hK => ?_
  simp (disch := omega) only [↓wD, ↓i_cbs, ↓i_csk, wU, b_and, b_or, b_shl, b_shr, Nat.reduceBEq, reduceCtorEq, Int.reduceEq, Int.reduceLT, Int.reduceLE, Int.reduceNeg, Value.cells, Value.oneCell', Nat.reduceAdd, Nat.reduceEqDiff, fillL, setL, Nat.reduceLeDiff, ]
  refine hK _ _ ?_
  clear hK K
  refine w_reg fun K hK => ?_
  have hr : rdn (H.push (.cells cs.toArray 98)) H.size 0 4 = some cs := by
    rw [rdn_new H cs 98 0 4 (by omega), List.drop_zero, List.take_of_length_le (by omega)]
  simp (disch := omega) only [↓wD, ↓i_cbs, ↓i_csk, wU, b_and, b_or, b_shl, b_shr, Nat.reduceBEq, reduceCtorEq, Int.reduceEq, Int.reduceLT, Int.reduceLE, Int.reduceNeg, Value.cells, Value.oneCell', Nat.reduceAdd, Nat.reduceEqDiff, fillL, setL, Nat.reduceLeDiff, hr]
  refine w_call (right_cl he) ?_
  rintro _ H1 ⟨rfl, hE⟩
  simp (disch := omega) only [↓wD, ↓i_cbs, ↓i_csk, wU, b_and, b_or, b_shl, b_shr, Nat.reduceBEq, reduceCtorEq, Int.reduceEq, Int.reduceLT, Int.reduceLE, Int.reduceNeg, Value.cells, Value.oneCell', Nat.reduceAdd, Nat.reduceEqDiff, fillL, setL, Nat.reduceLeDiff, ]
  refine hK _ _ ?_
  clear hK K
  refine w_ret ?_
  repeat (first | with_reducible refine q_n ?_ | with_reducible refine q_e ?_ | with_reducible refine q_r ?_ | with_reducible refine bq_n ?_ | with_reducible refine bq_e ?_ | with_reducible refine bq_r ?_ | with_reducible refine bq_o rfl ?_)
  refine ret1 (by (try simp only [ev_tmp, ev_const, upd_apply, Nat.reduceBEq, cond_true, cond_false, ]); rfl) ?_
  refine ⟨rfl, ?_⟩
  repeat (first | exact Ext.refl _ | assumption | (refine Ext.trans ?_ (by assumption)) | refine Ext.push ?_ _ | refine Ext.putc ?_ (by first | omega | (simp only [Array.size_push, putc_size]; omega)) _ _)

def actsB (l : List Ac) : Bool := decide (1 ≤ l.length) && decide (l.length ≤ 6) && l.all actB
theorem any_not {α : Type} (p : α → Bool) (l : List α) : (!l.any fun a => !p a) = l.all p := by
  induction l with
  | nil => rfl
  | cons a l ih => simp [List.any_cons, List.all_cons, ← ih]
theorem aRight_cl {S : Nat → Prop} {H : Hp} {v : Value} {l : List Ac} (hv : AcSl S H v l) : Cl Tryz.prog 128 [v] H fun r H' => r = .bool (actsB l) ∧ Ext H H' := by
  refine cl_of mixed c_act_Right (Nat.le_of_ble_eq_true rfl) ?_
  simp only [fwp, ir_act_Right, argF, Nat.reduceAdd]
  have hf : FnOn Tryz.prog H ElAc (.func (.func 159) #[] #[]) (fun a => !actB a) l := ⟨_, _, _, rfl, fun H' _ a _ cs he => notAct_cl he⟩
  have hv' := hv
  obtain ⟨a, c, rfl, hc, hl, -⟩ := SlP.open hv
  refine w_reg fun K hK => ?_
  simp (disch := omega) only [↓wD, ↓i_cbs, ↓i_csk, wU, b_and, b_or, b_shl, b_shr, Nat.reduceBEq, reduceCtorEq, Int.reduceEq, Int.reduceLT, Int.reduceLE, Int.reduceNeg, Value.cells, Value.oneCell', Nat.reduceAdd, Nat.reduceEqDiff, fillL, setL, Nat.reduceLeDiff, ]
  refine hK _ _ ?_
  clear hK K
  refine w_reg fun K hK => ?_
  by_cases h1 : (1 : Int) ≤ l.length
  case neg =>
    simp (disch := omega) only [↓wD, ↓i_cbs, ↓i_csk, wU, b_and, b_or, b_shl, b_shr, Nat.reduceBEq, reduceCtorEq, Int.reduceEq, Int.reduceLT, Int.reduceLE, Int.reduceNeg, Value.cells, Value.oneCell', Nat.reduceAdd, Nat.reduceEqDiff, fillL, setL, Nat.reduceLeDiff, h1]
    refine hK _ _ ?_
    clear hK K
    refine w_ret ?_
    repeat (first | with_reducible refine q_n ?_ | with_reducible refine q_e ?_ | with_reducible refine q_r ?_ | with_reducible refine bq_n ?_ | with_reducible refine bq_e ?_ | with_reducible refine bq_r ?_ | with_reducible refine bq_o rfl ?_)
    refine ret1 (by (try simp only [ev_tmp, ev_const, upd_apply, Nat.reduceBEq, cond_true, cond_false, ]); rfl) ?_
    refine ⟨?_, Ext.refl _⟩
    have : ¬ 1 ≤ l.length := by omega
    simp [actsB, this]
  by_cases h2 : (l.length : Int) ≤ 6
  case neg =>
    simp (disch := omega) only [↓wD, ↓i_cbs, ↓i_csk, wU, b_and, b_or, b_shl, b_shr, Nat.reduceBEq, reduceCtorEq, Int.reduceEq, Int.reduceLT, Int.reduceLE, Int.reduceNeg, Value.cells, Value.oneCell', Nat.reduceAdd, Nat.reduceEqDiff, fillL, setL, Nat.reduceLeDiff, h1, h2]
    refine hK _ _ ?_
    clear hK K
    refine w_ret ?_
    repeat (first | with_reducible refine q_n ?_ | with_reducible refine q_e ?_ | with_reducible refine q_r ?_ | with_reducible refine bq_n ?_ | with_reducible refine bq_e ?_ | with_reducible refine bq_r ?_ | with_reducible refine bq_o rfl ?_)
    refine ret1 (by (try simp only [ev_tmp, ev_const, upd_apply, Nat.reduceBEq, cond_true, cond_false, ]); rfl) ?_
    refine ⟨?_, Ext.refl _⟩
    have : ¬ l.length ≤ 6 := by omega
    simp [actsB, this]
  simp (disch := omega) only [↓wD, ↓i_cbs, ↓i_csk, wU, b_and, b_or, b_shl, b_shr, Nat.reduceBEq, reduceCtorEq, Int.reduceEq, Int.reduceLT, Int.reduceLE, Int.reduceNeg, Value.cells, Value.oneCell', Nat.reduceAdd, Nat.reduceEqDiff, fillL, setL, Nat.reduceLeDiff, h1, h2]
  refine w_call (hasAct_cl hv' hf) ?_
  rintro _ H1 ⟨rfl, hE⟩
  simp (disch := omega) only [↓wD, ↓i_cbs, ↓i_csk, wU, b_and, b_or, b_shl, b_shr, Nat.reduceBEq, reduceCtorEq, Int.reduceEq, Int.reduceLT, Int.reduceLE, Int.reduceNeg, Value.cells, Value.oneCell', Nat.reduceAdd, Nat.reduceEqDiff, fillL, setL, Nat.reduceLeDiff, ]
  refine hK _ _ ?_
  clear hK K
  refine w_ret ?_
  repeat (first | with_reducible refine q_n ?_ | with_reducible refine q_e ?_ | with_reducible refine q_r ?_ | with_reducible refine bq_n ?_ | with_reducible refine bq_e ?_ | with_reducible refine bq_r ?_ | with_reducible refine bq_o rfl ?_)
  refine ret1 (by (try simp only [ev_tmp, ev_const, upd_apply, Nat.reduceBEq, cond_true, cond_false, ]); rfl) ?_
  refine ⟨?_, hE⟩
  rw [any_not]
  have : 1 ≤ l.length := by omega
  have h2' : l.length ≤ 6 := by omega
  simp [actsB, this, h2']

def nameB (n : Nm) : Bool := decide (1 ≤ n.client) && decide (n.client ≤ 8) && decide (1 ≤ n.num) && decide (n.num ≤ 1073741824)
def readBad (k : ByteArray) (r : Rd) : Bool := !decide (r.key = k) || decide (20 < r.value.size) || (!r.is && !decide (r.value = .empty))
def rightB (h : Hd) : Bool := h.acts.all (fun a => decide (a.key = h.key)) && nameB h.name && actsB h.acts && !h.reads.any (readBad h.key) && decide (h.reads.length = h.acts.countP fun a => !decide (a.kind = 2)) && decide (h.put = h.acts.any fun a => !decide (a.kind = 1)) && decide ((h.value.size : Int) ≤ 20) && (h.put || decide (h.value = .empty))

theorem hright_cl {S : Nat → Prop} {H : Hp} {cs : List Value} {h : Hd} (he : ElHd S H cs h) : Cl Tryz.prog 71 [.agg cs.toArray] H fun r H' => r = .bool (rightB h) ∧ Ext H H' := by
  refine cl_of mixed c_holds_right (Nat.le_of_ble_eq_true rfl) ?_
  simp only [fwp, ir_holds_right, argF, Nat.reduceAdd]
  obtain ⟨va, vr, rfl, hva, hvr, hnm, hsk, hsv⟩ := he
  refine w_reg fun K hK => ?_
  simp (disch := omega) only [↓wD, ↓i_cbs, ↓i_csk, wU, b_and, b_or, b_shl, b_shr, Nat.reduceBEq, reduceCtorEq, Int.reduceEq, Int.reduceLT, Int.reduceLE, Int.reduceNeg, Value.cells, Value.oneCell', Nat.reduceAdd, Nat.reduceEqDiff, fillL, setL, Nat.reduceLeDiff, ]
  refine hK _ _ ?_
  clear hK K
  generalize hH0 : H.push (.cells #[.string h.key, .int .i64 h.name.client, .int .i64 h.name.num, va, vr, .bool h.put, .string h.value] 35) = H0
  have hE0 : Ext H H0 := by subst hH0; exact (Ext.refl _).push _
  have hc : rdn H0 H.size 0 7 = some [.string h.key, .int .i64 h.name.client, .int .i64 h.name.num, va, vr, .bool h.put, .string h.value] := by subst hH0; exact rdn_new H _ 35 0 7 (Nat.le_refl _)
  obtain ⟨c0, c1, c2, c3, c4, c5, c6⟩ := rdn7 hc
  have hlt := cell_lt c0
  clear hH0
  replace hva := hva.ext hE0
  replace hvr := hvr.ext hE0
  obtain ⟨a, c, eva, hcc, hl, hel⟩ := SlP.open hva
  refine w_reg fun K hK => ?_
  simp (disch := omega) only [↓wD, ↓i_cbs, ↓i_csk, wU, b_and, b_or, b_shl, b_shr, Nat.reduceBEq, reduceCtorEq, Int.reduceEq, Int.reduceLT, Int.reduceLE, Int.reduceNeg, Value.cells, Value.oneCell', Nat.reduceAdd, Nat.reduceEqDiff, fillL, setL, Nat.reduceLeDiff, ]
  refine hK _ _ ?_
  clear hK K
  refine w_seq (w_seq ?_)
  refine w_reg fun K hK => ?_
  simp (disch := omega) only [↓wD, ↓i_cbs, ↓i_csk, wU, b_and, b_or, b_shl, b_shr, Nat.reduceBEq, reduceCtorEq, Int.reduceEq, Int.reduceLT, Int.reduceLE, Int.reduceNeg, Value.cells, Value.oneCell', Nat.reduceAdd, Nat.reduceEqDiff, fillL, setL, Nat.reduceLeDiff, c3, eva]
  refine hK _ _ ?_
  clear hK K
  refine w_blk (w_loop (fun n f H' => Ext H0 H' ∧ f 1 = .pointer (some ⟨H.size, 0, none⟩) ∧ f 9 = .slice a h.acts.length c ∧ f 10 = .int .i64 h.acts.length ∧ ∃ (i : Nat), f 11 = .int .i64 i ∧ i ≤ h.acts.length ∧ (∀ x ∈ h.acts.take i, x.key = h.key) ∧ f 3 = .int .i64 ((h.acts.take i).countP fun a => !decide (a.kind = 2)) ∧ f 4 = .bool ((h.acts.take i).any fun a => !decide (a.kind = 1)) ∧ n = h.acts.length - i) _ ⟨Ext.refl _, (by simp only [ev_tmp, ev_const, upd_apply, Nat.reduceBEq, cond_true, cond_false, ]), (by simp only [ev_tmp, ev_const, upd_apply, Nat.reduceBEq, cond_true, cond_false, ]), (by simp only [ev_tmp, ev_const, upd_apply, Nat.reduceBEq, cond_true, cond_false, ]), 0, rfl, Nat.zero_le _, by simp, (by simp only [ev_tmp, ev_const, upd_apply, Nat.reduceBEq, cond_true, cond_false, ]; rfl), (by simp only [ev_tmp, ev_const, upd_apply, Nat.reduceBEq, cond_true, cond_false, ]; rfl), rfl⟩ ?_)
  rintro n f H' ⟨hE, f1, f9, f10, i, f11, hi, hkeys, f3, f4, rfl⟩
  have e0 := (hE.cell H.size 0 hlt).trans c0
  have e1 := (hE.cell H.size (0 + 1) hlt).trans c1
  have e2 := (hE.cell H.size (0 + 2) hlt).trans c2
  have e3 := (hE.cell H.size (0 + 3) hlt).trans c3
  have e4 := (hE.cell H.size (0 + 4) hlt).trans c4
  have e5 := (hE.cell H.size (0 + 5) hlt).trans c5
  have e6 := (hE.cell H.size (0 + 6) hlt).trans c6
  have hlt' : H.size < H'.size := Nat.lt_of_lt_of_le hlt hE.size
  by_cases hil : i < h.acts.length
  · obtain ⟨b, o, rfl, hS, cs', hcs, rfl, hk, hn, hs1, hs2⟩ := hel i hil
    refine w_reg fun K hK => ?_
    simp (disch := omega) only [↓wD, ↓i_cbs, ↓i_csk, wU, b_and, b_or, b_shl, b_shr, Nat.reduceBEq, reduceCtorEq, Int.reduceEq, Int.reduceLT, Int.reduceLE, Int.reduceNeg, Value.cells, Value.oneCell', Nat.reduceAdd, Nat.reduceEqDiff, fillL, setL, Nat.reduceLeDiff, f10, f11, hil]
    refine hK _ _ ?_
    clear hK K
    refine w_seq ?_
    refine w_true (by simp only [ev_tmp, ev_const, upd_apply, Nat.reduceBEq, cond_true, cond_false, Bool.not_true, Bool.not_false, ]) ?_
    refine w_skip ?_
    repeat (first | with_reducible refine q_n ?_ | with_reducible refine q_e ?_ | with_reducible refine q_r ?_ | with_reducible refine bq_n ?_ | with_reducible refine bq_e ?_ | with_reducible refine bq_r ?_ | with_reducible refine bq_o rfl ?_)
    refine w_seq (w_blk ?_)
    have hcs' := rdn_ext hE hcs
    refine w_reg fun K hK => ?_
    simp (disch := omega) only [↓wD, ↓i_cbs, ↓i_csk, wU, b_and, b_or, b_shl, b_shr, Nat.reduceBEq, reduceCtorEq, Int.reduceEq, Int.reduceLT, Int.reduceLE, Int.reduceNeg, Value.cells, Value.oneCell', Nat.reduceAdd, Nat.reduceEqDiff, fillL, setL, Nat.reduceLeDiff, f9, f11, hil, hcs']
    refine hK _ _ ?_
    clear hK K
    refine w_seq (w_seq ?_)
    by_cases hkey : h.acts[i].key = h.key
    · have hkeyT := eq_true hkey
      have htake : h.acts.take (i + 1) = h.acts.take i ++ [h.acts[i]] := by
        rw [List.take_add_one, List.getElem?_eq_getElem hil]; rfl
      refine w_reg fun K hK => ?_
      simp (disch := omega) only [↓wD, ↓i_cbs, ↓i_csk, wU, b_and, b_or, b_shl, b_shr, Nat.reduceBEq, reduceCtorEq, Int.reduceEq, Int.reduceLT, Int.reduceLE, Int.reduceNeg, Value.cells, Value.oneCell', Nat.reduceAdd, Nat.reduceEqDiff, fillL, setL, Nat.reduceLeDiff, f1, f9, f11, e0, hkeyT]
      refine hK _ _ ?_
      clear hK K
      refine w_false (by simp only [ev_tmp, ev_const, upd_apply, Nat.reduceBEq, cond_true, cond_false, Bool.not_true, Bool.not_false, ]) ?_
      refine w_skip ?_
      repeat (first | with_reducible refine q_n ?_ | with_reducible refine q_e ?_ | with_reducible refine q_r ?_ | with_reducible refine bq_n ?_ | with_reducible refine bq_e ?_ | with_reducible refine bq_r ?_ | with_reducible refine bq_o rfl ?_)
      refine w_cut (fun g H'' => Ext H0 H'' ∧ H'' = H'.push (.cells #[.int .u8 h.acts[i].kind, .string h.acts[i].key, .string h.acts[i].value, .int .i64 h.acts[i].num] 98) ∧ g 1 = .pointer (some ⟨H.size, 0, none⟩) ∧ g 6 = .pointer (some ⟨H'.size, 0, none⟩) ∧ g 9 = .slice (some ⟨b, o, none⟩) h.acts.length c ∧ g 10 = .int .i64 h.acts.length ∧ g 11 = .int .i64 i ∧ g 3 = .int .i64 ((h.acts.take (i + 1)).countP fun a => !decide (a.kind = 2)) ∧ g 4 = .bool ((h.acts.take i).any fun a => !decide (a.kind = 1))) ?_ ?_
      · refine w_seq ?_
        have hcnt : (h.acts.take i).countP (fun a => !decide (a.kind = 2)) ≤ 140737488355328 := Nat.le_trans List.countP_le_length (by rw [List.length_take]; omega)
        by_cases hk2 : h.acts[i].kind = 2
        · have hk2T := eq_true hk2
          refine w_reg fun K hK => ?_
          simp (disch := omega) only [↓wD, ↓i_cbs, ↓i_csk, wU, b_and, b_or, b_shl, b_shr, Nat.reduceBEq, reduceCtorEq, Int.reduceEq, Int.reduceLT, Int.reduceLE, Int.reduceNeg, Value.cells, Value.oneCell', Nat.reduceAdd, Nat.reduceEqDiff, fillL, setL, Nat.reduceLeDiff, f1, hk2T]
          refine hK _ _ ?_
          clear hK K
          refine w_false (by simp only [ev_tmp, ev_const, upd_apply, Nat.reduceBEq, cond_true, cond_false, Bool.not_true, Bool.not_false, ]) ?_
          refine w_skip ?_
          repeat (first | with_reducible refine q_n ?_ | with_reducible refine q_e ?_ | with_reducible refine q_r ?_ | with_reducible refine bq_n ?_ | with_reducible refine bq_e ?_ | with_reducible refine bq_r ?_ | with_reducible refine bq_o rfl ?_)
          refine ⟨?_, rfl, (by simp only [ev_tmp, ev_const, upd_apply, Nat.reduceBEq, cond_true, cond_false, f1]), (by simp only [ev_tmp, ev_const, upd_apply, Nat.reduceBEq, cond_true, cond_false, ]), (by simp only [ev_tmp, ev_const, upd_apply, Nat.reduceBEq, cond_true, cond_false, f9]), (by simp only [ev_tmp, ev_const, upd_apply, Nat.reduceBEq, cond_true, cond_false, f10]), (by simp only [ev_tmp, ev_const, upd_apply, Nat.reduceBEq, cond_true, cond_false, f11]), ?_, (by simp only [ev_tmp, ev_const, upd_apply, Nat.reduceBEq, cond_true, cond_false, f4])⟩
          · repeat (first | exact Ext.refl _ | assumption | (refine Ext.trans ?_ (by assumption)) | refine Ext.push ?_ _ | refine Ext.putc ?_ (by first | omega | (simp only [Array.size_push, putc_size]; omega)) _ _)
          · simp only [ev_tmp, ev_const, upd_apply, Nat.reduceBEq, cond_true, cond_false, f3]
            rw [htake, List.countP_append]
            simp [hk2]
        · refine w_reg fun K hK => ?_
          simp (disch := omega) only [↓wD, ↓i_cbs, ↓i_csk, wU, b_and, b_or, b_shl, b_shr, Nat.reduceBEq, reduceCtorEq, Int.reduceEq, Int.reduceLT, Int.reduceLE, Int.reduceNeg, Value.cells, Value.oneCell', Nat.reduceAdd, Nat.reduceEqDiff, fillL, setL, Nat.reduceLeDiff, f1, hk2]
          refine hK _ _ ?_
          clear hK K
          refine w_true (by simp only [ev_tmp, ev_const, upd_apply, Nat.reduceBEq, cond_true, cond_false, Bool.not_true, Bool.not_false, ]) ?_
          refine w_reg1 fun K hK => ?_
          simp (disch := omega) only [↓wD, ↓i_cbs, ↓i_csk, wU, b_and, b_or, b_shl, b_shr, Nat.reduceBEq, reduceCtorEq, Int.reduceEq, Int.reduceLT, Int.reduceLE, Int.reduceNeg, Value.cells, Value.oneCell', Nat.reduceAdd, Nat.reduceEqDiff, fillL, setL, Nat.reduceLeDiff, f3]
          refine hK _ _ ?_
          clear hK K
          repeat (first | with_reducible refine q_n ?_ | with_reducible refine q_e ?_ | with_reducible refine q_r ?_ | with_reducible refine bq_n ?_ | with_reducible refine bq_e ?_ | with_reducible refine bq_r ?_ | with_reducible refine bq_o rfl ?_)
          refine ⟨?_, rfl, (by simp only [ev_tmp, ev_const, upd_apply, Nat.reduceBEq, cond_true, cond_false, f1]), (by simp only [ev_tmp, ev_const, upd_apply, Nat.reduceBEq, cond_true, cond_false, ]), (by simp only [ev_tmp, ev_const, upd_apply, Nat.reduceBEq, cond_true, cond_false, f9]), (by simp only [ev_tmp, ev_const, upd_apply, Nat.reduceBEq, cond_true, cond_false, f10]), (by simp only [ev_tmp, ev_const, upd_apply, Nat.reduceBEq, cond_true, cond_false, f11]), ?_, (by simp only [ev_tmp, ev_const, upd_apply, Nat.reduceBEq, cond_true, cond_false, f4])⟩
          · repeat (first | exact Ext.refl _ | assumption | (refine Ext.trans ?_ (by assumption)) | refine Ext.push ?_ _ | refine Ext.putc ?_ (by first | omega | (simp only [Array.size_push, putc_size]; omega)) _ _)
          · simp only [ev_tmp, ev_const, upd_apply, Nat.reduceBEq, cond_true, cond_false]
            rw [htake, List.countP_append]
            simp [hk2]
      rintro g _ ⟨hEg, rfl, g1, g6, g9, g10, g11, g3, g4⟩
      have fin : ∀ (f' : Fr) (x : Bool), f' 1 = .pointer (some ⟨H.size, 0, none⟩) → f' 9 = .slice (some ⟨b, o, none⟩) h.acts.length c → f' 10 = .int .i64 h.acts.length → f' 11 = .int .i64 i → f' 3 = .int .i64 ((h.acts.take (i + 1)).countP fun a => !decide (a.kind = 2)) → f' 4 = .bool ((h.acts.take (i + 1)).any fun a => !decide (a.kind = 1)) → True := fun _ _ _ _ _ _ _ _ => trivial
      cases hany : (h.acts.take i).any fun a => !decide (a.kind = 1) with
      | true =>
        rw [hany] at g4
        refine w_reg1 fun K hK => ?_
        simp (disch := omega) only [↓wD, ↓i_cbs, ↓i_csk, wU, b_and, b_or, b_shl, b_shr, Nat.reduceBEq, reduceCtorEq, Int.reduceEq, Int.reduceLT, Int.reduceLE, Int.reduceNeg, Value.cells, Value.oneCell', Nat.reduceAdd, Nat.reduceEqDiff, fillL, setL, Nat.reduceLeDiff, g4]
        refine hK _ _ ?_
        clear hK K
        repeat (first | with_reducible refine q_n ?_ | with_reducible refine q_e ?_ | with_reducible refine q_r ?_ | with_reducible refine bq_n ?_ | with_reducible refine bq_e ?_ | with_reducible refine bq_r ?_ | with_reducible refine bq_o rfl ?_)
        refine w_reg1 fun K hK => ?_
        simp (disch := omega) only [↓wD, ↓i_cbs, ↓i_csk, wU, b_and, b_or, b_shl, b_shr, Nat.reduceBEq, reduceCtorEq, Int.reduceEq, Int.reduceLT, Int.reduceLE, Int.reduceNeg, Value.cells, Value.oneCell', Nat.reduceAdd, Nat.reduceEqDiff, fillL, setL, Nat.reduceLeDiff, g11]
        refine hK _ _ ?_
        clear hK K
        repeat (first | with_reducible refine q_n ?_ | with_reducible refine q_e ?_ | with_reducible refine q_r ?_ | with_reducible refine bq_n ?_ | with_reducible refine bq_e ?_ | with_reducible refine bq_r ?_ | with_reducible refine bq_o rfl ?_)
        refine ⟨h.acts.length - (i + 1), by omega, hEg, (by simp only [ev_tmp, ev_const, upd_apply, Nat.reduceBEq, cond_true, cond_false, g1]), (by simp only [ev_tmp, ev_const, upd_apply, Nat.reduceBEq, cond_true, cond_false, g9]), (by simp only [ev_tmp, ev_const, upd_apply, Nat.reduceBEq, cond_true, cond_false, g10]), i + 1, (by simp only [ev_tmp, ev_const, upd_apply, Nat.reduceBEq, cond_true, cond_false, ]), by omega, ?_, (by simp only [ev_tmp, ev_const, upd_apply, Nat.reduceBEq, cond_true, cond_false, g3]), ?_, rfl⟩
        · rw [htake]; intro x hx; rcases List.mem_append.1 hx with hx | hx
          · exact hkeys x hx
          · simp at hx; subst hx; exact hkey
        · simp only [ev_tmp, ev_const, upd_apply, Nat.reduceBEq, cond_true, cond_false]
          rw [htake, List.any_append, hany]
          rfl
      | false =>
        rw [hany] at g4
        have hk1 : (h.acts[i].kind = 1) = True ∨ (h.acts[i].kind = 1) = False := by by_cases hk1 : h.acts[i].kind = 1 <;> simp [hk1]
        rcases hk1 with hk1 | hk1
        all_goals
          refine w_reg1 fun K hK => ?_
          simp (disch := omega) only [↓wD, ↓i_cbs, ↓i_csk, wU, b_and, b_or, b_shl, b_shr, Nat.reduceBEq, reduceCtorEq, Int.reduceEq, Int.reduceLT, Int.reduceLE, Int.reduceNeg, Value.cells, Value.oneCell', Nat.reduceAdd, Nat.reduceEqDiff, fillL, setL, Nat.reduceLeDiff, g4, g6, hk1]
          refine hK _ _ ?_
          clear hK K
          repeat (first | with_reducible refine q_n ?_ | with_reducible refine q_e ?_ | with_reducible refine q_r ?_ | with_reducible refine bq_n ?_ | with_reducible refine bq_e ?_ | with_reducible refine bq_r ?_ | with_reducible refine bq_o rfl ?_)
          refine w_reg1 fun K hK => ?_
          simp (disch := omega) only [↓wD, ↓i_cbs, ↓i_csk, wU, b_and, b_or, b_shl, b_shr, Nat.reduceBEq, reduceCtorEq, Int.reduceEq, Int.reduceLT, Int.reduceLE, Int.reduceNeg, Value.cells, Value.oneCell', Nat.reduceAdd, Nat.reduceEqDiff, fillL, setL, Nat.reduceLeDiff, g11]
          refine hK _ _ ?_
          clear hK K
          repeat (first | with_reducible refine q_n ?_ | with_reducible refine q_e ?_ | with_reducible refine q_r ?_ | with_reducible refine bq_n ?_ | with_reducible refine bq_e ?_ | with_reducible refine bq_r ?_ | with_reducible refine bq_o rfl ?_)
          refine ⟨h.acts.length - (i + 1), by omega, hEg, (by simp only [ev_tmp, ev_const, upd_apply, Nat.reduceBEq, cond_true, cond_false, g1]), (by simp only [ev_tmp, ev_const, upd_apply, Nat.reduceBEq, cond_true, cond_false, g9]), (by simp only [ev_tmp, ev_const, upd_apply, Nat.reduceBEq, cond_true, cond_false, g10]), i + 1, (by simp only [ev_tmp, ev_const, upd_apply, Nat.reduceBEq, cond_true, cond_false, ]), by omega, ?_, (by simp only [ev_tmp, ev_const, upd_apply, Nat.reduceBEq, cond_true, cond_false, g3]), ?_, rfl⟩
          · rw [htake]; intro x hx; rcases List.mem_append.1 hx with hx | hx
            · exact hkeys x hx
            · simp at hx; subst hx; exact hkey
          · simp only [ev_tmp, ev_const, upd_apply, Nat.reduceBEq, cond_true, cond_false]
            rw [htake, List.any_append, hany]
            simp [hk1]
    · refine w_reg fun K hK => ?_
      simp (disch := omega) only [↓wD, ↓i_cbs, ↓i_csk, wU, b_and, b_or, b_shl, b_shr, Nat.reduceBEq, reduceCtorEq, Int.reduceEq, Int.reduceLT, Int.reduceLE, Int.reduceNeg, Value.cells, Value.oneCell', Nat.reduceAdd, Nat.reduceEqDiff, fillL, setL, Nat.reduceLeDiff, f1, f9, f11, e0, hkey]
      refine hK _ _ ?_
      clear hK K
      refine w_true (by simp only [ev_tmp, ev_const, upd_apply, Nat.reduceBEq, cond_true, cond_false, Bool.not_true, Bool.not_false, ]) ?_
      refine w_reg fun K hK => ?_
      simp (disch := omega) only [↓wD, ↓i_cbs, ↓i_csk, wU, b_and, b_or, b_shl, b_shr, Nat.reduceBEq, reduceCtorEq, Int.reduceEq, Int.reduceLT, Int.reduceLE, Int.reduceNeg, Value.cells, Value.oneCell', Nat.reduceAdd, Nat.reduceEqDiff, fillL, setL, Nat.reduceLeDiff, ]
      refine hK _ _ ?_
      clear hK K
      refine w_ret ?_
      repeat (first | with_reducible refine q_n ?_ | with_reducible refine q_e ?_ | with_reducible refine q_r ?_ | with_reducible refine bq_n ?_ | with_reducible refine bq_e ?_ | with_reducible refine bq_r ?_ | with_reducible refine bq_o rfl ?_)
      refine ret1 (by (try simp only [ev_tmp, ev_const, upd_apply, Nat.reduceBEq, cond_true, cond_false, ]); rfl) ?_
      refine ⟨?_, ?_⟩
      · have : h.acts.all (fun a => decide (a.key = h.key)) = false := by
          rw [List.all_eq_false]
          exact ⟨_, List.getElem_mem hil, by simp [hkey]⟩
        simp [rightB, this]
      · repeat (first | exact Ext.refl _ | assumption | (refine Ext.trans ?_ (by assumption)) | refine Ext.push ?_ _ | refine Ext.putc ?_ (by first | omega | (simp only [Array.size_push, putc_size]; omega)) _ _)
  · refine w_reg fun K hK => ?_
    simp (disch := omega) only [↓wD, ↓i_cbs, ↓i_csk, wU, b_and, b_or, b_shl, b_shr, Nat.reduceBEq, reduceCtorEq, Int.reduceEq, Int.reduceLT, Int.reduceLE, Int.reduceNeg, Value.cells, Value.oneCell', Nat.reduceAdd, Nat.reduceEqDiff, fillL, setL, Nat.reduceLeDiff, f10, f11, hil]
    refine hK _ _ ?_
    clear hK K
    refine w_seq ?_
    refine w_false (by simp only [ev_tmp, ev_const, upd_apply, Nat.reduceBEq, cond_true, cond_false, Bool.not_true, Bool.not_false, ]) ?_
    refine w_exit ?_
    repeat (first | with_reducible refine q_n ?_ | with_reducible refine q_e ?_ | with_reducible refine q_r ?_ | with_reducible refine bq_n ?_ | with_reducible refine bq_e ?_ | with_reducible refine bq_r ?_ | with_reducible refine bq_o rfl ?_)
    have hfull : h.acts.take i = h.acts := List.take_of_length_le (by omega)
    rw [hfull] at hkeys f3 f4
    have hk : h.acts.all (fun a => decide (a.key = h.key)) = true := by
      rw [List.all_eq_true]; intro x hx; simp [hkeys x hx]
    have hf : FnOn Tryz.prog H' ElRd (.func (.func 126) #[] #[.pointer (some ⟨H.size, 0, none⟩)]) (readBad h.key) h.reads := ⟨_, _, _, rfl, fun H'' hE'' a _ cs he => readBad_cl H.size 0 h.key ((hE''.cell _ _ hlt').trans e0) he⟩
    obtain ⟨ra, rc, evr, hrc, hrl, -⟩ := SlP.open hvr
    refine w_reg fun K hK => ?_
    simp (disch := omega) only [↓wD, ↓i_cbs, ↓i_csk, wU, b_and, b_or, b_shl, b_shr, Nat.reduceBEq, reduceCtorEq, Int.reduceEq, Int.reduceLT, Int.reduceLE, Int.reduceNeg, Value.cells, Value.oneCell', Nat.reduceAdd, Nat.reduceEqDiff, fillL, setL, Nat.reduceLeDiff, f1, e4]
    refine w_call (hasRead_cl (hvr.ext hE) hf) ?_
    rintro _ H2 ⟨rfl, hE2⟩
    simp (disch := omega) only [↓wD, ↓i_cbs, ↓i_csk, wU, b_and, b_or, b_shl, b_shr, Nat.reduceBEq, reduceCtorEq, Int.reduceEq, Int.reduceLT, Int.reduceLE, Int.reduceNeg, Value.cells, Value.oneCell', Nat.reduceAdd, Nat.reduceEqDiff, fillL, setL, Nat.reduceLeDiff, ]
    refine hK _ _ ?_
    clear hK K
    have d1 := (hE2.cell H.size (0 + 1) hlt').trans e1
    have d2 := (hE2.cell H.size (0 + 2) hlt').trans e2
    have d3 := (hE2.cell H.size (0 + 3) hlt').trans e3
    have d4 := (hE2.cell H.size (0 + 4) hlt').trans e4
    have d5 := (hE2.cell H.size (0 + 5) hlt').trans e5
    have d6 := (hE2.cell H.size (0 + 6) hlt').trans e6
    have hlt2 : H.size < H2.size := Nat.lt_of_lt_of_le hlt' hE2.size
    subst evr
    refine w_reg fun K hK => ?_
    simp (disch := omega) only [↓wD, ↓i_cbs, ↓i_csk, wU, b_and, b_or, b_shl, b_shr, Nat.reduceBEq, reduceCtorEq, Int.reduceEq, Int.reduceLT, Int.reduceLE, Int.reduceNeg, Value.cells, Value.oneCell', Nat.reduceAdd, Nat.reduceEqDiff, fillL, setL, Nat.reduceLeDiff, f1, d1, d2]
    refine w_call (Name_cl h.name.client h.name.num) ?_
    rintro _ H3 ⟨rfl, hE3⟩
    have hx3 := fun i => hE3.cell H.size i hlt2
    have hA : Ext H H3 := ((hE0.trans hE).trans hE2).trans hE3
    have hlt3 : H.size < H3.size := Nat.lt_of_lt_of_le hlt2 hE3.size
    have g3 := (hx3 (0 + 3)).trans d3
    have g4 := (hx3 (0 + 4)).trans d4
    have g5 := (hx3 (0 + 5)).trans d5
    have g6 := (hx3 (0 + 6)).trans d6
    clear hx3
    rw [show (decide (1 ≤ h.name.client) && decide (h.name.client ≤ 8) && decide (1 ≤ h.name.num) && decide (h.name.num ≤ 1073741824)) = nameB h.name from rfl]
    cases hnb : nameB h.name with
    | false =>
      simp (disch := omega) only [↓wD, ↓i_cbs, ↓i_csk, wU, b_and, b_or, b_shl, b_shr, Nat.reduceBEq, reduceCtorEq, Int.reduceEq, Int.reduceLT, Int.reduceLE, Int.reduceNeg, Value.cells, Value.oneCell', Nat.reduceAdd, Nat.reduceEqDiff, fillL, setL, Nat.reduceLeDiff, ]
      refine hK _ _ ?_
      clear hK K
      refine w_ret ?_
      repeat (first | with_reducible refine q_n ?_ | with_reducible refine q_e ?_ | with_reducible refine q_r ?_ | with_reducible refine bq_n ?_ | with_reducible refine bq_e ?_ | with_reducible refine bq_r ?_ | with_reducible refine bq_o rfl ?_)
      refine ret1 (by (try simp only [ev_tmp, ev_const, upd_apply, Nat.reduceBEq, cond_true, cond_false, ]); rfl) ?_
      exact ⟨by simp [rightB, hnb], hA⟩
    | true =>
    simp (disch := omega) only [↓wD, ↓i_cbs, ↓i_csk, wU, b_and, b_or, b_shl, b_shr, Nat.reduceBEq, reduceCtorEq, Int.reduceEq, Int.reduceLT, Int.reduceLE, Int.reduceNeg, Value.cells, Value.oneCell', Nat.reduceAdd, Nat.reduceEqDiff, fillL, setL, Nat.reduceLeDiff, f1, g3, eva]
    rw [eva] at hva
    refine w_call (aRight_cl (hva.ext ((hE.trans hE2).trans hE3))) ?_
    rintro _ H4 ⟨rfl, hE4⟩
    have hB := hA.trans hE4
    have k4 := (hE4.cell H.size (0 + 4) hlt3).trans g4
    have k5 := (hE4.cell H.size (0 + 5) hlt3).trans g5
    have k6 := (hE4.cell H.size (0 + 6) hlt3).trans g6
    cases hab : actsB h.acts with
    | false =>
      simp (disch := omega) only [↓wD, ↓i_cbs, ↓i_csk, wU, b_and, b_or, b_shl, b_shr, Nat.reduceBEq, reduceCtorEq, Int.reduceEq, Int.reduceLT, Int.reduceLE, Int.reduceNeg, Value.cells, Value.oneCell', Nat.reduceAdd, Nat.reduceEqDiff, fillL, setL, Nat.reduceLeDiff, ]
      refine hK _ _ ?_
      clear hK K
      refine w_ret ?_
      repeat (first | with_reducible refine q_n ?_ | with_reducible refine q_e ?_ | with_reducible refine q_r ?_ | with_reducible refine bq_n ?_ | with_reducible refine bq_e ?_ | with_reducible refine bq_r ?_ | with_reducible refine bq_o rfl ?_)
      refine ret1 (by (try simp only [ev_tmp, ev_const, upd_apply, Nat.reduceBEq, cond_true, cond_false, ]); rfl) ?_
      exact ⟨by simp [rightB, hab], hB⟩
    | true =>
    cases hrb : h.reads.any (readBad h.key) with
    | true =>
      simp (disch := omega) only [↓wD, ↓i_cbs, ↓i_csk, wU, b_and, b_or, b_shl, b_shr, Nat.reduceBEq, reduceCtorEq, Int.reduceEq, Int.reduceLT, Int.reduceLE, Int.reduceNeg, Value.cells, Value.oneCell', Nat.reduceAdd, Nat.reduceEqDiff, fillL, setL, Nat.reduceLeDiff, hrb]
      refine hK _ _ ?_
      clear hK K
      refine w_ret ?_
      repeat (first | with_reducible refine q_n ?_ | with_reducible refine q_e ?_ | with_reducible refine q_r ?_ | with_reducible refine bq_n ?_ | with_reducible refine bq_e ?_ | with_reducible refine bq_r ?_ | with_reducible refine bq_o rfl ?_)
      refine ret1 (by (try simp only [ev_tmp, ev_const, upd_apply, Nat.reduceBEq, cond_true, cond_false, ]); rfl) ?_
      exact ⟨by simp [rightB, hrb], hB⟩
    | false =>
    have hln : (h.reads.length = h.acts.countP fun a => !decide (a.kind = 2)) = True ∨ (h.reads.length = h.acts.countP fun a => !decide (a.kind = 2)) = False := by
      by_cases e : (h.reads.length = h.acts.countP fun a => !decide (a.kind = 2)) <;> simp [e]
    rcases hln with hln | hln
    case inr =>
      simp (disch := omega) only [↓wD, ↓i_cbs, ↓i_csk, wU, b_and, b_or, b_shl, b_shr, Nat.reduceBEq, reduceCtorEq, Int.reduceEq, Int.reduceLT, Int.reduceLE, Int.reduceNeg, Value.cells, Value.oneCell', Nat.reduceAdd, Nat.reduceEqDiff, fillL, setL, Nat.reduceLeDiff, hrb, f1, f3, k4, hln]
      refine hK _ _ ?_
      clear hK K
      refine w_ret ?_
      repeat (first | with_reducible refine q_n ?_ | with_reducible refine q_e ?_ | with_reducible refine q_r ?_ | with_reducible refine bq_n ?_ | with_reducible refine bq_e ?_ | with_reducible refine bq_r ?_ | with_reducible refine bq_o rfl ?_)
      refine ret1 (by (try simp only [ev_tmp, ev_const, upd_apply, Nat.reduceBEq, cond_true, cond_false, ]); rfl) ?_
      exact ⟨by simp only [rightB, hln, decide_false, Bool.and_false, Bool.false_and], hB⟩
    have hpt : (h.put = h.acts.any fun a => !decide (a.kind = 1)) = True ∨ (h.put = h.acts.any fun a => !decide (a.kind = 1)) = False := by
      by_cases e : (h.put = h.acts.any fun a => !decide (a.kind = 1)) <;> simp [e]
    rcases hpt with hpt | hpt
    case inr =>
      simp (disch := omega) only [↓wD, ↓i_cbs, ↓i_csk, wU, b_and, b_or, b_shl, b_shr, Nat.reduceBEq, reduceCtorEq, Int.reduceEq, Int.reduceLT, Int.reduceLE, Int.reduceNeg, Value.cells, Value.oneCell', Nat.reduceAdd, Nat.reduceEqDiff, fillL, setL, Nat.reduceLeDiff, hrb, f1, f3, f4, k4, k5, hln, hpt]
      refine hK _ _ ?_
      clear hK K
      refine w_ret ?_
      repeat (first | with_reducible refine q_n ?_ | with_reducible refine q_e ?_ | with_reducible refine q_r ?_ | with_reducible refine bq_n ?_ | with_reducible refine bq_e ?_ | with_reducible refine bq_r ?_ | with_reducible refine bq_o rfl ?_)
      refine ret1 (by (try simp only [ev_tmp, ev_const, upd_apply, Nat.reduceBEq, cond_true, cond_false, ]); rfl) ?_
      exact ⟨by simp only [rightB, hpt, decide_false, Bool.and_false, Bool.false_and], hB⟩
    have hsz : ((h.value.size : Int) ≤ 20) = True ∨ ((h.value.size : Int) ≤ 20) = False := by
      by_cases e : ((h.value.size : Int) ≤ 20) <;> simp [e]
    rcases hsz with hsz | hsz
    case inr =>
      simp (disch := omega) only [↓wD, ↓i_cbs, ↓i_csk, wU, b_and, b_or, b_shl, b_shr, Nat.reduceBEq, reduceCtorEq, Int.reduceEq, Int.reduceLT, Int.reduceLE, Int.reduceNeg, Value.cells, Value.oneCell', Nat.reduceAdd, Nat.reduceEqDiff, fillL, setL, Nat.reduceLeDiff, hrb, f1, f3, f4, k4, k5, k6, hln, hpt, hsz]
      refine hK _ _ ?_
      clear hK K
      refine w_ret ?_
      repeat (first | with_reducible refine q_n ?_ | with_reducible refine q_e ?_ | with_reducible refine q_r ?_ | with_reducible refine bq_n ?_ | with_reducible refine bq_e ?_ | with_reducible refine bq_r ?_ | with_reducible refine bq_o rfl ?_)
      refine ret1 (by (try simp only [ev_tmp, ev_const, upd_apply, Nat.reduceBEq, cond_true, cond_false, ]); rfl) ?_
      exact ⟨by simp only [rightB, hsz, decide_false, Bool.and_false, Bool.false_and], hB⟩
    cases hp : h.put with
    | true =>
      rw [hp] at k5 hpt
      simp (disch := omega) only [↓wD, ↓i_cbs, ↓i_csk, wU, b_and, b_or, b_shl, b_shr, Nat.reduceBEq, reduceCtorEq, Int.reduceEq, Int.reduceLT, Int.reduceLE, Int.reduceNeg, Value.cells, Value.oneCell', Nat.reduceAdd, Nat.reduceEqDiff, fillL, setL, Nat.reduceLeDiff, hrb, f1, f3, f4, k4, k5, k6, hln, hpt, hsz]
      refine hK _ _ ?_
      clear hK K
      refine w_ret ?_
      repeat (first | with_reducible refine q_n ?_ | with_reducible refine q_e ?_ | with_reducible refine q_r ?_ | with_reducible refine bq_n ?_ | with_reducible refine bq_e ?_ | with_reducible refine bq_r ?_ | with_reducible refine bq_o rfl ?_)
      refine ret1 (by (try simp only [ev_tmp, ev_const, upd_apply, Nat.reduceBEq, cond_true, cond_false, ]); rfl) ?_
      exact ⟨by simp only [rightB, hk, hnb, hab, hrb, hln, hp, hpt, hsz, decide_true, Bool.not_false, Bool.and_true, Bool.true_and, Bool.true_or], hB⟩
    | false =>
      rw [hp] at k5 hpt
      simp (disch := omega) only [↓wD, ↓i_cbs, ↓i_csk, wU, b_and, b_or, b_shl, b_shr, Nat.reduceBEq, reduceCtorEq, Int.reduceEq, Int.reduceLT, Int.reduceLE, Int.reduceNeg, Value.cells, Value.oneCell', Nat.reduceAdd, Nat.reduceEqDiff, fillL, setL, Nat.reduceLeDiff, hrb, f1, f3, f4, k4, k5, k6, hln, hpt, hsz]
      refine hK _ _ ?_
      clear hK K
      refine w_ret ?_
      repeat (first | with_reducible refine q_n ?_ | with_reducible refine q_e ?_ | with_reducible refine q_r ?_ | with_reducible refine bq_n ?_ | with_reducible refine bq_e ?_ | with_reducible refine bq_r ?_ | with_reducible refine bq_o rfl ?_)
      refine ret1 (by (try simp only [ev_tmp, ev_const, upd_apply, Nat.reduceBEq, cond_true, cond_false, ]); rfl) ?_
      exact ⟨by simp only [rightB, hk, hnb, hab, hrb, hln, hp, hpt, hsz, decide_true, Bool.not_false, Bool.and_true, Bool.true_and, Bool.false_or], hB⟩

theorem notHold_cl {S : Nat → Prop} {H : Hp} {cs : List Value} {h : Hd} (he : ElHd S H cs h) : Cl Tryz.prog 70 [.agg cs.toArray] H fun r H' => r = .bool (!rightB h) ∧ Ext H H' := by
  refine cl_of mixed c_holds_Right_1 (Nat.le_of_ble_eq_true rfl) ?_
  simp only [fwp, ir_holds_Right_1, argF, Nat.reduceAdd]
  have hl : cs.length = 7 := by obtain ⟨va, vr, rfl, _⟩ := he; rfl
  refine w_reg fun K hK => ?_
  simp (disch := omega) only [↓wD, ↓i_cbs, ↓i_csk, wU, b_and, b_or, b_shl, b_shr, Nat.reduceBEq, reduceCtorEq, Int.reduceEq, Int.reduceLT, Int.reduceLE, Int.reduceNeg, Value.cells, Value.oneCell', Nat.reduceAdd, Nat.reduceEqDiff, fillL, setL, Nat.reduceLeDiff, ]
  refine hK _ _ ?_
  clear hK K
  refine w_reg fun K hK => ?_
  have hr : rdn (H.push (.cells cs.toArray 35)) H.size 0 7 = some cs := by
    rw [rdn_new H cs 35 0 7 (by omega), List.drop_zero, List.take_of_length_le (by omega)]
  simp (disch := omega) only [↓wD, ↓i_cbs, ↓i_csk, wU, b_and, b_or, b_shl, b_shr, Nat.reduceBEq, reduceCtorEq, Int.reduceEq, Int.reduceLT, Int.reduceLE, Int.reduceNeg, Value.cells, Value.oneCell', Nat.reduceAdd, Nat.reduceEqDiff, fillL, setL, Nat.reduceLeDiff, hr]
  refine w_call (hright_cl (he.ext ((Ext.refl _).push _))) ?_
  rintro _ H1 ⟨rfl, hE⟩
  simp (disch := omega) only [↓wD, ↓i_cbs, ↓i_csk, wU, b_and, b_or, b_shl, b_shr, Nat.reduceBEq, reduceCtorEq, Int.reduceEq, Int.reduceLT, Int.reduceLE, Int.reduceNeg, Value.cells, Value.oneCell', Nat.reduceAdd, Nat.reduceEqDiff, fillL, setL, Nat.reduceLeDiff, ]
  refine hK _ _ ?_
  clear hK K
  refine w_ret ?_
  repeat (first | with_reducible refine q_n ?_ | with_reducible refine q_e ?_ | with_reducible refine q_r ?_ | with_reducible refine bq_n ?_ | with_reducible refine bq_e ?_ | with_reducible refine bq_r ?_ | with_reducible refine bq_o rfl ?_)
  refine ret1 (by (try simp only [ev_tmp, ev_const, upd_apply, Nat.reduceBEq, cond_true, cond_false, ]); rfl) ?_
  refine ⟨rfl, ?_⟩
  repeat (first | exact Ext.refl _ | assumption | (refine Ext.trans ?_ (by assumption)) | refine Ext.push ?_ _ | refine Ext.putc ?_ (by first | omega | (simp only [Array.size_push, putc_size]; omega)) _ _)

theorem Right_cl {S : Nat → Prop} {H : Hp} {v : Value} {l : List Hd} (hv : HdSl S H v l) : Cl Tryz.prog 25 [v] H fun r H' => r = .bool (l.all rightB) ∧ Ext H H' := by
  refine cl_of mixed c_holds_Right (Nat.le_of_ble_eq_true rfl) ?_
  simp only [fwp, ir_holds_Right, argF, Nat.reduceAdd]
  have hf : FnOn Tryz.prog H (ElHd S H) (.func (.func 70) #[] #[]) (fun h => !rightB h) l := ⟨_, _, _, rfl, fun H' hE a _ cs he => notHold_cl (he.ext hE)⟩
  refine w_reg fun K hK => ?_
  simp (disch := omega) only [↓wD, ↓i_cbs, ↓i_csk, wU, b_and, b_or, b_shl, b_shr, Nat.reduceBEq, reduceCtorEq, Int.reduceEq, Int.reduceLT, Int.reduceLE, Int.reduceNeg, Value.cells, Value.oneCell', Nat.reduceAdd, Nat.reduceEqDiff, fillL, setL, Nat.reduceLeDiff, ]
  refine hK _ _ ?_
  clear hK K
  refine w_reg fun K hK => ?_
  simp (disch := omega) only [↓wD, ↓i_cbs, ↓i_csk, wU, b_and, b_or, b_shl, b_shr, Nat.reduceBEq, reduceCtorEq, Int.reduceEq, Int.reduceLT, Int.reduceLE, Int.reduceNeg, Value.cells, Value.oneCell', Nat.reduceAdd, Nat.reduceEqDiff, fillL, setL, Nat.reduceLeDiff, ]
  refine w_call (hasHold_cl hv hf) ?_
  rintro _ H1 ⟨rfl, hE⟩
  simp (disch := omega) only [↓wD, ↓i_cbs, ↓i_csk, wU, b_and, b_or, b_shl, b_shr, Nat.reduceBEq, reduceCtorEq, Int.reduceEq, Int.reduceLT, Int.reduceLE, Int.reduceNeg, Value.cells, Value.oneCell', Nat.reduceAdd, Nat.reduceEqDiff, fillL, setL, Nat.reduceLeDiff, ]
  refine hK _ _ ?_
  clear hK K
  refine w_ret ?_
  repeat (first | with_reducible refine q_n ?_ | with_reducible refine q_e ?_ | with_reducible refine q_r ?_ | with_reducible refine bq_n ?_ | with_reducible refine bq_e ?_ | with_reducible refine bq_r ?_ | with_reducible refine bq_o rfl ?_)
  refine ret1 (by (try simp only [ev_tmp, ev_const, upd_apply, Nat.reduceBEq, cond_true, cond_false, ]); rfl) ?_
  exact ⟨by rw [any_not], hE⟩
end Go.WK
/-
  The texts in the small language of some loaded functions, each held against the loaded one by the kernel.
-/
namespace Go.WK
open Go
def ir_slices_Clone_Act : FIR := ⟨8, (.seq (.reg [.s 2 (.mv (.const (.slice none 0 0)))])
 (.seq (.seq (.reg [.s 3 (.mv (.tmp 0)),
    .s 4 (.eqz .sli false (.tmp 3) (.const (.slice none 0 0)))])
   (.cnd (.tmp 4) (.seq (.reg [.s 2 (.mv (.const (.slice none 0 0)))])
      .ret)
     .skip))
  (.seq (.reg [.s 5 (.bsl 98 0 [] []),
    .s 6 (.mv (.tmp 0)),
    .s 7 (.app 98 4 48 [(.int .u8 0), (.string .empty), (.string .empty), (.int .i64 0)] (.tmp 5) (.tmp 6)),
    .s 2 (.mv (.tmp 7))])
   .ret))), [.t 2]⟩
theorem c_slices_Clone_Act : (compF Go.Proofs.Tryz.prog 108).map linF = some ir_slices_Clone_Act := by kernel_rfl
def ir_slices_Clone_Read : FIR := ⟨8, (.seq (.reg [.s 2 (.mv (.const (.slice none 0 0)))])
 (.seq (.seq (.reg [.s 3 (.mv (.tmp 0)),
    .s 4 (.eqz .sli false (.tmp 3) (.const (.slice none 0 0)))])
   (.cnd (.tmp 4) (.seq (.reg [.s 2 (.mv (.const (.slice none 0 0)))])
      .ret)
     .skip))
  (.seq (.reg [.s 5 (.bsl 100 0 [] []),
    .s 6 (.mv (.tmp 0)),
    .s 7 (.app 100 3 40 [(.string .empty), (.bool false), (.string .empty)] (.tmp 5) (.tmp 6)),
    .s 2 (.mv (.tmp 7))])
   .ret))), [.t 2]⟩
theorem c_slices_Clone_Read : (compF Go.Proofs.Tryz.prog 109).map linF = some ir_slices_Clone_Read := by kernel_rfl
def ir_holds_own : FIR := ⟨26, (.seq (.reg [.s 2 (.mv (.const (.slice none 0 0)))])
 (.seq (.reg [.s 3 (.mv (.const (.slice none 0 0)))])
  (.seq (.seq (.reg [.s 6 (.mv (.tmp 0)),
     .s 7 (.len (.tmp 6)),
     .s 8 (.mv (.const (.int .i64 0)))])
    (.blk 0 (.loop (.seq (.reg [.s 9 (.bin .lss (.tmp 8) (.tmp 7))])
       (.seq (.cnd (.tmp 9) .skip
          (.exit 0))
        (.seq (.blk 1 (.seq (.reg [.s 10 (.ia 7 (.tmp 6) (.tmp 8)),
            .s 11 (.ldn 7 (.tmp 10)),
            .s 5 (.new 35 [(.string .empty), (.int .i64 0), (.int .i64 0), (.slice none 0 0), (.slice none 0 0), (.bool false), (.string .empty)]),
            .e (.st 7 (.tmp 5) (.tmp 11))])
           (.seq (.lin [(false, .s 12 (.fa 3 (.tmp 5))),
             (false, .s 13 (.ld (.tmp 12))),
             (false, .s 15 (.fa 4 (.tmp 5))),
             (false, .s 16 (.ld (.tmp 15))),
             (true, .s 14 (.call 108 [(.tmp 13)])),
             (false, .s 18 (.fa 3 (.tmp 5))),
             (true, .s 17 (.call 109 [(.tmp 16)])),
             (false, .e (.st 1 (.tmp 18) (.tmp 14))),
             (false, .s 19 (.fa 4 (.tmp 5))),
             (false, .e (.st 1 (.tmp 19) (.tmp 17)))])
            (.reg [.s 20 (.mv (.tmp 3)),
             .s 21 (.ldn 7 (.tmp 5)),
             .s 22 (.bsl 35 1 [(.string .empty), (.int .i64 0), (.int .i64 0), (.slice none 0 0), (.slice none 0 0), (.bool false), (.string .empty)] [(0, 7, (.tmp 21))]),
             .s 23 (.app 35 7 104 [(.string .empty), (.int .i64 0), (.int .i64 0), (.slice none 0 0), (.slice none 0 0), (.bool false), (.string .empty)] (.tmp 20) (.tmp 22)),
             .s 3 (.mv (.tmp 23))]))))
         (.reg [.s 24 (.bin .add (.tmp 8) (.const (.int .i64 1))),
          .s 8 (.mv (.tmp 24))])))))))
   (.seq (.reg [.s 25 (.mv (.tmp 3)),
     .s 2 (.mv (.tmp 25))])
    .ret)))), [.t 2]⟩
theorem c_holds_own : (compF Go.Proofs.Tryz.prog 53).map linF = some ir_holds_own := by kernel_rfl
def ir_holds_row_those : FIR := ⟨27, (.seq (.reg [.s 4 (.mv (.const (.slice none 0 0)))])
 (.seq (.reg [.s 5 (.mv (.const (.slice none 0 0)))])
  (.seq (.seq (.reg [.s 8 (.mv (.tmp 0)),
     .s 9 (.nck (.tmp 8)),
     .s 10 (.fa 0 (.tmp 9)),
     .s 11 (.ld (.tmp 10)),
     .s 12 (.len (.tmp 11)),
     .s 13 (.mv (.const (.int .i64 0)))])
    (.blk 0 (.loop (.seq (.reg [.s 14 (.bin .lss (.tmp 13) (.tmp 12))])
       (.seq (.cnd (.tmp 14) .skip
          (.exit 0))
        (.seq (.blk 1 (.seq (.reg [.s 15 (.ia 7 (.tmp 11) (.tmp 13)),
            .s 16 (.ldn 7 (.tmp 15)),
            .s 7 (.new 35 [(.string .empty), (.int .i64 0), (.int .i64 0), (.slice none 0 0), (.slice none 0 0), (.bool false), (.string .empty)]),
            .e (.st 7 (.tmp 7) (.tmp 16))])
           (.seq (.reg [.s 17 (.mv (.tmp 1)),
             .s 18 (.ldn 7 (.tmp 7)),
             .s 19 (.callv (.tmp 17) [(.tmp 18)])])
            (.cnd (.tmp 19) (.reg [.s 20 (.mv (.tmp 5)),
               .s 21 (.ldn 7 (.tmp 7)),
               .s 22 (.bsl 35 1 [(.string .empty), (.int .i64 0), (.int .i64 0), (.slice none 0 0), (.slice none 0 0), (.bool false), (.string .empty)] [(0, 7, (.tmp 21))]),
               .s 23 (.app 35 7 104 [(.string .empty), (.int .i64 0), (.int .i64 0), (.slice none 0 0), (.slice none 0 0), (.bool false), (.string .empty)] (.tmp 20) (.tmp 22)),
               .s 5 (.mv (.tmp 23))])
              .skip))))
         (.reg [.s 24 (.bin .add (.tmp 13) (.const (.int .i64 1))),
          .s 13 (.mv (.tmp 24))])))))))
   (.seq (.reg [.s 25 (.mv (.tmp 5)),
     .s 26 (.call 53 [(.tmp 25)]),
     .s 4 (.mv (.tmp 26))])
    .ret)))), [.t 4]⟩
theorem c_holds_row_those : (compF Go.Proofs.Tryz.prog 49).map linF = some ir_holds_row_those := by kernel_rfl
def ir_holds_row_less : FIR := ⟨19, (.seq (.reg [.s 4 (.mv (.const (.slice none 0 0)))])
 (.seq (.reg [.s 6 (.mv (.tmp 0)),
   .s 7 (.mv (.tmp 1)),
   .s 8 (.call 49 [(.tmp 6), (.tmp 7)]),
   .s 5 (.mv (.tmp 8))])
  (.seq (.reg [.s 9 (.mv (.tmp 0)),
    .s 10 (.mv (.tmp 0)),
    .s 11 (.nck (.tmp 10)),
    .s 12 (.fa 0 (.tmp 11)),
    .s 13 (.ld (.tmp 12)),
    .s 14 (.mv (.tmp 1)),
    .s 15 (.call 113 [(.tmp 13), (.tmp 14)]),
    .s 16 (.nck (.tmp 9)),
    .s 17 (.fa 0 (.tmp 16)),
    .e (.st 1 (.tmp 17) (.tmp 15))])
   (.seq (.reg [.s 18 (.mv (.tmp 5)),
     .s 4 (.mv (.tmp 18))])
    .ret)))), [.t 4]⟩
theorem c_holds_row_less : (compF Go.Proofs.Tryz.prog 56).map linF = some ir_holds_row_less := by kernel_rfl
def ir_slices_DeleteFunc_Hold : FIR := ⟨42, (.seq (.reg [.s 4 (.mv (.const (.slice none 0 0)))])
 (.seq (.reg [.s 8 (.mv (.tmp 0)),
   .s 9 (.mv (.tmp 1)),
   .s 10 (.call 124 [(.tmp 8), (.tmp 9)]),
   .s 5 (.mv (.tmp 10))])
  (.seq (.seq (.reg [.s 11 (.mv (.tmp 5)),
     .s 12 (.bin .eql (.tmp 11) (.const (.int .i64 (-1))))])
    (.cnd (.tmp 12) (.seq (.reg [.s 13 (.mv (.tmp 0)),
        .s 4 (.mv (.tmp 13))])
       .ret)
      .skip))
   (.seq (.seq (.reg [.s 14 (.mv (.tmp 5)),
      .s 15 (.bin .add (.tmp 14) (.const (.int .i64 1))),
      .s 6 (.mv (.tmp 15))])
     (.blk 0 (.loop (.seq (.seq (.reg [.s 16 (.mv (.tmp 6)),
          .s 17 (.mv (.tmp 0)),
          .s 18 (.len (.tmp 17)),
          .s 19 (.bin .lss (.tmp 16) (.tmp 18))])
         (.cnd (.tmp 19) .skip
           (.exit 0)))
        (.seq (.blk 1 (.seq (.reg [.s 22 (.mv (.tmp 0)),
            .s 23 (.mv (.tmp 6)),
            .s 24 (.ia 7 (.tmp 22) (.tmp 23)),
            .s 25 (.ldn 7 (.tmp 24)),
            .s 7 (.new 35 [(.string .empty), (.int .i64 0), (.int .i64 0), (.slice none 0 0), (.slice none 0 0), (.bool false), (.string .empty)]),
            .e (.st 7 (.tmp 7) (.tmp 25))])
           (.seq (.reg [.s 26 (.mv (.tmp 1)),
             .s 27 (.ldn 7 (.tmp 7)),
             .s 28 (.callv (.tmp 26) [(.tmp 27)]),
             .s 29 (.un .not (.tmp 28))])
            (.cnd (.tmp 29) (.seq (.reg [.s 30 (.mv (.tmp 0)),
                .s 31 (.mv (.tmp 5)),
                .s 32 (.ldn 7 (.tmp 7)),
                .s 33 (.ia 7 (.tmp 30) (.tmp 31)),
                .e (.st 7 (.tmp 33) (.tmp 32))])
               (.reg [.s 34 (.mv (.tmp 5)),
                .s 35 (.bin .add (.tmp 34) (.const (.int .i64 1))),
                .s 5 (.mv (.tmp 35))]))
              .skip))))
         (.reg [.s 20 (.mv (.tmp 6)),
          .s 21 (.bin .add (.tmp 20) (.const (.int .i64 1))),
          .s 6 (.mv (.tmp 21))]))))))
    (.seq (.reg [.s 36 (.mv (.tmp 0)),
      .s 37 (.mv (.tmp 5)),
      .s 38 (.sl 7 (.tmp 36) (some (.tmp 37)) none none),
      .e (.clr 7 [(.string .empty), (.int .i64 0), (.int .i64 0), (.slice none 0 0), (.slice none 0 0), (.bool false), (.string .empty)] (.tmp 38))])
     (.seq (.reg [.s 39 (.mv (.tmp 0)),
       .s 40 (.mv (.tmp 5)),
       .s 41 (.sl 7 (.tmp 39) none (some (.tmp 40)) none),
       .s 4 (.mv (.tmp 41))])
      .ret)))))), [.t 4]⟩
theorem c_slices_DeleteFunc_Hold : (compF Go.Proofs.Tryz.prog 113).map linF = some ir_slices_DeleteFunc_Hold := by kernel_rfl
def ir_slices_Index_string : FIR := ⟨19, (.seq (.reg [.s 4 (.mv (.const (.int .i64 0)))])
 (.seq (.seq (.reg [.s 6 (.mv (.tmp 0)),
    .s 7 (.len (.tmp 6)),
    .s 8 (.mv (.const (.int .i64 0)))])
   (.blk 0 (.loop (.seq (.reg [.s 9 (.bin .lss (.tmp 8) (.tmp 7))])
      (.seq (.cnd (.tmp 9) .skip
         (.exit 0))
       (.seq (.blk 1 (.seq (.reg [.s 10 (.mv (.tmp 8)),
           .s 5 (.mv (.tmp 10))])
          (.seq (.reg [.s 11 (.mv (.tmp 1)),
            .s 12 (.mv (.tmp 0)),
            .s 13 (.mv (.tmp 5)),
            .s 14 (.ia 1 (.tmp 12) (.tmp 13)),
            .s 15 (.ld (.tmp 14)),
            .s 16 (.bin .eql (.tmp 11) (.tmp 15))])
           (.cnd (.tmp 16) (.seq (.reg [.s 17 (.mv (.tmp 5)),
               .s 4 (.mv (.tmp 17))])
              .ret)
             .skip))))
        (.reg [.s 18 (.bin .add (.tmp 8) (.const (.int .i64 1))),
         .s 8 (.mv (.tmp 18))])))))))
  (.seq (.reg [.s 4 (.mv (.const (.int .i64 (-1))))])
   .ret))), [.t 4]⟩
theorem c_slices_Index_string : (compF Go.Proofs.Tryz.prog 114).map linF = some ir_slices_Index_string := by kernel_rfl
def ir_slices_Contains_string : FIR := ⟨9, (.seq (.reg [.s 4 (.mv (.const (.bool false)))])
 (.seq (.reg [.s 5 (.mv (.tmp 0)),
   .s 6 (.mv (.tmp 1)),
   .s 7 (.call 114 [(.tmp 5), (.tmp 6)]),
   .s 8 (.bin .geq (.tmp 7) (.const (.int .i64 0))),
   .s 4 (.mv (.tmp 8))])
  .ret)), [.t 4]⟩
theorem c_slices_Contains_string : (compF Go.Proofs.Tryz.prog 58).map linF = some ir_slices_Contains_string := by kernel_rfl
end Go.WK
/-
  The texts in the small language of some loaded functions, each held against the loaded one by the kernel.
-/
namespace Go.WK
open Go
def ir_holds_Holds_Free_1 : FIR := ⟨8, (.seq (.reg [.s 2 (.box 35 (.tmp 0)),
  .s 3 (.mv (.const (.bool false)))])
 (.seq (.reg [.s 4 (.ld (.tmp 1)),
   .s 5 (.fa 0 (.tmp 2)),
   .s 6 (.ld (.tmp 5)),
   .s 7 (.call 58 [(.tmp 4), (.tmp 6)]),
   .s 3 (.mv (.tmp 7))])
  .ret)), [.t 3]⟩
theorem c_holds_Holds_Free_1 : (compF Go.Proofs.Tryz.prog 57).map linF = some ir_holds_Holds_Free_1 := by kernel_rfl
def ir_holds_Holds_In_1 : FIR := ⟨8, (.seq (.reg [.s 2 (.box 35 (.tmp 0)),
  .s 3 (.mv (.const (.bool false)))])
 (.seq (.reg [.s 4 (.ldn 2 (.tmp 1)),
   .s 5 (.fa 0 (.tmp 2)),
   .s 6 (.ld (.tmp 5)),
   .s 7 (.call 34 [(.tmp 4), (.tmp 6)]),
   .s 3 (.mv (.tmp 7))])
  .ret)), [.t 3]⟩
theorem c_holds_Holds_In_1 : (compF Go.Proofs.Tryz.prog 50).map linF = some ir_holds_Holds_In_1 := by kernel_rfl
end Go.WK
/-
  The texts in the small language of some loaded functions, each held against the loaded one by the kernel.
-/
namespace Go.WK
open Go
def ir_slices_BinarySearchFunc_string : FIR := ⟨49, (.seq (.reg [.s 6 (.mv (.const (.int .i64 0))),
  .s 7 (.mv (.const (.bool false)))])
 (.seq (.reg [.s 12 (.mv (.tmp 0)),
   .s 13 (.len (.tmp 12)),
   .s 8 (.mv (.tmp 13))])
  (.seq (.reg [.s 14 (.mv (.tmp 8)),
    .s 9 (.mv (.const (.int .i64 0))),
    .s 10 (.mv (.tmp 14))])
   (.seq (.blk 0 (.loop (.seq (.seq (.reg [.s 15 (.mv (.tmp 9)),
         .s 16 (.mv (.tmp 10)),
         .s 17 (.bin .lss (.tmp 15) (.tmp 16))])
        (.cnd (.tmp 17) .skip
          (.exit 0)))
       (.blk 1 (.seq (.reg [.s 18 (.mv (.tmp 9)),
          .s 19 (.mv (.tmp 10)),
          .s 20 (.bin .add (.tmp 18) (.tmp 19)),
          .s 21 (.cvi .u64 (.tmp 20)),
          .s 22 (.bin .shr (.tmp 21) (.const (.int .u64 1))),
          .s 23 (.cvi .i64 (.tmp 22)),
          .s 11 (.mv (.tmp 23))])
         (.seq (.reg [.s 24 (.mv (.tmp 2)),
           .s 25 (.mv (.tmp 0)),
           .s 26 (.mv (.tmp 11)),
           .s 27 (.ia 7 (.tmp 25) (.tmp 26)),
           .s 28 (.ldn 7 (.tmp 27)),
           .s 29 (.mv (.tmp 1)),
           .s 30 (.callv (.tmp 24) [(.tmp 28), (.tmp 29)]),
           .s 31 (.bin .lss (.tmp 30) (.const (.int .i64 0)))])
          (.cnd (.tmp 31) (.reg [.s 32 (.mv (.tmp 11)),
             .s 33 (.bin .add (.tmp 32) (.const (.int .i64 1))),
             .s 9 (.mv (.tmp 33))])
            (.reg [.s 34 (.mv (.tmp 11)),
             .s 10 (.mv (.tmp 34))]))))))))
    (.seq (.reg [.s 35 (.mv (.tmp 9)),
      .s 36 (.mv (.tmp 9)),
      .s 37 (.mv (.tmp 8)),
      .s 38 (.bin .lss (.tmp 36) (.tmp 37)),
      .s 39 (.mv (.tmp 38)),
      .g 40 39 true (.mv (.tmp 2)),
      .g 41 39 true (.mv (.tmp 0)),
      .g 42 39 true (.mv (.tmp 9)),
      .g 43 39 true (.ia 7 (.tmp 41) (.tmp 42)),
      .g 44 39 true (.ldn 7 (.tmp 43)),
      .g 45 39 true (.mv (.tmp 1)),
      .g 46 39 true (.callv (.tmp 40) [(.tmp 44), (.tmp 45)]),
      .g 47 39 true (.bin .eql (.tmp 46) (.const (.int .i64 0))),
      .s 48 (.pick (.tmp 39) (.tmp 47) (.const (.bool false))),
      .s 6 (.mv (.tmp 35)),
      .s 7 (.mv (.tmp 48))])
     .ret))))), [.t 6, .t 7]⟩
theorem c_slices_BinarySearchFunc_string : (compF Go.Proofs.Tryz.prog 104).map linF = some ir_slices_BinarySearchFunc_string := by kernel_rfl
def ir_holds_row_at_1 : FIR := ⟨9, (.seq (.reg [.s 2 (.box 35 (.tmp 0)),
  .s 4 (.mv (.const (.int .i64 0)))])
 (.seq (.reg [.s 5 (.fa 0 (.tmp 2)),
   .s 6 (.ld (.tmp 5)),
   .s 7 (.mv (.tmp 1)),
   .s 8 (.call 106 [(.tmp 6), (.tmp 7)]),
   .s 4 (.mv (.tmp 8))])
  .ret)), [.t 4]⟩
theorem c_holds_row_at_1 : (compF Go.Proofs.Tryz.prog 105).map linF = some ir_holds_row_at_1 := by kernel_rfl
def ir_holds_row_at : FIR := ⟨14, (.seq (.reg [.s 4 (.mv (.const (.int .i64 0))),
  .s 5 (.mv (.const (.bool false)))])
 (.seq (.reg [.s 6 (.mv (.tmp 0)),
   .s 7 (.nck (.tmp 6)),
   .s 8 (.fa 0 (.tmp 7)),
   .s 9 (.ld (.tmp 8)),
   .s 10 (.mv (.tmp 1)),
   .s 11 (.call 104 [(.tmp 9), (.tmp 10), (.func 105)]),
   .s 12 (.ext 0 (.tmp 11)),
   .s 13 (.ext 1 (.tmp 11)),
   .s 4 (.mv (.tmp 12)),
   .s 5 (.mv (.tmp 13))])
  .ret)), [.t 4, .t 5]⟩
theorem c_holds_row_at : (compF Go.Proofs.Tryz.prog 51).map linF = some ir_holds_row_at := by kernel_rfl
end Go.WK
/-
  The texts in the small language of some loaded functions, each held against the loaded one by the kernel.
-/
namespace Go.WK
open Go
def ir_slices_Insert_Hold : FIR := ⟨95, (.seq (.reg [.s 6 (.mv (.const (.slice none 0 0)))])
 (.seq (.reg [.s 10 (.mv (.tmp 0)),
   .s 11 (.mv (.tmp 1)),
   .s 12 (.sl 7 (.tmp 10) (some (.tmp 11)) none none)])
  (.seq (.reg [.s 13 (.mv (.tmp 2)),
    .s 14 (.len (.tmp 13)),
    .s 7 (.mv (.tmp 14))])
   (.seq (.seq (.reg [.s 15 (.mv (.tmp 7)),
      .s 16 (.bin .eql (.tmp 15) (.const (.int .i64 0)))])
     (.cnd (.tmp 16) (.seq (.reg [.s 17 (.mv (.tmp 0)),
         .s 6 (.mv (.tmp 17))])
        .ret)
       .skip))
    (.seq (.reg [.s 18 (.mv (.tmp 0)),
      .s 19 (.len (.tmp 18)),
      .s 8 (.mv (.tmp 19))])
     (.seq (.seq (.reg [.s 20 (.mv (.tmp 1)),
        .s 21 (.mv (.tmp 8)),
        .s 22 (.bin .eql (.tmp 20) (.tmp 21))])
       (.cnd (.tmp 22) (.seq (.reg [.s 23 (.mv (.tmp 0)),
           .s 24 (.mv (.tmp 2)),
           .s 25 (.app 35 7 104 [(.string .empty), (.int .i64 0), (.int .i64 0), (.slice none 0 0), (.slice none 0 0), (.bool false), (.string .empty)] (.tmp 23) (.tmp 24)),
           .s 6 (.mv (.tmp 25))])
          .ret)
         .skip))
      (.seq (.seq (.reg [.s 26 (.mv (.tmp 8)),
         .s 27 (.mv (.tmp 7)),
         .s 28 (.bin .add (.tmp 26) (.tmp 27)),
         .s 29 (.mv (.tmp 0)),
         .s 30 (.cap (.tmp 29)),
         .s 31 (.bin .gtr (.tmp 28) (.tmp 30))])
        (.cnd (.tmp 31) (.seq (.reg [.s 32 (.mv (.tmp 0)),
            .s 33 (.mv (.tmp 1)),
            .s 34 (.sl 7 (.tmp 32) none (some (.tmp 33)) none),
            .s 35 (.mv (.tmp 8)),
            .s 36 (.mv (.tmp 7)),
            .s 37 (.bin .add (.tmp 35) (.tmp 36)),
            .s 38 (.mv (.tmp 1)),
            .s 39 (.bin .sub (.tmp 37) (.tmp 38)),
            .s 40 (.apz 35 7 104 [(.string .empty), (.int .i64 0), (.int .i64 0), (.slice none 0 0), (.slice none 0 0), (.bool false), (.string .empty)] (.tmp 34) (.tmp 39)),
            .s 9 (.mv (.tmp 40))])
           (.seq (.reg [.s 41 (.mv (.tmp 9)),
             .s 42 (.mv (.tmp 1)),
             .s 43 (.sl 7 (.tmp 41) (some (.tmp 42)) none none),
             .s 44 (.mv (.tmp 2)),
             .s 45 (.cpy 7 (.tmp 43) (.tmp 44))])
            (.seq (.reg [.s 46 (.mv (.tmp 9)),
              .s 47 (.mv (.tmp 1)),
              .s 48 (.mv (.tmp 7)),
              .s 49 (.bin .add (.tmp 47) (.tmp 48)),
              .s 50 (.sl 7 (.tmp 46) (some (.tmp 49)) none none),
              .s 51 (.mv (.tmp 0)),
              .s 52 (.mv (.tmp 1)),
              .s 53 (.sl 7 (.tmp 51) (some (.tmp 52)) none none),
              .s 54 (.cpy 7 (.tmp 50) (.tmp 53))])
             (.seq (.reg [.s 55 (.mv (.tmp 9)),
               .s 6 (.mv (.tmp 55))])
              .ret))))
          .skip))
       (.seq (.reg [.s 56 (.mv (.tmp 0)),
         .s 57 (.mv (.tmp 8)),
         .s 58 (.mv (.tmp 7)),
         .s 59 (.bin .add (.tmp 57) (.tmp 58)),
         .s 60 (.sl 7 (.tmp 56) none (some (.tmp 59)) none),
         .s 0 (.mv (.tmp 60))])
        (.seq (.seq (.reg [.s 61 (.mv (.tmp 2)),
           .s 62 (.mv (.tmp 0)),
           .s 63 (.mv (.tmp 1)),
           .s 64 (.mv (.tmp 7)),
           .s 65 (.bin .add (.tmp 63) (.tmp 64)),
           .s 66 (.sl 7 (.tmp 62) (some (.tmp 65)) none none),
           .s 67 (.call 151 [(.tmp 61), (.tmp 66)]),
           .s 68 (.un .not (.tmp 67))])
          (.cnd (.tmp 68) (.seq (.reg [.s 69 (.mv (.tmp 0)),
              .s 70 (.mv (.tmp 1)),
              .s 71 (.mv (.tmp 7)),
              .s 72 (.bin .add (.tmp 70) (.tmp 71)),
              .s 73 (.sl 7 (.tmp 69) (some (.tmp 72)) none none),
              .s 74 (.mv (.tmp 0)),
              .s 75 (.mv (.tmp 1)),
              .s 76 (.sl 7 (.tmp 74) (some (.tmp 75)) none none),
              .s 77 (.cpy 7 (.tmp 73) (.tmp 76))])
             (.seq (.reg [.s 78 (.mv (.tmp 0)),
               .s 79 (.mv (.tmp 1)),
               .s 80 (.sl 7 (.tmp 78) (some (.tmp 79)) none none),
               .s 81 (.mv (.tmp 2)),
               .s 82 (.cpy 7 (.tmp 80) (.tmp 81))])
              (.seq (.reg [.s 83 (.mv (.tmp 0)),
                .s 6 (.mv (.tmp 83))])
               .ret)))
            .skip))
         (.seq (.reg [.s 84 (.mv (.tmp 0)),
           .s 85 (.mv (.tmp 8)),
           .s 86 (.sl 7 (.tmp 84) (some (.tmp 85)) none none),
           .s 87 (.mv (.tmp 2)),
           .s 88 (.cpy 7 (.tmp 86) (.tmp 87))])
          (.seq (.reg [.s 89 (.mv (.tmp 0)),
            .s 90 (.mv (.tmp 1)),
            .s 91 (.sl 7 (.tmp 89) (some (.tmp 90)) none none),
            .s 92 (.mv (.tmp 7)),
            .s 93 (.call 152 [(.tmp 91), (.tmp 92)])])
           (.seq (.reg [.s 94 (.mv (.tmp 0)),
             .s 6 (.mv (.tmp 94))])
            .ret)))))))))))), [.t 6]⟩
theorem c_slices_Insert_Hold : (compF Go.Proofs.Tryz.prog 107).map linF = some ir_slices_Insert_Hold := by kernel_rfl
def ir_holds_row_lay : FIR := ⟨25, (.seq (.reg [.s 3 (.box 35 (.tmp 1))])
 (.seq (.reg [.s 7 (.mv (.tmp 0)),
   .s 8 (.fa 0 (.tmp 3)),
   .s 9 (.ld (.tmp 8)),
   .s 10 (.call 51 [(.tmp 7), (.tmp 9)]),
   .s 6 (.mv (.tmp 10)),
   .s 11 (.ext 0 (.tmp 6)),
   .s 12 (.ext 1 (.tmp 6)),
   .s 4 (.mv (.tmp 11)),
   .s 5 (.mv (.tmp 12))])
  (.lin [(false, .s 13 (.mv (.tmp 0))),
   (false, .s 14 (.mv (.tmp 0))),
   (false, .s 15 (.nck (.tmp 14))),
   (false, .s 16 (.fa 0 (.tmp 15))),
   (false, .s 17 (.ld (.tmp 16))),
   (false, .s 18 (.mv (.tmp 4))),
   (false, .s 19 (.ldn 7 (.tmp 3))),
   (true, .s 20 (.bsl 35 1 [(.string .empty), (.int .i64 0), (.int .i64 0), (.slice none 0 0), (.slice none 0 0), (.bool false), (.string .empty)] [(0, 7, (.tmp 19))])),
   (true, .s 21 (.call 53 [(.tmp 20)])),
   (true, .s 22 (.call 107 [(.tmp 17), (.tmp 18), (.tmp 21)])),
   (false, .s 23 (.nck (.tmp 13))),
   (false, .s 24 (.fa 0 (.tmp 23))),
   (false, .e (.st 1 (.tmp 24) (.tmp 22)))]))), []⟩
theorem c_holds_row_lay : (compF Go.Proofs.Tryz.prog 52).map linF = some ir_holds_row_lay := by kernel_rfl
end Go.WK
/-
  The texts in the small language of some loaded functions, each held against the loaded one by the kernel.
-/
namespace Go.WK
open Go
def ir_holds_Holds_there : FIR := ⟨11, (.seq (.reg [.s 2 (.mv (.const (.bool false)))])
 (.seq (.reg [.s 3 (.mv (.tmp 0)),
   .s 4 (.eqz .ptr true (.tmp 3) (.const (.pointer none))),
   .s 5 (.mv (.tmp 4)),
   .g 6 5 true (.mv (.tmp 0)),
   .g 7 5 true (.nck (.tmp 6)),
   .g 8 5 true (.fa 1 (.tmp 7)),
   .g 9 5 true (.ld (.tmp 8)),
   .s 10 (.pick (.tmp 5) (.tmp 9) (.const (.bool false))),
   .s 2 (.mv (.tmp 10))])
  .ret)), [.t 2]⟩
theorem c_holds_Holds_there : (compF Go.Proofs.Tryz.prog 48).map linF = some ir_holds_Holds_there := by kernel_rfl
def ir_holds_New : FIR := ⟨3, (.seq (.reg [.s 0 (.mv (.const (.pointer none)))])
 (.seq (.reg [.s 1 (.bld [(.slice none 0 0), (.bool false)] [(1, 1, (.const (.bool true)))]),
   .s 2 (.box 90 (.tmp 1)),
   .s 0 (.mv (.tmp 2))])
  .ret)), [.t 0]⟩
theorem c_holds_New : (compF Go.Proofs.Tryz.prog 38).map linF = some ir_holds_New := by kernel_rfl
def ir_holds_Holds_Many : FIR := ⟨12, (.seq (.reg [.s 2 (.mv (.const (.int .i64 0)))])
 (.seq (.seq (.reg [.s 3 (.mv (.tmp 0)),
    .s 4 (.call 48 [(.tmp 3)]),
    .s 5 (.un .not (.tmp 4))])
   (.cnd (.tmp 5) (.seq (.reg [.s 2 (.mv (.const (.int .i64 0)))])
      .ret)
     .skip))
  (.seq (.reg [.s 6 (.mv (.tmp 0)),
    .s 7 (.nck (.tmp 6)),
    .s 8 (.fa 0 (.tmp 7)),
    .s 9 (.fa 0 (.tmp 8)),
    .s 10 (.ld (.tmp 9)),
    .s 11 (.len (.tmp 10)),
    .s 2 (.mv (.tmp 11))])
   .ret))), [.t 2]⟩
theorem c_holds_Holds_Many : (compF Go.Proofs.Tryz.prog 16).map linF = some ir_holds_Holds_Many := by kernel_rfl
def ir_holds_Holds_In : FIR := ⟨13, (.seq (.reg [.s 3 (.box 31 (.tmp 1)),
  .s 4 (.mv (.const (.slice none 0 0)))])
 (.seq (.seq (.reg [.s 5 (.mv (.tmp 0)),
    .s 6 (.call 48 [(.tmp 5)]),
    .s 7 (.un .not (.tmp 6))])
   (.cnd (.tmp 7) (.seq (.reg [.s 4 (.mv (.const (.slice none 0 0)))])
      .ret)
     .skip))
  (.seq (.reg [.s 8 (.mv (.tmp 0)),
    .s 9 (.nck (.tmp 8)),
    .s 10 (.fa 0 (.tmp 9)),
    .s 11 (.mkf 50 [(.tmp 3)]),
    .s 12 (.call 49 [(.tmp 10), (.tmp 11)]),
    .s 4 (.mv (.tmp 12))])
   .ret))), [.t 4]⟩
theorem c_holds_Holds_In : (compF Go.Proofs.Tryz.prog 12).map linF = some ir_holds_Holds_In := by kernel_rfl
def ir_holds_Holds_Free : FIR := ⟨13, (.seq (.reg [.s 3 (.box 74 (.tmp 1)),
  .s 4 (.mv (.const (.slice none 0 0)))])
 (.seq (.seq (.reg [.s 5 (.mv (.tmp 0)),
    .s 6 (.call 48 [(.tmp 5)]),
    .s 7 (.un .not (.tmp 6))])
   (.cnd (.tmp 7) (.seq (.reg [.s 4 (.mv (.const (.slice none 0 0)))])
      .ret)
     .skip))
  (.seq (.reg [.s 8 (.mv (.tmp 0)),
    .s 9 (.nck (.tmp 8)),
    .s 10 (.fa 0 (.tmp 9)),
    .s 11 (.mkf 57 [(.tmp 3)]),
    .s 12 (.call 56 [(.tmp 10), (.tmp 11)]),
    .s 4 (.mv (.tmp 12))])
   .ret))), [.t 4]⟩
theorem c_holds_Holds_Free : (compF Go.Proofs.Tryz.prog 17).map linF = some ir_holds_Holds_Free := by kernel_rfl
def ir_holds_Holds_Of : FIR := ⟨35, (.seq (.reg [.s 4 (.new 35 [(.string .empty), (.int .i64 0), (.int .i64 0), (.slice none 0 0), (.slice none 0 0), (.bool false), (.string .empty)]),
  .s 5 (.mv (.const (.bool false)))])
 (.seq (.seq (.reg [.s 8 (.mv (.tmp 0)),
    .s 9 (.call 48 [(.tmp 8)]),
    .s 10 (.un .not (.tmp 9))])
   (.cnd (.tmp 10) (.seq (.reg [.s 11 (.bld [(.string .empty), (.int .i64 0), (.int .i64 0), (.slice none 0 0), (.slice none 0 0), (.bool false), (.string .empty)] []),
       .e (.st 7 (.tmp 4) (.tmp 11)),
       .s 5 (.mv (.const (.bool false)))])
      .ret)
     .skip))
  (.seq (.reg [.s 13 (.mv (.tmp 0)),
    .s 14 (.nck (.tmp 13)),
    .s 15 (.fa 0 (.tmp 14)),
    .s 16 (.mv (.tmp 1)),
    .s 17 (.call 51 [(.tmp 15), (.tmp 16)]),
    .s 12 (.mv (.tmp 17)),
    .s 18 (.ext 0 (.tmp 12)),
    .s 19 (.ext 1 (.tmp 12)),
    .s 6 (.mv (.tmp 18)),
    .s 7 (.mv (.tmp 19))])
   (.seq (.seq (.reg [.s 20 (.mv (.tmp 7)),
      .s 21 (.un .not (.tmp 20))])
     (.cnd (.tmp 21) (.seq (.reg [.s 22 (.bld [(.string .empty), (.int .i64 0), (.int .i64 0), (.slice none 0 0), (.slice none 0 0), (.bool false), (.string .empty)] []),
         .e (.st 7 (.tmp 4) (.tmp 22)),
         .s 5 (.mv (.const (.bool false)))])
        .ret)
       .skip))
    (.seq (.reg [.s 23 (.mv (.tmp 0)),
      .s 24 (.nck (.tmp 23)),
      .s 25 (.fa 0 (.tmp 24)),
      .s 26 (.fa 0 (.tmp 25)),
      .s 27 (.ld (.tmp 26)),
      .s 28 (.mv (.tmp 6)),
      .s 29 (.ia 7 (.tmp 27) (.tmp 28)),
      .s 30 (.ldn 7 (.tmp 29)),
      .s 31 (.bsl 35 1 [(.string .empty), (.int .i64 0), (.int .i64 0), (.slice none 0 0), (.slice none 0 0), (.bool false), (.string .empty)] [(0, 7, (.tmp 30))]),
      .s 32 (.call 53 [(.tmp 31)]),
      .s 33 (.ia 7 (.tmp 32) (.const (.int .i64 0))),
      .s 34 (.ldn 7 (.tmp 33)),
      .e (.st 7 (.tmp 4) (.tmp 34)),
      .s 5 (.mv (.const (.bool true)))])
     .ret))))), [.cn 4 7, .t 5]⟩
theorem c_holds_Holds_Of : (compF Go.Proofs.Tryz.prog 14).map linF = some ir_holds_Holds_Of := by kernel_rfl
def ir_holds_Holds_Put : FIR := ⟨74, (.seq (.reg [.s 4 (.mv (.const (.int .i64 0)))])
 (.seq (.seq (.reg [.s 13 (.mv (.tmp 0)),
    .s 14 (.call 48 [(.tmp 13)]),
    .s 15 (.un .not (.tmp 14))])
   (.cnd (.tmp 15) (.seq (.reg [.s 4 (.mv (.const (.int .i64 1)))])
      .ret)
     .skip))
  (.seq (.reg [.s 16 (.mkm),
    .s 5 (.mv (.tmp 16)),
    .s 6 (.mv (.const (.bool false)))])
   (.seq (.seq (.reg [.s 17 (.mv (.tmp 1)),
      .s 18 (.len (.tmp 17)),
      .s 19 (.mv (.const (.int .i64 0)))])
     (.blk 0 (.loop (.seq (.reg [.s 20 (.bin .lss (.tmp 19) (.tmp 18))])
        (.seq (.cnd (.tmp 20) .skip
           (.exit 0))
         (.seq (.blk 1 (.seq (.reg [.s 21 (.ia 7 (.tmp 17) (.tmp 19)),
             .s 22 (.ldn 7 (.tmp 21)),
             .s 8 (.new 35 [(.string .empty), (.int .i64 0), (.int .i64 0), (.slice none 0 0), (.slice none 0 0), (.bool false), (.string .empty)]),
             .e (.st 7 (.tmp 8) (.tmp 22))])
            (.seq (.reg [.s 24 (.mv (.tmp 0)),
              .s 25 (.nck (.tmp 24)),
              .s 26 (.fa 0 (.tmp 25)),
              .s 27 (.fa 0 (.tmp 8)),
              .s 28 (.ld (.tmp 27)),
              .s 29 (.call 51 [(.tmp 26), (.tmp 28)]),
              .s 23 (.mv (.tmp 29)),
              .s 30 (.ext 0 (.tmp 23)),
              .s 31 (.ext 1 (.tmp 23)),
              .s 9 (.mv (.tmp 30)),
              .s 10 (.mv (.tmp 31))])
             (.seq (.reg [.s 32 (.mv (.tmp 6)),
               .s 33 (.mv (.tmp 32)),
               .g 34 33 false (.mv (.tmp 10)),
               .s 35 (.pick (.tmp 33) (.const (.bool true)) (.tmp 34)),
               .s 6 (.mv (.tmp 35))])
              (.reg [.s 36 (.mv (.tmp 5)),
               .s 37 (.fa 0 (.tmp 8)),
               .s 38 (.ld (.tmp 37)),
               .e (.mup .s (.tmp 36) (.tmp 38) (.const (.bool true)))])))))
          (.reg [.s 39 (.bin .add (.tmp 19) (.const (.int .i64 1))),
           .s 19 (.mv (.tmp 39))])))))))
    (.seq (.blk 2 (.seq (.seq (.reg [.s 41 (.mv (.tmp 5)),
         .s 42 (.mlen (.tmp 41)),
         .s 43 (.mv (.tmp 1)),
         .s 44 (.len (.tmp 43)),
         .s 45 (.bin .lss (.tmp 42) (.tmp 44)),
         .s 40 (.mv (.tmp 45))])
        (.cnd (.tmp 40) .skip
          (.reg [.s 46 (.mv (.tmp 1)),
           .s 47 (.call 25 [(.tmp 46)]),
           .s 48 (.un .not (.tmp 47)),
           .s 40 (.mv (.tmp 48))])))
       (.cnd (.tmp 40) (.seq (.reg [.s 4 (.mv (.const (.int .i64 2)))])
          .ret)
         (.seq (.reg [.s 50 (.mv (.tmp 6)),
           .s 49 (.mv (.tmp 50))])
          (.cnd (.tmp 49) (.seq (.reg [.s 4 (.mv (.const (.int .i64 7)))])
             .ret)
            (.seq (.reg [.s 52 (.mv (.tmp 0)),
              .s 53 (.nck (.tmp 52)),
              .s 54 (.fa 0 (.tmp 53)),
              .s 55 (.fa 0 (.tmp 54)),
              .s 56 (.ld (.tmp 55)),
              .s 57 (.len (.tmp 56)),
              .s 58 (.mv (.tmp 1)),
              .s 59 (.len (.tmp 58)),
              .s 60 (.bin .add (.tmp 57) (.tmp 59)),
              .s 61 (.bin .gtr (.tmp 60) (.const (.int .i64 60))),
              .s 51 (.mv (.tmp 61))])
             (.cnd (.tmp 51) (.seq (.reg [.s 4 (.mv (.const (.int .i64 8)))])
                .ret)
               .skip)))))))
     (.seq (.seq (.reg [.s 62 (.mv (.tmp 1)),
        .s 63 (.len (.tmp 62)),
        .s 64 (.mv (.const (.int .i64 0)))])
       (.blk 3 (.loop (.seq (.reg [.s 65 (.bin .lss (.tmp 64) (.tmp 63))])
          (.seq (.cnd (.tmp 65) .skip
             (.exit 3))
           (.seq (.blk 4 (.seq (.reg [.s 66 (.ia 7 (.tmp 62) (.tmp 64)),
               .s 67 (.ldn 7 (.tmp 66)),
               .s 12 (.new 35 [(.string .empty), (.int .i64 0), (.int .i64 0), (.slice none 0 0), (.slice none 0 0), (.bool false), (.string .empty)]),
               .e (.st 7 (.tmp 12) (.tmp 67))])
              (.reg [.s 68 (.mv (.tmp 0)),
               .s 69 (.nck (.tmp 68)),
               .s 70 (.fa 0 (.tmp 69)),
               .s 71 (.ldn 7 (.tmp 12)),
               .s 72 (.call 52 [(.tmp 70), (.tmp 71)])])))
            (.reg [.s 73 (.bin .add (.tmp 64) (.const (.int .i64 1))),
             .s 64 (.mv (.tmp 73))])))))))
      (.seq (.reg [.s 4 (.mv (.const (.int .i64 0)))])
       .ret))))))), [.t 4]⟩
theorem c_holds_Holds_Put : (compF Go.Proofs.Tryz.prog 13).map linF = some ir_holds_Holds_Put := by kernel_rfl
end Go.WK
/-
  The texts in the small language of some loaded functions, each held against the loaded one by the kernel.
-/
namespace Go.WK
open Go
def ir_slices_Values_string : FIR := ⟨4, (.seq (.reg [.s 1 (.box 74 (.tmp 0)),
  .s 2 (.mv (.const .nilFunc))])
 (.seq (.reg [.s 3 (.mkf 112 [(.tmp 1)]),
   .s 2 (.mv (.tmp 3))])
  .ret)), [.t 2]⟩
theorem c_slices_Values_string : (compF Go.Proofs.Tryz.prog 55).map linF = some ir_slices_Values_string := by kernel_rfl
def ir_holds_Holds_Busy : FIR := ⟨37, (.seq (.reg [.s 4 (.box 24 (.tmp 1)),
  .s 6 (.new 24 [(.int .i64 0), (.int .i64 0)]),
  .s 7 (.mv (.const (.bool false)))])
 (.seq (.seq (.reg [.s 12 (.mv (.tmp 2)),
    .s 13 (.call 55 [(.tmp 12)]),
    .s 14 (.call 54 [(.tmp 13)]),
    .s 15 (.len (.tmp 14)),
    .s 16 (.mv (.const (.int .i64 0)))])
   (.blk 0 (.loop (.seq (.reg [.s 17 (.bin .lss (.tmp 16) (.tmp 15))])
      (.seq (.cnd (.tmp 17) .skip
         (.exit 0))
       (.seq (.blk 1 (.seq (.reg [.s 18 (.ia 1 (.tmp 14) (.tmp 16)),
           .s 19 (.ld (.tmp 18)),
           .s 9 (.mv (.tmp 19))])
          (.seq (.reg [.s 21 (.mv (.tmp 0)),
            .s 22 (.mv (.tmp 9)),
            .s 23 (.call 14 [(.tmp 21), (.tmp 22)]),
            .s 20 (.mv (.tmp 23)),
            .s 24 (.ext 0 (.tmp 20)),
            .s 25 (.ext 1 (.tmp 20)),
            .s 10 (.new 35 [(.string .empty), (.int .i64 0), (.int .i64 0), (.slice none 0 0), (.slice none 0 0), (.bool false), (.string .empty)]),
            .e (.st 7 (.tmp 10) (.tmp 24)),
            .s 11 (.mv (.tmp 25))])
           (.seq (.reg [.s 26 (.mv (.tmp 11)),
             .s 27 (.mv (.tmp 26)),
             .g 28 27 true (.fa 1 (.tmp 10)),
             .g 29 27 true (.ldn 2 (.tmp 28)),
             .g 30 27 true (.ldn 2 (.tmp 4)),
             .g 31 27 true (.eqs [.i, .i] true (.tmp 29) (.tmp 30)),
             .s 32 (.pick (.tmp 27) (.tmp 31) (.const (.bool false)))])
            (.cnd (.tmp 32) (.seq (.reg [.s 33 (.fa 1 (.tmp 10)),
                .s 34 (.ldn 2 (.tmp 33)),
                .e (.st 2 (.tmp 6) (.tmp 34)),
                .s 7 (.mv (.const (.bool true)))])
               .ret)
              .skip)))))
        (.reg [.s 35 (.bin .add (.tmp 16) (.const (.int .i64 1))),
         .s 16 (.mv (.tmp 35))])))))))
  (.seq (.reg [.s 36 (.bld [(.int .i64 0), (.int .i64 0)] []),
    .e (.st 2 (.tmp 6) (.tmp 36)),
    .s 7 (.mv (.const (.bool false)))])
   .ret))), [.cn 6 2, .t 7]⟩
theorem c_holds_Holds_Busy : (compF Go.Proofs.Tryz.prog 15).map linF = some ir_holds_Holds_Busy := by kernel_rfl
def ir_watershedlaw16_plain : FIR := ⟨15, (.seq (.reg [.s 4 (.new 35 [(.string .empty), (.int .i64 0), (.int .i64 0), (.slice none 0 0), (.slice none 0 0), (.bool false), (.string .empty)])])
 (.seq (.reg [.s 5 (.mv (.tmp 0)),
   .s 6 (.mv (.tmp 1)),
   .s 7 (.bld [(.int .i64 0), (.int .i64 0)] [(0, 1, (.tmp 6)), (1, 1, (.const (.int .i64 1)))]),
   .s 8 (.mv (.tmp 0)),
   .s 9 (.bld [(.int .u8 0), (.string .empty), (.string .empty), (.int .i64 0)] [(0, 1, (.const (.int .u8 1))), (1, 1, (.tmp 8))]),
   .s 10 (.bsl 98 1 [(.int .u8 0), (.string .empty), (.string .empty), (.int .i64 0)] [(0, 4, (.tmp 9))]),
   .s 11 (.mv (.tmp 0)),
   .s 12 (.bld [(.string .empty), (.bool false), (.string .empty)] [(0, 1, (.tmp 11))]),
   .s 13 (.bsl 100 1 [(.string .empty), (.bool false), (.string .empty)] [(0, 3, (.tmp 12))]),
   .s 14 (.bld [(.string .empty), (.int .i64 0), (.int .i64 0), (.slice none 0 0), (.slice none 0 0), (.bool false), (.string .empty)] [(0, 1, (.tmp 5)), (1, 2, (.tmp 7)), (3, 1, (.tmp 10)), (4, 1, (.tmp 13))]),
   .e (.st 7 (.tmp 4) (.tmp 14))])
  .ret)), [.cn 4 7]⟩
theorem c_watershedlaw16_plain : (compF Go.Proofs.Tryz.prog 46).map linF = some ir_watershedlaw16_plain := by kernel_rfl
def ir_watershedlaw16_made : FIR := ⟨20, (.seq (.reg [.s 2 (.mv (.const (.pointer none)))])
 (.seq (.reg [.s 5 (.call 38 []),
   .s 3 (.mv (.tmp 5))])
  (.seq (.seq (.reg [.s 4 (.mv (.const (.int .i64 0)))])
    (.blk 0 (.loop (.seq (.seq (.reg [.s 6 (.mv (.tmp 4)),
         .s 7 (.mv (.tmp 0)),
         .s 8 (.len (.tmp 7)),
         .s 9 (.bin .lss (.tmp 6) (.tmp 8))])
        (.cnd (.tmp 9) .skip
          (.exit 0)))
       (.seq (.blk 1 (.reg [.s 12 (.mv (.tmp 3)),
          .s 13 (.mv (.tmp 0)),
          .s 14 (.mv (.tmp 4)),
          .s 15 (.ia 7 (.tmp 13) (.tmp 14)),
          .s 16 (.ldn 7 (.tmp 15)),
          .s 17 (.bsl 35 1 [(.string .empty), (.int .i64 0), (.int .i64 0), (.slice none 0 0), (.slice none 0 0), (.bool false), (.string .empty)] [(0, 7, (.tmp 16))]),
          .s 18 (.call 13 [(.tmp 12), (.tmp 17)])]))
        (.reg [.s 10 (.mv (.tmp 4)),
         .s 11 (.bin .add (.tmp 10) (.const (.int .i64 1))),
         .s 4 (.mv (.tmp 11))]))))))
   (.seq (.reg [.s 19 (.mv (.tmp 3)),
     .s 2 (.mv (.tmp 19))])
    .ret)))), [.t 2]⟩
theorem c_watershedlaw16_made : (compF Go.Proofs.Tryz.prog 11).map linF = some ir_watershedlaw16_made := by kernel_rfl
def ir_watershedlaw16_awake : FIR := ⟨45, (.seq (.reg [.s 0 (.mv (.const (.bool false)))])
 (.seq (.reg [.s 7 (.call 38 []),
   .s 1 (.mv (.tmp 7))])
  (.seq (.reg [.s 8 (.mv (.tmp 1)),
    .s 9 (.call 46 [(.const (.string ⟨#[107]⟩)), (.const (.int .i64 1))]),
    .s 10 (.bsl 35 1 [(.string .empty), (.int .i64 0), (.int .i64 0), (.slice none 0 0), (.slice none 0 0), (.bool false), (.string .empty)] [(0, 7, (.tmp 9))]),
    .s 11 (.call 13 [(.tmp 8), (.tmp 10)]),
    .s 2 (.mv (.tmp 11))])
   (.seq (.reg [.s 13 (.mv (.tmp 1)),
     .s 14 (.bld [(.int .i64 0), (.int .i64 0)] [(0, 1, (.const (.int .i64 1))), (1, 1, (.const (.int .i64 1)))]),
     .s 15 (.bsl 9 1 [(.string .empty)] [(0, 1, (.const (.string ⟨#[107]⟩)))]),
     .s 16 (.call 15 [(.tmp 13), (.tmp 14), (.tmp 15)]),
     .s 12 (.mv (.tmp 16)),
     .s 17 (.ext 0 (.tmp 12)),
     .s 18 (.ext 1 (.tmp 12)),
     .s 3 (.new 24 [(.int .i64 0), (.int .i64 0)]),
     .e (.st 2 (.tmp 3) (.tmp 17)),
     .s 4 (.mv (.tmp 18))])
    (.seq (.reg [.s 20 (.mv (.tmp 1)),
      .s 21 (.bld [(.int .i64 0), (.int .i64 0)] [(0, 1, (.const (.int .i64 2))), (1, 1, (.const (.int .i64 1)))]),
      .s 22 (.bsl 9 1 [(.string .empty)] [(0, 1, (.const (.string ⟨#[107]⟩)))]),
      .s 23 (.call 15 [(.tmp 20), (.tmp 21), (.tmp 22)]),
      .s 19 (.mv (.tmp 23)),
      .s 24 (.ext 0 (.tmp 19)),
      .s 25 (.ext 1 (.tmp 19)),
      .s 5 (.new 24 [(.int .i64 0), (.int .i64 0)]),
      .e (.st 2 (.tmp 5) (.tmp 24)),
      .s 6 (.mv (.tmp 25))])
     (.seq (.reg [.s 26 (.mv (.tmp 2)),
       .s 27 (.bin .eql (.tmp 26) (.const (.int .i64 0))),
       .s 28 (.mv (.tmp 27)),
       .g 29 28 true (.mv (.tmp 4)),
       .g 30 28 true (.un .not (.tmp 29)),
       .s 31 (.pick (.tmp 28) (.tmp 30) (.const (.bool false))),
       .s 32 (.mv (.tmp 31)),
       .g 33 32 true (.mv (.tmp 6)),
       .s 34 (.pick (.tmp 32) (.tmp 33) (.const (.bool false))),
       .s 35 (.mv (.tmp 34)),
       .g 36 35 true (.ldn 2 (.tmp 5)),
       .g 37 35 true (.bld [(.int .i64 0), (.int .i64 0)] [(0, 1, (.const (.int .i64 1))), (1, 1, (.const (.int .i64 1)))]),
       .g 38 35 true (.eqs [.i, .i] false (.tmp 36) (.tmp 37)),
       .s 39 (.pick (.tmp 35) (.tmp 38) (.const (.bool false))),
       .s 40 (.mv (.tmp 39)),
       .g 41 40 true (.mv (.tmp 1)),
       .g 42 40 true (.call 16 [(.tmp 41)]),
       .g 43 40 true (.bin .eql (.tmp 42) (.const (.int .i64 1))),
       .s 44 (.pick (.tmp 40) (.tmp 43) (.const (.bool false))),
       .s 0 (.mv (.tmp 44))])
      .ret)))))), [.t 0]⟩
theorem c_watershedlaw16_awake : (compF Go.Proofs.Tryz.prog 9).map linF = some ir_watershedlaw16_awake := by kernel_rfl
end Go.WK
/-
  The texts in the small language of some loaded functions, each held against the loaded one by the kernel.
-/
namespace Go.WK
open Go
def ir_holds_Write : FIR := ⟨103, (.seq (.reg [.s 4 (.mv (.const (.pointer none)))])
 (.seq (.reg [.s 11 (.mv (.tmp 0)),
   .s 12 (.mv (.tmp 1)),
   .s 13 (.len (.tmp 12)),
   .s 14 (.bsl 3 1 [(.int .i64 0)] [(0, 1, (.tmp 13))]),
   .s 15 (.call 63 [(.tmp 11), (.tmp 14)])])
  (.seq (.seq (.reg [.s 16 (.mv (.tmp 1)),
     .s 17 (.len (.tmp 16)),
     .s 18 (.mv (.const (.int .i64 0)))])
    (.blk 0 (.loop (.seq (.reg [.s 19 (.bin .lss (.tmp 18) (.tmp 17))])
       (.seq (.cnd (.tmp 19) .skip
          (.exit 0))
        (.seq (.blk 1 (.seq (.reg [.s 20 (.ia 7 (.tmp 16) (.tmp 18)),
            .s 21 (.ldn 7 (.tmp 20)),
            .s 6 (.new 35 [(.string .empty), (.int .i64 0), (.int .i64 0), (.slice none 0 0), (.slice none 0 0), (.bool false), (.string .empty)]),
            .e (.st 7 (.tmp 6) (.tmp 21))])
           (.seq (.alc [(.st, .s 22 (.mv (.tmp 0))),
             (.st, .s 23 (.fa 0 (.tmp 6))),
             (.st, .s 24 (.ld (.tmp 23))),
             (.st, .s 27 (.fa 1 (.tmp 6))),
             (.st, .s 28 (.fa 0 (.tmp 27))),
             (.st, .s 29 (.ld (.tmp 28))),
             (.st, .s 30 (.fa 1 (.tmp 6))),
             (.st, .s 31 (.fa 1 (.tmp 30))),
             (.st, .s 32 (.ld (.tmp 31))),
             (.st, .s 33 (.fa 3 (.tmp 6))),
             (.st, .s 34 (.ld (.tmp 33))),
             (.st, .s 35 (.len (.tmp 34))),
             (.al, .s 25 (.bsl 9 1 [(.string .empty)] [(0, 1, (.tmp 24))])),
             (.ac [.s 36 (.bsl 3 3 [(.int .i64 0), (.int .i64 0), (.int .i64 0)] [(0, 1, (.tmp 29)), (1, 1, (.tmp 32)), (2, 1, (.tmp 35))])], .s 26 (.call 64 [(.tmp 22), (.tmp 25)])),
             (.al, .s 36 (.bsl 3 3 [(.int .i64 0), (.int .i64 0), (.int .i64 0)] [(0, 1, (.tmp 29)), (1, 1, (.tmp 32)), (2, 1, (.tmp 35))])),
             (.fi true, .s 37 (.call 63 [(.tmp 26), (.tmp 36)]))])
            (.seq (.seq (.reg [.s 38 (.fa 3 (.tmp 6)),
               .s 39 (.ld (.tmp 38)),
               .s 40 (.len (.tmp 39)),
               .s 41 (.mv (.const (.int .i64 0)))])
              (.blk 2 (.loop (.seq (.reg [.s 42 (.bin .lss (.tmp 41) (.tmp 40))])
                 (.seq (.cnd (.tmp 42) .skip
                    (.exit 2))
                  (.seq (.blk 3 (.seq (.reg [.s 43 (.ia 4 (.tmp 39) (.tmp 41)),
                      .s 44 (.ldn 4 (.tmp 43)),
                      .s 8 (.new 98 [(.int .u8 0), (.string .empty), (.string .empty), (.int .i64 0)]),
                      .e (.st 4 (.tmp 8) (.tmp 44))])
                     (.alc [(.st, .s 45 (.mv (.tmp 0))),
                      (.st, .s 46 (.fa 0 (.tmp 8))),
                      (.st, .s 47 (.ld (.tmp 46))),
                      (.st, .s 48 (.cvi .i64 (.tmp 47))),
                      (.st, .s 51 (.fa 2 (.tmp 8))),
                      (.st, .s 52 (.ld (.tmp 51))),
                      (.st, .s 55 (.fa 3 (.tmp 8))),
                      (.st, .s 56 (.ld (.tmp 55))),
                      (.st, .s 57 (.bin .lss (.tmp 56) (.const (.int .i64 0)))),
                      (.st, .s 60 (.fa 3 (.tmp 8))),
                      (.st, .s 61 (.ld (.tmp 60))),
                      (.st, .s 62 (.fa 3 (.tmp 8))),
                      (.st, .s 63 (.ld (.tmp 62))),
                      (.st, .s 64 (.un .neg (.tmp 63))),
                      (.st, .s 65 (.mx [(.tmp 61), (.tmp 64)])),
                      (.al, .s 49 (.bsl 3 1 [(.int .i64 0)] [(0, 1, (.tmp 48))])),
                      (.ac [.s 53 (.bsl 9 1 [(.string .empty)] [(0, 1, (.tmp 52))]), .s 58 (.bsl 4 1 [(.bool false)] [(0, 1, (.tmp 57))]), .s 66 (.bsl 3 1 [(.int .i64 0)] [(0, 1, (.tmp 65))])], .s 50 (.call 63 [(.tmp 45), (.tmp 49)])),
                      (.al, .s 53 (.bsl 9 1 [(.string .empty)] [(0, 1, (.tmp 52))])),
                      (.ac [.s 58 (.bsl 4 1 [(.bool false)] [(0, 1, (.tmp 57))]), .s 66 (.bsl 3 1 [(.int .i64 0)] [(0, 1, (.tmp 65))])], .s 54 (.call 64 [(.tmp 50), (.tmp 53)])),
                      (.al, .s 58 (.bsl 4 1 [(.bool false)] [(0, 1, (.tmp 57))])),
                      (.ac [.s 66 (.bsl 3 1 [(.int .i64 0)] [(0, 1, (.tmp 65))])], .s 59 (.call 65 [(.tmp 54), (.tmp 58)])),
                      (.al, .s 66 (.bsl 3 1 [(.int .i64 0)] [(0, 1, (.tmp 65))])),
                      (.fi true, .s 67 (.call 63 [(.tmp 59), (.tmp 66)]))])))
                   (.reg [.s 68 (.bin .add (.tmp 41) (.const (.int .i64 1))),
                    .s 41 (.mv (.tmp 68))])))))))
             (.seq (.reg [.s 69 (.mv (.tmp 0)),
               .s 70 (.fa 4 (.tmp 6)),
               .s 71 (.ld (.tmp 70)),
               .s 72 (.len (.tmp 71)),
               .s 73 (.bsl 3 1 [(.int .i64 0)] [(0, 1, (.tmp 72))]),
               .s 74 (.call 63 [(.tmp 69), (.tmp 73)])])
              (.seq (.seq (.reg [.s 75 (.fa 4 (.tmp 6)),
                 .s 76 (.ld (.tmp 75)),
                 .s 77 (.len (.tmp 76)),
                 .s 78 (.mv (.const (.int .i64 0)))])
                (.blk 4 (.loop (.seq (.reg [.s 79 (.bin .lss (.tmp 78) (.tmp 77))])
                   (.seq (.cnd (.tmp 79) .skip
                      (.exit 4))
                    (.seq (.blk 5 (.seq (.reg [.s 80 (.ia 3 (.tmp 76) (.tmp 78)),
                        .s 81 (.ldn 3 (.tmp 80)),
                        .s 10 (.new 100 [(.string .empty), (.bool false), (.string .empty)]),
                        .e (.st 3 (.tmp 10) (.tmp 81))])
                       (.alc [(.st, .s 82 (.mv (.tmp 0))),
                        (.st, .s 83 (.fa 1 (.tmp 10))),
                        (.st, .s 84 (.ld (.tmp 83))),
                        (.st, .s 87 (.fa 2 (.tmp 10))),
                        (.st, .s 88 (.ld (.tmp 87))),
                        (.al, .s 85 (.bsl 4 1 [(.bool false)] [(0, 1, (.tmp 84))])),
                        (.ac [.s 89 (.bsl 9 1 [(.string .empty)] [(0, 1, (.tmp 88))])], .s 86 (.call 65 [(.tmp 82), (.tmp 85)])),
                        (.al, .s 89 (.bsl 9 1 [(.string .empty)] [(0, 1, (.tmp 88))])),
                        (.fi true, .s 90 (.call 64 [(.tmp 86), (.tmp 89)]))])))
                     (.reg [.s 91 (.bin .add (.tmp 78) (.const (.int .i64 1))),
                      .s 78 (.mv (.tmp 91))])))))))
               (.alc [(.st, .s 92 (.mv (.tmp 0))),
                (.st, .s 93 (.fa 5 (.tmp 6))),
                (.st, .s 94 (.ld (.tmp 93))),
                (.st, .s 97 (.fa 6 (.tmp 6))),
                (.st, .s 98 (.ld (.tmp 97))),
                (.al, .s 95 (.bsl 4 1 [(.bool false)] [(0, 1, (.tmp 94))])),
                (.ac [.s 99 (.bsl 9 1 [(.string .empty)] [(0, 1, (.tmp 98))])], .s 96 (.call 65 [(.tmp 92), (.tmp 95)])),
                (.al, .s 99 (.bsl 9 1 [(.string .empty)] [(0, 1, (.tmp 98))])),
                (.fi true, .s 100 (.call 64 [(.tmp 96), (.tmp 99)]))])))))))
         (.reg [.s 101 (.bin .add (.tmp 18) (.const (.int .i64 1))),
          .s 18 (.mv (.tmp 101))])))))))
   (.seq (.reg [.s 102 (.mv (.tmp 0)),
     .s 4 (.mv (.tmp 102))])
    .ret)))), [.t 4]⟩
theorem c_holds_Write : (compF Go.Proofs.Tryz.prog 20).map linF = some ir_holds_Write := by kernel_rfl
end Go.WK
/-
  The texts in the small language of some loaded functions, each held against the loaded one by the kernel.
-/
namespace Go.WK
open Go
def ir_holds_acts : FIR := ⟨42, (.seq (.reg [.s 4 (.mv (.const (.slice none 0 0))),
  .s 5 (.mv (.const (.bool false)))])
 (.seq (.reg [.s 5 (.mv (.const (.bool true)))])
  (.seq (.seq (.reg [.s 8 (.mv (.tmp 0)),
     .s 9 (.call 74 [(.tmp 8), (.const (.int .i64 6))]),
     .s 10 (.mv (.const (.int .i64 0)))])
    (.blk 0 (.loop (.seq (.reg [.s 11 (.bin .lss (.tmp 10) (.tmp 9))])
       (.seq (.cnd (.tmp 11) .skip
          (.exit 0))
        (.seq (.blk 1 (.seq (.reg [.s 12 (.mv (.tmp 0)),
            .s 13 (.call 74 [(.tmp 12), (.const (.int .i64 3))]),
            .s 14 (.cvi .u8 (.tmp 13)),
            .s 15 (.mv (.tmp 1)),
            .s 16 (.mv (.tmp 0)),
            .s 17 (.call 135 [(.tmp 16), (.const (.int .i64 20))]),
            .s 18 (.bld [(.int .u8 0), (.string .empty), (.string .empty), (.int .i64 0)] [(0, 1, (.tmp 14)), (1, 1, (.tmp 15)), (2, 1, (.tmp 17))]),
            .s 6 (.new 98 [(.int .u8 0), (.string .empty), (.string .empty), (.int .i64 0)]),
            .e (.st 4 (.tmp 6) (.tmp 18))])
           (.seq (.reg [.s 19 (.mv (.tmp 0)),
             .s 20 (.call 137 [(.tmp 19)]),
             .s 7 (.mv (.tmp 20))])
            (.seq (.seq (.reg [.s 21 (.mv (.tmp 0)),
               .s 22 (.call 74 [(.tmp 21), (.const (.int .i64 1073741824))]),
               .s 23 (.fa 3 (.tmp 6)),
               .e (.st 1 (.tmp 23) (.tmp 22))])
              (.seq (.reg [.s 24 (.mv (.tmp 7))])
               (.cnd (.tmp 24) (.seq (.reg [.s 25 (.mv (.tmp 5)),
                   .s 26 (.mv (.tmp 25)),
                   .g 27 26 true (.fa 3 (.tmp 6)),
                   .g 28 26 true (.ld (.tmp 27)),
                   .g 29 26 true (.bin .gtr (.tmp 28) (.const (.int .i64 0))),
                   .s 30 (.pick (.tmp 26) (.tmp 29) (.const (.bool false))),
                   .s 5 (.mv (.tmp 30))])
                  (.reg [.s 31 (.fa 3 (.tmp 6)),
                   .s 32 (.ld (.tmp 31)),
                   .s 33 (.un .neg (.tmp 32)),
                   .s 34 (.fa 3 (.tmp 6)),
                   .e (.st 1 (.tmp 34) (.tmp 33))]))
                 .skip)))
             (.reg [.s 35 (.mv (.tmp 4)),
              .s 36 (.ldn 4 (.tmp 6)),
              .s 37 (.bsl 98 1 [(.int .u8 0), (.string .empty), (.string .empty), (.int .i64 0)] [(0, 4, (.tmp 36))]),
              .s 38 (.app 98 4 48 [(.int .u8 0), (.string .empty), (.string .empty), (.int .i64 0)] (.tmp 35) (.tmp 37)),
              .s 4 (.mv (.tmp 38))])))))
         (.reg [.s 39 (.bin .add (.tmp 10) (.const (.int .i64 1))),
          .s 10 (.mv (.tmp 39))])))))))
   (.seq (.reg [.s 40 (.mv (.tmp 4)),
     .s 41 (.mv (.tmp 5)),
     .s 4 (.mv (.tmp 40)),
     .s 5 (.mv (.tmp 41))])
    .ret)))), [.t 4, .t 5]⟩
theorem c_holds_acts : (compF Go.Proofs.Tryz.prog 136).map linF = some ir_holds_acts := by kernel_rfl
def ir_holds_hold : FIR := ⟨55, (.seq (.reg [.s 2 (.new 35 [(.string .empty), (.int .i64 0), (.int .i64 0), (.slice none 0 0), (.slice none 0 0), (.bool false), (.string .empty)]),
  .s 3 (.mv (.const (.bool false)))])
 (.seq (.reg [.s 5 (.mv (.tmp 0)),
   .s 6 (.call 135 [(.tmp 5), (.const (.int .i64 20))]),
   .s 7 (.fa 0 (.tmp 2)),
   .e (.st 1 (.tmp 7) (.tmp 6))])
  (.seq (.reg [.s 8 (.mv (.tmp 0)),
    .s 9 (.call 74 [(.tmp 8), (.const (.int .i64 8))]),
    .s 10 (.fa 1 (.tmp 2)),
    .s 11 (.fa 0 (.tmp 10)),
    .e (.st 1 (.tmp 11) (.tmp 9))])
   (.seq (.reg [.s 12 (.mv (.tmp 0)),
     .s 13 (.call 74 [(.tmp 12), (.const (.int .i64 1073741824))]),
     .s 14 (.fa 1 (.tmp 2)),
     .s 15 (.fa 1 (.tmp 14)),
     .e (.st 1 (.tmp 15) (.tmp 13))])
    (.seq (.reg [.s 17 (.mv (.tmp 0)),
      .s 18 (.fa 0 (.tmp 2)),
      .s 19 (.ld (.tmp 18)),
      .s 20 (.call 136 [(.tmp 17), (.tmp 19)]),
      .s 16 (.mv (.tmp 20)),
      .s 21 (.ext 0 (.tmp 16)),
      .s 22 (.ext 1 (.tmp 16)),
      .s 23 (.fa 3 (.tmp 2)),
      .e (.st 1 (.tmp 23) (.tmp 21)),
      .s 3 (.mv (.tmp 22))])
     (.seq (.seq (.reg [.s 24 (.mv (.tmp 0)),
        .s 25 (.call 74 [(.tmp 24), (.const (.int .i64 6))]),
        .s 26 (.mv (.const (.int .i64 0)))])
       (.blk 0 (.loop (.seq (.reg [.s 27 (.bin .lss (.tmp 26) (.tmp 25))])
          (.seq (.cnd (.tmp 27) .skip
             (.exit 0))
           (.seq (.blk 1 (.seq (.alc [(.st, .s 28 (.fa 0 (.tmp 2))),
               (.st, .s 29 (.ld (.tmp 28))),
               (.st, .s 30 (.mv (.tmp 0))),
               (.ac [.s 4 (.new 100 [(.string .empty), (.bool false), (.string .empty)])], .s 31 (.call 137 [(.tmp 30)])),
               (.st, .s 32 (.bld [(.string .empty), (.bool false), (.string .empty)] [(0, 1, (.tmp 29)), (1, 1, (.tmp 31))])),
               (.al, .s 4 (.new 100 [(.string .empty), (.bool false), (.string .empty)])),
               (.fi false, .e (.st 3 (.tmp 4) (.tmp 32)))])
              (.seq (.reg [.s 33 (.mv (.tmp 0)),
                .s 34 (.call 135 [(.tmp 33), (.const (.int .i64 20))]),
                .s 35 (.fa 2 (.tmp 4)),
                .e (.st 1 (.tmp 35) (.tmp 34))])
               (.reg [.s 36 (.fa 4 (.tmp 2)),
                .s 37 (.ld (.tmp 36)),
                .s 38 (.ldn 3 (.tmp 4)),
                .s 39 (.bsl 100 1 [(.string .empty), (.bool false), (.string .empty)] [(0, 3, (.tmp 38))]),
                .s 40 (.app 100 3 40 [(.string .empty), (.bool false), (.string .empty)] (.tmp 37) (.tmp 39)),
                .s 41 (.fa 4 (.tmp 2)),
                .e (.st 1 (.tmp 41) (.tmp 40))]))))
            (.reg [.s 42 (.bin .add (.tmp 26) (.const (.int .i64 1))),
             .s 26 (.mv (.tmp 42))])))))))
      (.seq (.reg [.s 43 (.mv (.tmp 0)),
        .s 44 (.call 137 [(.tmp 43)]),
        .s 45 (.fa 5 (.tmp 2)),
        .e (.st 1 (.tmp 45) (.tmp 44))])
       (.seq (.reg [.s 46 (.mv (.tmp 0)),
         .s 47 (.call 135 [(.tmp 46), (.const (.int .i64 20))]),
         .s 48 (.fa 6 (.tmp 2)),
         .e (.st 1 (.tmp 48) (.tmp 47))])
        (.seq (.lin [(false, .s 49 (.ldn 7 (.tmp 2))),
          (false, .s 50 (.mv (.tmp 3))),
          (false, .s 51 (.mv (.tmp 50))),
          (false, .g 52 51 true (.ldn 7 (.tmp 2))),
          (true, .g 53 51 true (.call 71 [(.tmp 52)])),
          (false, .s 54 (.pick (.tmp 51) (.tmp 53) (.const (.bool false)))),
          (false, .e (.st 7 (.tmp 2) (.tmp 49))),
          (false, .s 3 (.mv (.tmp 54)))])
         .ret))))))))), [.cn 2 7, .t 3]⟩
theorem c_holds_hold : (compF Go.Proofs.Tryz.prog 75).map linF = some ir_holds_hold := by kernel_rfl
def ir_holds_failed : FIR := ⟨11, (.seq (.reg [.s 2 (.mv (.const (.bool false)))])
 (.seq (.reg [.s 3 (.mv (.tmp 0)),
   .s 4 (.call 32 [(.tmp 3)]),
   .s 5 (.bin .eql (.tmp 4) (.const (.int .i64 0))),
   .s 6 (.mv (.tmp 5)),
   .g 7 6 true (.mv (.tmp 0)),
   .g 8 6 true (.call 36 [(.tmp 7)]),
   .g 9 6 true (.bin .neq (.tmp 8) (.const (.int .i64 0))),
   .s 10 (.pick (.tmp 6) (.tmp 9) (.const (.bool false))),
   .s 2 (.mv (.tmp 10))])
  .ret)), [.t 2]⟩
theorem c_holds_failed : (compF Go.Proofs.Tryz.prog 76).map linF = some ir_holds_failed := by kernel_rfl
def ir_holds_Read : FIR := ⟨50, (.seq (.reg [.s 2 (.mv (.const (.slice none 0 0))),
  .s 3 (.mv (.const (.bool false)))])
 (.seq (.reg [.s 4 (.mv (.const (.slice none 0 0)))])
  (.seq (.reg [.s 9 (.mv (.tmp 0)),
    .s 10 (.call 74 [(.tmp 9), (.const (.int .i64 60))]),
    .s 5 (.mv (.tmp 10))])
   (.seq (.seq (.reg [.s 11 (.mv (.tmp 5)),
      .s 12 (.mv (.const (.int .i64 0)))])
     (.blk 0 (.loop (.seq (.reg [.s 13 (.bin .lss (.tmp 12) (.tmp 11))])
        (.seq (.cnd (.tmp 13) .skip
           (.exit 0))
         (.seq (.blk 1 (.seq (.reg [.s 14 (.mv (.tmp 12)),
             .s 6 (.mv (.tmp 14))])
            (.seq (.reg [.s 16 (.mv (.tmp 0)),
              .s 17 (.call 75 [(.tmp 16)]),
              .s 15 (.mv (.tmp 17)),
              .s 18 (.ext 0 (.tmp 15)),
              .s 19 (.ext 1 (.tmp 15)),
              .s 7 (.new 35 [(.string .empty), (.int .i64 0), (.int .i64 0), (.slice none 0 0), (.slice none 0 0), (.bool false), (.string .empty)]),
              .e (.st 7 (.tmp 7) (.tmp 18)),
              .s 8 (.mv (.tmp 19))])
             (.seq (.seq (.reg [.s 20 (.mv (.tmp 8)),
                .s 21 (.un .not (.tmp 20)),
                .s 22 (.mv (.tmp 21)),
                .g 23 22 false (.mv (.tmp 0)),
                .g 24 22 false (.call 76 [(.tmp 23)]),
                .s 25 (.pick (.tmp 22) (.const (.bool true)) (.tmp 24)),
                .s 26 (.mv (.tmp 25)),
                .g 27 26 false (.mv (.tmp 6)),
                .g 28 26 false (.bin .gtr (.tmp 27) (.const (.int .i64 0))),
                .g 29 26 false (.mv (.tmp 28)),
                .g 30 29 true (.mv (.tmp 4)),
                .g 31 29 true (.mv (.tmp 6)),
                .g 32 29 true (.bin .sub (.tmp 31) (.const (.int .i64 1))),
                .g 33 29 true (.ia 7 (.tmp 30) (.tmp 32)),
                .g 34 29 true (.fa 0 (.tmp 33)),
                .g 35 29 true (.ld (.tmp 34)),
                .g 36 29 true (.fa 0 (.tmp 7)),
                .g 37 29 true (.ld (.tmp 36)),
                .g 38 29 true (.bin .geq (.tmp 35) (.tmp 37)),
                .g 39 26 false (.pick (.tmp 29) (.tmp 38) (.const (.bool false))),
                .s 40 (.pick (.tmp 26) (.const (.bool true)) (.tmp 39))])
               (.cnd (.tmp 40) (.seq (.reg [.s 2 (.mv (.const (.slice none 0 0))),
                   .s 3 (.mv (.const (.bool false)))])
                  .ret)
                 .skip))
              (.reg [.s 41 (.mv (.tmp 4)),
               .s 42 (.ldn 7 (.tmp 7)),
               .s 43 (.bsl 35 1 [(.string .empty), (.int .i64 0), (.int .i64 0), (.slice none 0 0), (.slice none 0 0), (.bool false), (.string .empty)] [(0, 7, (.tmp 42))]),
               .s 44 (.app 35 7 104 [(.string .empty), (.int .i64 0), (.int .i64 0), (.slice none 0 0), (.slice none 0 0), (.bool false), (.string .empty)] (.tmp 41) (.tmp 43)),
               .s 4 (.mv (.tmp 44))])))))
          (.reg [.s 45 (.bin .add (.tmp 12) (.const (.int .i64 1))),
           .s 12 (.mv (.tmp 45))])))))))
    (.seq (.reg [.s 46 (.mv (.tmp 4)),
      .s 47 (.mv (.tmp 0)),
      .s 48 (.call 76 [(.tmp 47)]),
      .s 49 (.un .not (.tmp 48)),
      .s 2 (.mv (.tmp 46)),
      .s 3 (.mv (.tmp 49))])
     .ret))))), [.t 2, .t 3]⟩
theorem c_holds_Read : (compF Go.Proofs.Tryz.prog 29).map linF = some ir_holds_Read := by kernel_rfl
end Go.WK
/-
  The texts in the small language of some loaded functions, each held against the loaded one by the kernel.
-/
namespace Go.WK
open Go
def ir_holds_Holds_Take_1 : FIR := ⟨8, (.seq (.reg [.s 2 (.box 35 (.tmp 0)),
  .s 3 (.mv (.const (.bool false)))])
 (.seq (.reg [.s 4 (.ldn 2 (.tmp 1)),
   .s 5 (.fa 0 (.tmp 2)),
   .s 6 (.ld (.tmp 5)),
   .s 7 (.call 34 [(.tmp 4), (.tmp 6)]),
   .s 3 (.mv (.tmp 7))])
  .ret)), [.t 3]⟩
theorem c_holds_Holds_Take_1 : (compF Go.Proofs.Tryz.prog 85).map linF = some ir_holds_Holds_Take_1 := by kernel_rfl
def ir_watershedkit_SameHolds : FIR := ⟨27, (.seq (.reg [.s 4 (.mv (.const (.bool false)))])
 (.seq (.seq (.reg [.s 6 (.mv (.tmp 0)),
    .s 7 (.len (.tmp 6)),
    .s 8 (.mv (.tmp 1)),
    .s 9 (.len (.tmp 8)),
    .s 10 (.bin .neq (.tmp 7) (.tmp 9))])
   (.cnd (.tmp 10) (.seq (.reg [.s 4 (.mv (.const (.bool false)))])
      .ret)
     .skip))
  (.seq (.seq (.reg [.s 5 (.mv (.const (.int .i64 0)))])
    (.blk 0 (.loop (.seq (.seq (.reg [.s 11 (.mv (.tmp 5)),
         .s 12 (.mv (.tmp 0)),
         .s 13 (.len (.tmp 12)),
         .s 14 (.bin .lss (.tmp 11) (.tmp 13))])
        (.cnd (.tmp 14) .skip
          (.exit 0)))
       (.seq (.blk 1 (.seq (.reg [.s 17 (.mv (.tmp 0)),
           .s 18 (.mv (.tmp 5)),
           .s 19 (.ia 7 (.tmp 17) (.tmp 18)),
           .s 20 (.ldn 7 (.tmp 19)),
           .s 21 (.mv (.tmp 1)),
           .s 22 (.mv (.tmp 5)),
           .s 23 (.ia 7 (.tmp 21) (.tmp 22)),
           .s 24 (.ldn 7 (.tmp 23)),
           .s 25 (.call 18 [(.tmp 20), (.tmp 24)]),
           .s 26 (.un .not (.tmp 25))])
          (.cnd (.tmp 26) (.seq (.reg [.s 4 (.mv (.const (.bool false)))])
             .ret)
            .skip)))
        (.reg [.s 15 (.mv (.tmp 5)),
         .s 16 (.bin .add (.tmp 15) (.const (.int .i64 1))),
         .s 5 (.mv (.tmp 16))]))))))
   (.seq (.reg [.s 4 (.mv (.const (.bool true)))])
    .ret)))), [.t 4]⟩
theorem c_watershedkit_SameHolds : (compF Go.Proofs.Tryz.prog 31).map linF = some ir_watershedkit_SameHolds := by kernel_rfl
def ir_watershedlaw16_HoldsSpans : FIR := ⟨144, (.seq (.reg [.s 4 (.box 31 (.tmp 1)),
  .s 6 (.mv (.const (.bool false)))])
 (.seq (.seq (.reg [.s 18 (.call 9 []),
    .s 19 (.un .not (.tmp 18))])
   (.cnd (.tmp 19) (.seq (.reg [.s 6 (.mv (.const (.bool false)))])
      .ret)
     .skip))
  (.seq (.seq (.reg [.s 20 (.mv (.tmp 0)),
     .s 21 (.call 10 [(.tmp 20), (.const (.int .i64 1500))]),
     .s 22 (.bin .gtr (.tmp 21) (.const (.int .i64 1500))),
     .s 23 (.mv (.tmp 22)),
     .g 24 23 false (.fa 0 (.tmp 4)),
     .g 25 23 false (.ld (.tmp 24)),
     .g 26 23 false (.slen (.tmp 25)),
     .g 27 23 false (.fa 1 (.tmp 4)),
     .g 28 23 false (.ld (.tmp 27)),
     .g 29 23 false (.slen (.tmp 28)),
     .g 30 23 false (.bin .add (.tmp 26) (.tmp 29)),
     .g 31 23 false (.mv (.tmp 2)),
     .g 32 23 false (.slen (.tmp 31)),
     .g 33 23 false (.bin .add (.tmp 30) (.tmp 32)),
     .g 34 23 false (.bin .gtr (.tmp 33) (.const (.int .i64 1500))),
     .s 35 (.pick (.tmp 23) (.const (.bool true)) (.tmp 34))])
    (.cnd (.tmp 35) (.seq (.reg [.s 6 (.mv (.const (.bool true)))])
       .ret)
      .skip))
   (.seq (.reg [.s 36 (.mv (.tmp 0)),
     .s 37 (.call 11 [(.tmp 36)]),
     .s 7 (.mv (.tmp 37))])
    (.seq (.reg [.s 38 (.mv (.tmp 7)),
      .s 39 (.bld [(.string .empty), (.string .empty)] []),
      .s 40 (.call 12 [(.tmp 38), (.tmp 39)]),
      .s 8 (.mv (.tmp 40))])
     (.seq (.reg [.s 41 (.mv (.tmp 7)),
       .s 42 (.ldn 2 (.tmp 4)),
       .s 43 (.call 12 [(.tmp 41), (.tmp 42)]),
       .s 9 (.mv (.tmp 43))])
      (.seq (.seq (.reg [.s 44 (.ldn 2 (.tmp 4)),
         .s 45 (.call 33 [(.tmp 44)]),
         .s 46 (.mv (.tmp 45)),
         .g 47 46 true (.ldn 2 (.tmp 4)),
         .g 48 46 true (.mv (.tmp 2)),
         .g 49 46 true (.call 34 [(.tmp 47), (.tmp 48)]),
         .s 50 (.pick (.tmp 46) (.tmp 49) (.const (.bool false))),
         .s 51 (.mv (.tmp 50)),
         .g 52 51 true (.mv (.tmp 2)),
         .g 53 51 true (.fa 0 (.tmp 4)),
         .g 54 51 true (.ld (.tmp 53)),
         .g 55 51 true (.bin .neq (.tmp 52) (.tmp 54)),
         .s 56 (.pick (.tmp 51) (.tmp 55) (.const (.bool false)))])
        (.cnd (.tmp 56) (.seq (.lin [(false, .s 57 (.mv (.tmp 7))),
            (false, .s 58 (.fa 0 (.tmp 4))),
            (false, .s 59 (.ld (.tmp 58))),
            (false, .s 60 (.mv (.tmp 2))),
            (false, .s 61 (.bld [(.string .empty), (.string .empty)] [(0, 1, (.tmp 59)), (1, 1, (.tmp 60))])),
            (false, .s 63 (.mv (.tmp 7))),
            (false, .s 64 (.mv (.tmp 2))),
            (false, .s 65 (.fa 1 (.tmp 4))),
            (false, .s 66 (.ld (.tmp 65))),
            (false, .s 67 (.bld [(.string .empty), (.string .empty)] [(0, 1, (.tmp 64)), (1, 1, (.tmp 66))])),
            (true, .s 62 (.call 12 [(.tmp 57), (.tmp 61)])),
            (true, .s 68 (.call 12 [(.tmp 63), (.tmp 67)])),
            (false, .s 10 (.mv (.tmp 62))),
            (false, .s 11 (.mv (.tmp 68)))])
           (.seq (.reg [.s 69 (.bsl 35 0 [] []),
             .s 70 (.mv (.tmp 10)),
             .s 71 (.app 35 7 104 [(.string .empty), (.int .i64 0), (.int .i64 0), (.slice none 0 0), (.slice none 0 0), (.bool false), (.string .empty)] (.tmp 69) (.tmp 70)),
             .s 72 (.mv (.tmp 11)),
             .s 73 (.app 35 7 104 [(.string .empty), (.int .i64 0), (.int .i64 0), (.slice none 0 0), (.slice none 0 0), (.bool false), (.string .empty)] (.tmp 71) (.tmp 72)),
             .s 74 (.mv (.tmp 9)),
             .s 75 (.call 31 [(.tmp 73), (.tmp 74)]),
             .s 76 (.un .not (.tmp 75))])
            (.cnd (.tmp 76) (.seq (.reg [.s 6 (.mv (.const (.bool false)))])
               .ret)
              .skip)))
          .skip))
       (.seq (.reg [.s 77 (.mv (.tmp 7)),
         .s 78 (.ldn 2 (.tmp 4)),
         .s 79 (.call 35 [(.tmp 77), (.tmp 78)]),
         .s 12 (.mv (.tmp 79))])
        (.seq (.seq (.reg [.s 80 (.mv (.tmp 12)),
           .s 81 (.mv (.tmp 9)),
           .s 82 (.call 31 [(.tmp 80), (.tmp 81)]),
           .s 83 (.un .not (.tmp 82)),
           .s 84 (.mv (.tmp 83)),
           .g 85 84 false (.mv (.tmp 7)),
           .g 86 84 false (.ldn 2 (.tmp 4)),
           .g 87 84 false (.call 12 [(.tmp 85), (.tmp 86)]),
           .g 88 84 false (.len (.tmp 87)),
           .g 89 84 false (.bin .neq (.tmp 88) (.const (.int .i64 0))),
           .s 90 (.pick (.tmp 84) (.const (.bool true)) (.tmp 89)),
           .s 91 (.mv (.tmp 90)),
           .g 92 91 false (.mv (.tmp 7)),
           .g 93 91 false (.call 16 [(.tmp 92)]),
           .g 94 91 false (.mv (.tmp 8)),
           .g 95 91 false (.len (.tmp 94)),
           .g 96 91 false (.mv (.tmp 12)),
           .g 97 91 false (.len (.tmp 96)),
           .g 98 91 false (.bin .sub (.tmp 95) (.tmp 97)),
           .g 99 91 false (.bin .neq (.tmp 93) (.tmp 98)),
           .s 100 (.pick (.tmp 91) (.const (.bool true)) (.tmp 99)),
           .s 101 (.mv (.tmp 100)),
           .g 102 101 false (.mv (.tmp 7)),
           .g 103 101 false (.mv (.tmp 12)),
           .g 104 101 false (.call 13 [(.tmp 102), (.tmp 103)]),
           .g 105 101 false (.bin .neq (.tmp 104) (.const (.int .i64 0))),
           .s 106 (.pick (.tmp 101) (.const (.bool true)) (.tmp 105)),
           .s 107 (.mv (.tmp 106)),
           .g 108 107 false (.mv (.tmp 7)),
           .g 109 107 false (.bld [(.string .empty), (.string .empty)] []),
           .g 110 107 false (.call 12 [(.tmp 108), (.tmp 109)]),
           .g 111 107 false (.mv (.tmp 8)),
           .g 112 107 false (.call 31 [(.tmp 110), (.tmp 111)]),
           .g 113 107 false (.un .not (.tmp 112)),
           .s 114 (.pick (.tmp 107) (.const (.bool true)) (.tmp 113))])
          (.cnd (.tmp 114) (.seq (.reg [.s 6 (.mv (.const (.bool false)))])
             .ret)
            .skip))
         (.seq (.reg [.s 116 (.call 21 []),
           .s 117 (.mv (.tmp 8)),
           .s 118 (.call 20 [(.tmp 116), (.tmp 117)]),
           .s 119 (.call 22 [(.tmp 118)]),
           .s 115 (.mv (.tmp 119)),
           .s 120 (.ext 0 (.tmp 115)),
           .s 121 (.ext 1 (.tmp 115)),
           .s 13 (.mv (.tmp 120)),
           .s 14 (.mv (.tmp 121))])
          (.seq (.reg [.s 122 (.mv (.tmp 13)),
            .s 123 (.call 28 [(.tmp 122)]),
            .s 15 (.mv (.tmp 123))])
           (.seq (.reg [.s 125 (.mv (.tmp 15)),
             .s 126 (.call 29 [(.tmp 125)]),
             .s 124 (.mv (.tmp 126)),
             .s 127 (.ext 0 (.tmp 124)),
             .s 128 (.ext 1 (.tmp 124)),
             .s 16 (.mv (.tmp 127)),
             .s 17 (.mv (.tmp 128))])
            (.seq (.reg [.s 129 (.mv (.tmp 14)),
              .s 130 (.bin .eql (.tmp 129) (.const (.int .i64 0))),
              .s 131 (.mv (.tmp 130)),
              .g 132 131 true (.mv (.tmp 17)),
              .s 133 (.pick (.tmp 131) (.tmp 132) (.const (.bool false))),
              .s 134 (.mv (.tmp 133)),
              .g 135 134 true (.mv (.tmp 15)),
              .g 136 134 true (.call 36 [(.tmp 135)]),
              .g 137 134 true (.bin .eql (.tmp 136) (.const (.int .i64 0))),
              .s 138 (.pick (.tmp 134) (.tmp 137) (.const (.bool false))),
              .s 139 (.mv (.tmp 138)),
              .g 140 139 true (.mv (.tmp 16)),
              .g 141 139 true (.mv (.tmp 8)),
              .g 142 139 true (.call 31 [(.tmp 140), (.tmp 141)]),
              .s 143 (.pick (.tmp 139) (.tmp 142) (.const (.bool false))),
              .s 6 (.mv (.tmp 143))])
             .ret))))))))))))), [.t 6]⟩
theorem c_watershedlaw16_HoldsSpans : (compF Go.Proofs.Tryz.prog 5).map linF = some ir_watershedlaw16_HoldsSpans := by kernel_rfl
end Go.WK
/-
  The texts in the small language of some loaded functions, each held against the loaded one by the kernel.
-/
namespace Go.WK
open Go
def ir_watershedlaw16_HoldsNil : FIR := ⟨98, (.seq (.reg [.s 4 (.mv (.const (.bool false)))])
 (.seq (.seq (.reg [.s 13 (.call 9 []),
    .s 14 (.un .not (.tmp 13))])
   (.cnd (.tmp 14) (.seq (.reg [.s 4 (.mv (.const (.bool false)))])
      .ret)
     .skip))
  (.seq (.seq (.reg [.s 15 (.mv (.tmp 0)),
     .s 16 (.call 10 [(.tmp 15), (.const (.int .i64 1500))]),
     .s 17 (.bin .gtr (.tmp 16) (.const (.int .i64 1500))),
     .s 18 (.mv (.tmp 17)),
     .g 19 18 false (.mv (.tmp 1)),
     .g 20 18 false (.slen (.tmp 19)),
     .g 21 18 false (.bin .gtr (.tmp 20) (.const (.int .i64 1500))),
     .s 22 (.pick (.tmp 18) (.const (.bool true)) (.tmp 21))])
    (.cnd (.tmp 22) (.seq (.reg [.s 4 (.mv (.const (.bool true)))])
       .ret)
      .skip))
   (.seq (.reg [.s 5 (.mv (.const (.pointer none)))])
    (.seq (.reg [.s 23 (.mv (.tmp 5)),
      .s 24 (.bld [(.slice none 0 0), (.bool false)] []),
      .s 25 (.box 90 (.tmp 24)),
      .s 26 (.bsl 27 2 [(.pointer none), (.pointer none)] [(0, 1, (.tmp 23)), (1, 1, (.tmp 25))]),
      .s 6 (.mv (.tmp 26))])
     (.seq (.seq (.reg [.s 7 (.mv (.const (.int .i64 0)))])
       (.blk 0 (.loop (.seq (.seq (.reg [.s 27 (.mv (.tmp 7)),
            .s 28 (.mv (.tmp 6)),
            .s 29 (.len (.tmp 28)),
            .s 30 (.bin .lss (.tmp 27) (.tmp 29))])
           (.cnd (.tmp 30) .skip
             (.exit 0)))
          (.seq (.blk 1 (.seq (.reg [.s 33 (.mv (.tmp 6)),
              .s 34 (.mv (.tmp 7)),
              .s 35 (.ia 1 (.tmp 33) (.tmp 34)),
              .s 36 (.ld (.tmp 35)),
              .s 8 (.mv (.tmp 36))])
             (.seq (.reg [.s 38 (.mv (.tmp 8)),
               .s 39 (.mv (.tmp 1)),
               .s 40 (.call 14 [(.tmp 38), (.tmp 39)]),
               .s 37 (.mv (.tmp 40)),
               .s 41 (.ext 0 (.tmp 37)),
               .s 42 (.ext 1 (.tmp 37)),
               .s 9 (.new 35 [(.string .empty), (.int .i64 0), (.int .i64 0), (.slice none 0 0), (.slice none 0 0), (.bool false), (.string .empty)]),
               .e (.st 7 (.tmp 9) (.tmp 41)),
               .s 10 (.mv (.tmp 42))])
              (.seq (.reg [.s 44 (.mv (.tmp 8)),
                .s 45 (.bld [(.int .i64 0), (.int .i64 0)] []),
                .s 46 (.mv (.tmp 1)),
                .s 47 (.bsl 9 1 [(.string .empty)] [(0, 1, (.tmp 46))]),
                .s 48 (.call 15 [(.tmp 44), (.tmp 45), (.tmp 47)]),
                .s 43 (.mv (.tmp 48)),
                .s 49 (.ext 0 (.tmp 43)),
                .s 50 (.ext 1 (.tmp 43)),
                .s 11 (.new 24 [(.int .i64 0), (.int .i64 0)]),
                .e (.st 2 (.tmp 11) (.tmp 49)),
                .s 12 (.mv (.tmp 50))])
               (.seq (.reg [.s 51 (.mv (.tmp 10)),
                 .s 52 (.mv (.tmp 51)),
                 .g 53 52 false (.mv (.tmp 12)),
                 .s 54 (.pick (.tmp 52) (.const (.bool true)) (.tmp 53)),
                 .s 55 (.mv (.tmp 54)),
                 .g 56 55 false (.mv (.tmp 8)),
                 .g 57 55 false (.mv (.tmp 0)),
                 .g 58 55 false (.call 13 [(.tmp 56), (.tmp 57)]),
                 .g 59 55 false (.bin .neq (.tmp 58) (.const (.int .i64 1))),
                 .s 60 (.pick (.tmp 55) (.const (.bool true)) (.tmp 59)),
                 .s 61 (.mv (.tmp 60)),
                 .g 62 61 false (.mv (.tmp 8)),
                 .g 63 61 false (.call 16 [(.tmp 62)]),
                 .g 64 61 false (.bin .neq (.tmp 63) (.const (.int .i64 0))),
                 .s 65 (.pick (.tmp 61) (.const (.bool true)) (.tmp 64)),
                 .s 66 (.mv (.tmp 65)),
                 .g 67 66 false (.mv (.tmp 8)),
                 .g 68 66 false (.call 40 [(.tmp 67)]),
                 .g 69 66 false (.eqz .ptr true (.tmp 68) (.const (.pointer none))),
                 .s 70 (.pick (.tmp 66) (.const (.bool true)) (.tmp 69)),
                 .s 71 (.mv (.tmp 70)),
                 .g 72 71 false (.mv (.tmp 8)),
                 .g 73 71 false (.bld [(.int .i64 0), (.int .i64 0)] []),
                 .g 74 71 false (.call 44 [(.tmp 72), (.tmp 73)]),
                 .g 75 71 false (.len (.tmp 74)),
                 .g 76 71 false (.mv (.tmp 8)),
                 .g 77 71 false (.call 45 [(.tmp 76)]),
                 .g 78 71 false (.len (.tmp 77)),
                 .g 79 71 false (.bin .add (.tmp 75) (.tmp 78)),
                 .g 80 71 false (.mv (.tmp 8)),
                 .g 81 71 false (.mv (.tmp 1)),
                 .g 82 71 false (.bsl 9 1 [(.string .empty)] [(0, 1, (.tmp 81))]),
                 .g 83 71 false (.call 17 [(.tmp 80), (.tmp 82)]),
                 .g 84 71 false (.len (.tmp 83)),
                 .g 85 71 false (.bin .add (.tmp 79) (.tmp 84)),
                 .g 86 71 false (.mv (.tmp 8)),
                 .g 87 71 false (.bld [(.string .empty), (.string .empty)] []),
                 .g 88 71 false (.call 12 [(.tmp 86), (.tmp 87)]),
                 .g 89 71 false (.len (.tmp 88)),
                 .g 90 71 false (.bin .add (.tmp 85) (.tmp 89)),
                 .g 91 71 false (.mv (.tmp 8)),
                 .g 92 71 false (.bld [(.string .empty), (.string .empty)] []),
                 .g 93 71 false (.call 35 [(.tmp 91), (.tmp 92)]),
                 .g 94 71 false (.len (.tmp 93)),
                 .g 95 71 false (.bin .add (.tmp 90) (.tmp 94)),
                 .g 96 71 false (.bin .neq (.tmp 95) (.const (.int .i64 0))),
                 .s 97 (.pick (.tmp 71) (.const (.bool true)) (.tmp 96))])
                (.cnd (.tmp 97) (.seq (.reg [.s 4 (.mv (.const (.bool false)))])
                   .ret)
                  .skip))))))
           (.reg [.s 31 (.mv (.tmp 7)),
            .s 32 (.bin .add (.tmp 31) (.const (.int .i64 1))),
            .s 7 (.mv (.tmp 32))]))))))
      (.seq (.reg [.s 4 (.mv (.const (.bool true)))])
       .ret))))))), [.t 4]⟩
theorem c_watershedlaw16_HoldsNil : (compF Go.Proofs.Tryz.prog 7).map linF = some ir_watershedlaw16_HoldsNil := by kernel_rfl
def ir_holds_Holds_Copy : FIR := ⟨15, (.seq (.reg [.s 2 (.mv (.const (.pointer none)))])
 (.seq (.seq (.reg [.s 3 (.mv (.tmp 0)),
    .s 4 (.call 48 [(.tmp 3)]),
    .s 5 (.un .not (.tmp 4))])
   (.cnd (.tmp 5) (.seq (.reg [.s 2 (.mv (.const (.pointer none)))])
      .ret)
     .skip))
  (.seq (.reg [.s 6 (.mv (.tmp 0)),
    .s 7 (.nck (.tmp 6)),
    .s 8 (.fa 0 (.tmp 7)),
    .s 9 (.fa 0 (.tmp 8)),
    .s 10 (.ld (.tmp 9)),
    .s 11 (.call 53 [(.tmp 10)]),
    .s 12 (.bld [(.slice none 0 0)] [(0, 1, (.tmp 11))]),
    .s 13 (.bld [(.slice none 0 0), (.bool false)] [(0, 1, (.tmp 12)), (1, 1, (.const (.bool true)))]),
    .s 14 (.box 90 (.tmp 13)),
    .s 2 (.mv (.tmp 14))])
   .ret))), [.t 2]⟩
theorem c_holds_Holds_Copy : (compF Go.Proofs.Tryz.prog 40).map linF = some ir_holds_Holds_Copy := by kernel_rfl
def ir_holds_Holds_By : FIR := ⟨13, (.seq (.reg [.s 3 (.box 24 (.tmp 1)),
  .s 4 (.mv (.const (.slice none 0 0)))])
 (.seq (.seq (.reg [.s 5 (.mv (.tmp 0)),
    .s 6 (.call 48 [(.tmp 5)]),
    .s 7 (.un .not (.tmp 6))])
   (.cnd (.tmp 7) (.seq (.reg [.s 4 (.mv (.const (.slice none 0 0)))])
      .ret)
     .skip))
  (.seq (.reg [.s 8 (.mv (.tmp 0)),
    .s 9 (.nck (.tmp 8)),
    .s 10 (.fa 0 (.tmp 9)),
    .s 11 (.mkf 98 [(.tmp 3)]),
    .s 12 (.call 49 [(.tmp 10), (.tmp 11)]),
    .s 4 (.mv (.tmp 12))])
   .ret))), [.t 4]⟩
theorem c_holds_Holds_By : (compF Go.Proofs.Tryz.prog 44).map linF = some ir_holds_Holds_By := by kernel_rfl
def ir_holds_Holds_Names : FIR := ⟨29, (.seq (.reg [.s 2 (.mv (.const (.slice none 0 0)))])
 (.seq (.seq (.reg [.s 6 (.mv (.tmp 0)),
    .s 7 (.call 48 [(.tmp 6)]),
    .s 8 (.un .not (.tmp 7))])
   (.cnd (.tmp 8) (.seq (.reg [.s 2 (.mv (.const (.slice none 0 0)))])
      .ret)
     .skip))
  (.seq (.reg [.s 3 (.mv (.const (.slice none 0 0)))])
   (.seq (.seq (.reg [.s 9 (.mv (.tmp 0)),
      .s 10 (.nck (.tmp 9)),
      .s 11 (.fa 0 (.tmp 10)),
      .s 12 (.fa 0 (.tmp 11)),
      .s 13 (.ld (.tmp 12)),
      .s 14 (.len (.tmp 13)),
      .s 15 (.mv (.const (.int .i64 0)))])
     (.blk 0 (.loop (.seq (.reg [.s 16 (.bin .lss (.tmp 15) (.tmp 14))])
        (.seq (.cnd (.tmp 16) .skip
           (.exit 0))
         (.seq (.blk 1 (.seq (.reg [.s 17 (.ia 7 (.tmp 13) (.tmp 15)),
             .s 18 (.ldn 7 (.tmp 17)),
             .s 5 (.new 35 [(.string .empty), (.int .i64 0), (.int .i64 0), (.slice none 0 0), (.slice none 0 0), (.bool false), (.string .empty)]),
             .e (.st 7 (.tmp 5) (.tmp 18))])
            (.reg [.s 19 (.mv (.tmp 3)),
             .s 20 (.fa 1 (.tmp 5)),
             .s 21 (.ldn 2 (.tmp 20)),
             .s 22 (.bsl 24 1 [(.int .i64 0), (.int .i64 0)] [(0, 2, (.tmp 21))]),
             .s 23 (.app 24 2 16 [(.int .i64 0), (.int .i64 0)] (.tmp 19) (.tmp 22)),
             .s 3 (.mv (.tmp 23))])))
          (.reg [.s 24 (.bin .add (.tmp 15) (.const (.int .i64 1))),
           .s 15 (.mv (.tmp 24))])))))))
    (.seq (.reg [.s 25 (.mv (.tmp 3)),
      .s 26 (.call 99 [(.tmp 25), (.func 100)])])
     (.seq (.reg [.s 27 (.mv (.tmp 3)),
       .s 28 (.call 103 [(.tmp 27)]),
       .s 2 (.mv (.tmp 28))])
      .ret)))))), [.t 2]⟩
theorem c_holds_Holds_Names : (compF Go.Proofs.Tryz.prog 45).map linF = some ir_holds_Holds_Names := by kernel_rfl
def ir_holds_Holds_Take : FIR := ⟨13, (.seq (.reg [.s 3 (.box 31 (.tmp 1)),
  .s 4 (.mv (.const (.slice none 0 0)))])
 (.seq (.seq (.reg [.s 5 (.mv (.tmp 0)),
    .s 6 (.call 48 [(.tmp 5)]),
    .s 7 (.un .not (.tmp 6))])
   (.cnd (.tmp 7) (.seq (.reg [.s 4 (.mv (.const (.slice none 0 0)))])
      .ret)
     .skip))
  (.seq (.reg [.s 8 (.mv (.tmp 0)),
    .s 9 (.nck (.tmp 8)),
    .s 10 (.fa 0 (.tmp 9)),
    .s 11 (.mkf 85 [(.tmp 3)]),
    .s 12 (.call 56 [(.tmp 10), (.tmp 11)]),
    .s 4 (.mv (.tmp 12))])
   .ret))), [.t 4]⟩
theorem c_holds_Holds_Take : (compF Go.Proofs.Tryz.prog 35).map linF = some ir_holds_Holds_Take := by kernel_rfl
end Go.WK
/-
  The texts in the small language of some loaded functions, each held against the loaded one by the kernel.
-/
namespace Go.WK
open Go
def ir_watershedlaw16_HoldsOne : FIR := ⟨166, (.seq (.reg [.s 5 (.box 24 (.tmp 2)),
  .s 6 (.mv (.const (.bool false)))])
 (.seq (.seq (.reg [.s 17 (.call 9 []),
    .s 18 (.un .not (.tmp 17))])
   (.cnd (.tmp 18) (.seq (.reg [.s 6 (.mv (.const (.bool false)))])
      .ret)
     .skip))
  (.seq (.seq (.reg [.s 19 (.mv (.tmp 0)),
     .s 20 (.call 10 [(.tmp 19), (.const (.int .i64 1500))]),
     .s 21 (.bin .gtr (.tmp 20) (.const (.int .i64 1500))),
     .s 22 (.mv (.tmp 21)),
     .g 23 22 false (.mv (.tmp 1)),
     .g 24 22 false (.slen (.tmp 23)),
     .g 25 22 false (.bin .gtr (.tmp 24) (.const (.int .i64 1500))),
     .s 26 (.pick (.tmp 22) (.const (.bool true)) (.tmp 25))])
    (.cnd (.tmp 26) (.seq (.reg [.s 6 (.mv (.const (.bool true)))])
       .ret)
      .skip))
   (.seq (.reg [.s 27 (.mv (.tmp 0)),
     .s 28 (.call 11 [(.tmp 27)]),
     .s 7 (.mv (.tmp 28))])
    (.seq (.reg [.s 29 (.mv (.tmp 7)),
      .s 30 (.bld [(.string .empty), (.string .empty)] []),
      .s 31 (.call 12 [(.tmp 29), (.tmp 30)]),
      .s 8 (.mv (.tmp 31))])
     (.seq (.reg [.s 9 (.mv (.const (.int .i64 0)))])
      (.seq (.seq (.reg [.s 10 (.mv (.const (.int .i64 0)))])
        (.blk 0 (.loop (.seq (.seq (.reg [.s 32 (.mv (.tmp 10)),
             .s 33 (.mv (.tmp 8)),
             .s 34 (.len (.tmp 33)),
             .s 35 (.bin .lss (.tmp 32) (.tmp 34))])
            (.cnd (.tmp 35) .skip
              (.exit 0)))
           (.seq (.blk 1 (.seq (.seq (.lin [(false, .s 38 (.mv (.tmp 10))),
                (false, .s 39 (.bin .gtr (.tmp 38) (.const (.int .i64 0)))),
                (false, .s 40 (.mv (.tmp 39))),
                (false, .g 41 40 true (.mv (.tmp 8))),
                (false, .g 42 40 true (.mv (.tmp 10))),
                (false, .g 43 40 true (.bin .sub (.tmp 42) (.const (.int .i64 1)))),
                (false, .g 44 40 true (.ia 7 (.tmp 41) (.tmp 43))),
                (false, .g 45 40 true (.fa 0 (.tmp 44))),
                (false, .g 46 40 true (.ld (.tmp 45))),
                (false, .g 47 40 true (.mv (.tmp 8))),
                (false, .g 48 40 true (.mv (.tmp 10))),
                (false, .g 49 40 true (.ia 7 (.tmp 47) (.tmp 48))),
                (false, .g 50 40 true (.fa 0 (.tmp 49))),
                (false, .g 51 40 true (.ld (.tmp 50))),
                (false, .g 52 40 true (.bin .geq (.tmp 46) (.tmp 51))),
                (false, .s 53 (.pick (.tmp 40) (.tmp 52) (.const (.bool false)))),
                (false, .s 54 (.mv (.tmp 53))),
                (false, .g 55 54 false (.mv (.tmp 7))),
                (false, .g 56 54 false (.mv (.tmp 8))),
                (false, .g 57 54 false (.mv (.tmp 10))),
                (false, .g 58 54 false (.ia 7 (.tmp 56) (.tmp 57))),
                (false, .g 59 54 false (.ldn 7 (.tmp 58))),
                (true, .g 60 54 false (.bsl 35 1 [(.string .empty), (.int .i64 0), (.int .i64 0), (.slice none 0 0), (.slice none 0 0), (.bool false), (.string .empty)] [(0, 7, (.tmp 59))])),
                (true, .g 61 54 false (.call 13 [(.tmp 55), (.tmp 60)])),
                (false, .g 62 54 false (.bin .neq (.tmp 61) (.const (.int .i64 7)))),
                (false, .s 63 (.pick (.tmp 54) (.const (.bool true)) (.tmp 62)))])
               (.cnd (.tmp 63) (.seq (.reg [.s 6 (.mv (.const (.bool false)))])
                  .ret)
                 .skip))
              (.seq (.reg [.s 64 (.mv (.tmp 8)),
                .s 65 (.mv (.tmp 10)),
                .s 66 (.ia 7 (.tmp 64) (.tmp 65)),
                .s 67 (.fa 0 (.tmp 66)),
                .s 68 (.ld (.tmp 67)),
                .s 69 (.mv (.tmp 1)),
                .s 70 (.bin .eql (.tmp 68) (.tmp 69))])
               (.cnd (.tmp 70) (.reg [.s 71 (.mv (.tmp 9)),
                  .s 72 (.bin .add (.tmp 71) (.const (.int .i64 1))),
                  .s 9 (.mv (.tmp 72))])
                 .skip))))
            (.reg [.s 36 (.mv (.tmp 10)),
             .s 37 (.bin .add (.tmp 36) (.const (.int .i64 1))),
             .s 10 (.mv (.tmp 37))]))))))
       (.seq (.reg [.s 74 (.mv (.tmp 7)),
         .s 75 (.mv (.tmp 1)),
         .s 76 (.call 14 [(.tmp 74), (.tmp 75)]),
         .s 73 (.mv (.tmp 76)),
         .s 77 (.ext 0 (.tmp 73)),
         .s 78 (.ext 1 (.tmp 73)),
         .s 11 (.new 35 [(.string .empty), (.int .i64 0), (.int .i64 0), (.slice none 0 0), (.slice none 0 0), (.bool false), (.string .empty)]),
         .e (.st 7 (.tmp 11) (.tmp 77)),
         .s 12 (.mv (.tmp 78))])
        (.seq (.reg [.s 80 (.mv (.tmp 7)),
          .s 81 (.ldn 2 (.tmp 5)),
          .s 82 (.mv (.tmp 1)),
          .s 83 (.bsl 9 1 [(.string .empty)] [(0, 1, (.tmp 82))]),
          .s 84 (.call 15 [(.tmp 80), (.tmp 81), (.tmp 83)]),
          .s 79 (.mv (.tmp 84)),
          .s 85 (.ext 0 (.tmp 79)),
          .s 86 (.ext 1 (.tmp 79)),
          .s 13 (.new 24 [(.int .i64 0), (.int .i64 0)]),
          .e (.st 2 (.tmp 13) (.tmp 85)),
          .s 14 (.mv (.tmp 86))])
         (.seq (.seq (.reg [.s 87 (.mv (.tmp 12)),
            .s 88 (.mv (.tmp 9)),
            .s 89 (.bin .eql (.tmp 88) (.const (.int .i64 1))),
            .s 90 (.eqb true (.tmp 87) (.tmp 89)),
            .s 91 (.mv (.tmp 90)),
            .g 92 91 false (.mv (.tmp 14)),
            .g 93 91 false (.mv (.tmp 12)),
            .g 94 91 false (.mv (.tmp 93)),
            .g 95 94 true (.fa 1 (.tmp 11)),
            .g 96 94 true (.ldn 2 (.tmp 95)),
            .g 97 94 true (.ldn 2 (.tmp 5)),
            .g 98 94 true (.eqs [.i, .i] true (.tmp 96) (.tmp 97)),
            .g 99 91 false (.pick (.tmp 94) (.tmp 98) (.const (.bool false))),
            .g 100 91 false (.eqb true (.tmp 92) (.tmp 99)),
            .s 101 (.pick (.tmp 91) (.const (.bool true)) (.tmp 100)),
            .s 102 (.mv (.tmp 101)),
            .g 103 102 false (.mv (.tmp 14)),
            .g 104 102 false (.mv (.tmp 103)),
            .g 105 104 true (.ldn 2 (.tmp 13)),
            .g 106 104 true (.fa 1 (.tmp 11)),
            .g 107 104 true (.ldn 2 (.tmp 106)),
            .g 108 104 true (.eqs [.i, .i] true (.tmp 105) (.tmp 107)),
            .g 109 102 false (.pick (.tmp 104) (.tmp 108) (.const (.bool false))),
            .s 110 (.pick (.tmp 102) (.const (.bool true)) (.tmp 109)),
            .s 111 (.mv (.tmp 110)),
            .g 112 111 false (.mv (.tmp 8)),
            .g 113 111 false (.len (.tmp 112)),
            .g 114 111 false (.mv (.tmp 7)),
            .g 115 111 false (.call 16 [(.tmp 114)]),
            .g 116 111 false (.bin .neq (.tmp 113) (.tmp 115)),
            .s 117 (.pick (.tmp 111) (.const (.bool true)) (.tmp 116)),
            .s 118 (.mv (.tmp 117)),
            .g 119 118 false (.mv (.tmp 9)),
            .g 120 118 false (.bin .gtr (.tmp 119) (.const (.int .i64 1))),
            .s 121 (.pick (.tmp 118) (.const (.bool true)) (.tmp 120))])
           (.cnd (.tmp 121) (.seq (.reg [.s 6 (.mv (.const (.bool false)))])
              .ret)
             .skip))
          (.seq (.seq (.reg [.s 122 (.mv (.tmp 12)),
             .s 123 (.un .not (.tmp 122))])
            (.cnd (.tmp 123) (.seq (.reg [.s 124 (.mv (.tmp 7)),
                .s 125 (.mv (.tmp 1)),
                .s 126 (.bsl 9 1 [(.string .empty)] [(0, 1, (.tmp 125))]),
                .s 127 (.call 17 [(.tmp 124), (.tmp 126)]),
                .s 128 (.len (.tmp 127)),
                .s 129 (.bin .eql (.tmp 128) (.const (.int .i64 0))),
                .s 6 (.mv (.tmp 129))])
               .ret)
              .skip))
           (.seq (.reg [.s 130 (.ldn 7 (.tmp 11)),
             .s 15 (.new 35 [(.string .empty), (.int .i64 0), (.int .i64 0), (.slice none 0 0), (.slice none 0 0), (.bool false), (.string .empty)]),
             .e (.st 7 (.tmp 15) (.tmp 130))])
            (.seq (.reg [.s 131 (.fa 1 (.tmp 11)),
              .s 132 (.fa 0 (.tmp 131)),
              .s 133 (.ld (.tmp 132)),
              .s 134 (.bin .rem (.tmp 133) (.const (.int .i64 8))),
              .s 135 (.bin .add (.const (.int .i64 1)) (.tmp 134)),
              .s 136 (.bld [(.int .i64 0), (.int .i64 0)] [(0, 1, (.tmp 135)), (1, 1, (.const (.int .i64 1)))]),
              .s 137 (.fa 1 (.tmp 15)),
              .e (.st 2 (.tmp 137) (.tmp 136))])
             (.seq (.reg [.s 138 (.mv (.tmp 7)),
               .s 139 (.mv (.tmp 1)),
               .s 140 (.bsl 9 1 [(.string .empty)] [(0, 1, (.tmp 139))]),
               .s 141 (.call 17 [(.tmp 138), (.tmp 140)]),
               .s 16 (.mv (.tmp 141))])
              (.seq (.lin [(false, .s 142 (.mv (.tmp 16))),
                (false, .s 143 (.len (.tmp 142))),
                (false, .s 144 (.bin .eql (.tmp 143) (.const (.int .i64 1)))),
                (false, .s 145 (.mv (.tmp 144))),
                (false, .g 146 145 true (.mv (.tmp 16))),
                (false, .g 147 145 true (.ia 7 (.tmp 146) (.const (.int .i64 0)))),
                (false, .g 148 145 true (.ldn 7 (.tmp 147))),
                (false, .g 149 145 true (.ldn 7 (.tmp 11))),
                (false, .g 150 145 true (.call 18 [(.tmp 148), (.tmp 149)])),
                (false, .s 151 (.pick (.tmp 145) (.tmp 150) (.const (.bool false)))),
                (false, .s 152 (.mv (.tmp 151))),
                (false, .g 153 152 true (.mv (.tmp 7))),
                (false, .g 154 152 true (.ldn 7 (.tmp 15))),
                (true, .g 155 152 true (.bsl 35 1 [(.string .empty), (.int .i64 0), (.int .i64 0), (.slice none 0 0), (.slice none 0 0), (.bool false), (.string .empty)] [(0, 7, (.tmp 154))])),
                (true, .g 156 152 true (.call 13 [(.tmp 153), (.tmp 155)])),
                (false, .g 157 152 true (.bin .eql (.tmp 156) (.const (.int .i64 0)))),
                (false, .s 158 (.pick (.tmp 152) (.tmp 157) (.const (.bool false)))),
                (false, .s 159 (.mv (.tmp 158))),
                (false, .g 160 159 true (.mv (.tmp 7))),
                (false, .g 162 159 true (.mv (.tmp 8))),
                (false, .g 163 159 true (.len (.tmp 162))),
                (true, .g 161 159 true (.call 16 [(.tmp 160)])),
                (false, .g 164 159 true (.bin .eql (.tmp 161) (.tmp 163))),
                (false, .s 165 (.pick (.tmp 159) (.tmp 164) (.const (.bool false)))),
                (false, .s 6 (.mv (.tmp 165)))])
               .ret))))))))))))))), [.t 6]⟩
theorem c_watershedlaw16_HoldsOne : (compF Go.Proofs.Tryz.prog 3).map linF = some ir_watershedlaw16_HoldsOne := by kernel_rfl
end Go.WK
