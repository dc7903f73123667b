/-
  HoldsBytes: for every list of holds and every bytes in memory the function returns true, does not panic and leaves what was there; its condition is the one of its row. Part 13 of 14.
-/
import Derived.Test.YtcafflmhjgnehaaGreatDoorHoldsBytesQ11
import Derived.Test.YtcafflmhjgnehaaGreatDoorHoldsBytesQ6
set_option linter.unusedSimpArgs false
set_option linter.unusedVariables false
set_option linter.defProp false
set_option maxRecDepth 100000
/-
 The reference's reading of holds.
-/
namespace Go.WK
open Go Go.Proofs

set_option maxHeartbeats 4000000 in
theorem Read16_cl {S : Nat → Prop} {H : Hp} {p : Nat} {st : St} {v : Value} (h : Qr S H p st v) :
  Cl Tryz.prog 30 [.pointer (some ⟨p, 0, none⟩)] H fun r H' => QrP S H p (holdsR st).2 H' ∧ ∃ (u : Value) (R : Nat → Prop), r = .tuple #[u, .bool (holdsR st).1.2] ∧ (∀ x, R x → H.size ≤ x ∧ x < H'.size) ∧ HdSl R H' u (holdsR st).1.1 := by
 suffices hh : ∀ n : Nat, (numR 60 st).1 = n → Cl Tryz.prog 30 [.pointer (some ⟨p, 0, none⟩)] H fun r H' => QrP S H p (holdsL n [] (numR 60 st).2).2 H' ∧ ∃ (u : Value) (R : Nat → Prop), r = .tuple #[u, .bool (holdsL n [] (numR 60 st).2).1.2] ∧ (∀ x, R x → H.size ≤ x ∧ x < H'.size) ∧ HdSl R H' u (holdsL n [] (numR 60 st).2).1.1 by
  have hb := numR_bd 60 st (by omega)
  have := hh (numR 60 st).1.toNat (by omega)
  exact this
 intro n hn
 refine cl_of mixed c_watershedref16_Read (Nat.le_of_ble_eq_true rfl) ?_
 simp only [fwp, ir_watershedref16_Read, argF, Nat.reduceAdd]
 have hp := cell_lt h.c0
 refine w_reg fun K hK => ?_; simp (disch := omega) only [↓wD, wU, simprocAttr]; refine hK _ _ ?_; clear hK K
 refine w_reg fun K hK => ?_
 simp (disch := omega) only [↓wD, wU, simprocAttr]
 refine w_call (NumR2_cl (most := 60) h) ?_
 rintro _ H1 ⟨rfl, hk1, v1, hR1⟩
 obtain ⟨hn0, hn6⟩ := numR_bd 60 st (by omega)
 rw [hn] at hn6
 simp (disch := omega) only [↓wD, wU, simprocAttr, hn]
 refine hK _ _ ?_
 clear hK K
 refine w_reg fun K hK => ?_; simp (disch := omega) only [↓wD, wU, simprocAttr]; refine hK _ _ ?_; clear hK K
 refine w_seq ?_
 refine w_reg fun K hK => ?_; simp (disch := omega) only [↓wD, wU, simprocAttr]; refine hK _ _ ?_; clear hK K
 refine w_blk (w_loop (fun n' f H' => f 0 = .pointer (some ⟨p, 0, none⟩) ∧ f 4 = .int .i64 n ∧ ∃ (i : Nat) (L : List Hd) (sti : St) (vi u : Value) (M' G' : Nat → Prop), f 6 = .int .i64 i ∧ i ≤ n ∧ n' = n - i ∧ f 5 = u ∧ KeepOn (fun x => x ≠ p) H H' ∧ Qr S H' p sti vi ∧ (∀ x, M' x ∨ G' x → H.size ≤ x ∧ x < H'.size) ∧ (∀ x, M' x → ¬ G' x) ∧ RowHd M' G' H' u L ∧ L.length = i ∧ (sti = none → L = []) ∧ holdsL (n - i) L sti = holdsL n [] (numR 60 st).2) n ⟨(by simp only [wL, Nat.reduceBEq]), (by simp only [wL, Nat.reduceBEq]), 0, [], _, v1, _, fun _ => False, fun _ => False, (by simp only [wL, Nat.reduceBEq]; rfl), Nat.zero_le _, rfl, (by simp only [wL, Nat.reduceBEq]), hk1, hR1, fun _ h => h.elim (fun h => h.elim) fun h => h.elim, fun _ h => h.elim, RowHd.nil, rfl, fun _ => rfl, rfl⟩ ?_)
 rintro n' f H' ⟨f0, f4, i, L, sti, vi, u, M', G', f6, hi, rfl, f5, hkA, hR, hMG, hdis, hrow, hLi, hLn, hD⟩
 refine w_seq (w_seq ?_)
 by_cases hil : i < n
 ·refine w_reg fun K hK => ?_; simp (disch := omega) only [↓wD, wU, simprocAttr, f4, f6, hil]; refine hK _ _ ?_; clear hK K
  refine wt ?_
  refine w_skip ?_
  (with_reducible repeat first | apply q_n | apply q_e | apply q_r | apply bq_n | apply bq_e | apply bq_r | apply bq_o rfl)
  refine w_seq (w_blk ?_)
  have hps := hkA.1
  have hp' := cell_lt hR.c0
  refine w_reg fun K hK => ?_
  simp (disch := omega) only [↓wD, wU, simprocAttr, f0]
  refine w_call (hold16_cl hR) ?_
  rintro _ G1 ⟨⟨gk1, gv1, gR1⟩, cs, Gn, rfl, hGn, hEl⟩
  have hl7 := hEl.len
  have hB := Bk.new G1 [.string .empty, .int .i64 0, .int .i64 0, .slice none 0 0, .slice none 0 0, .bool false, .string .empty] 35
  have hs1 : (G1.push (.cells #[.string .empty, .int .i64 0, .int .i64 0, .slice none 0 0, .slice none 0 0, .bool false, .string .empty] 35)).size = G1.size + 1 := by simp
  have hE1 : Ext G1 (G1.push (.cells #[.string .empty, .int .i64 0, .int .i64 0, .slice none 0 0, .slice none 0 0, .bool false, .string .empty] 35)) := (Ext.refl _).push _
  obtain ⟨G2, hw2, hW2⟩ := wrn_ok (l := cs) (by rw [hl7]; exact hB.own) hEl.one
  simp (disch := omega) only [↓wD, wU, simprocAttr, hl7, hw2]
  refine hK _ _ ?_
  clear hK K
  generalize G1.push (.cells #[.string .empty, .int .i64 0, .int .i64 0, .slice none 0 0, .slice none 0 0, .bool false, .string .empty] 35) = G1' at hB hs1 hE1 hW2 hw2
  have hB2 : Bk G2 G1.size cs := ⟨hW2.rdn_at, fun i => by rw [hW2.frz]; exact hB.fz i⟩
  have hs2 := hW2.size
  have gs1 := gk1.1
  have keep2 : ∀ x, x < H'.size → x ≠ p → G2[x]? = H'[x]? := fun x hx hxp => by
   rw [hW2.other x (by omega), hE1.2 x (by omega), gk1.2 x hx hxp]
  have keep12 : ∀ x, x < G1.size → G2[x]? = G1[x]? := fun x hx => by rw [hW2.other x (by omega), hE1.2 x hx]
  have hR2 : Qr S G2 p (hdR sti).2 gv1 := gR1.keep (by omega) fun x hx _ => keep12 x hx
  have hEl2 : ElHd Gn G2 cs (hdR sti).1.1 := hEl.mono (fun _ h => h) fun x _ hx => keep12 x hx
  have hrow2 : RowHd M' G' G2 u L := hrow.mono (fun _ h => h) (fun _ h => h) (by omega) fun x hx hx' => keep2 x hx' fun e => by have := hMG x hx; omega
  have hsl2 := hrow2.slp (by unfold big; omega)
  obtain ⟨ua, uc, eu, -, -, hel⟩ := SlP.open hsl2
  obtain ⟨hva, hvr, ecs, -⟩ := hEl2
  have b0 := hB2.cell 0 (by omega)
  have e0 : cs[0]'(by omega) = .string (hdR sti).1.1.key := by simp only [ecs]; rfl
  rw [e0] at b0
  refine w_seq ?_
  refine w_cut (fun g H'' => G2 = H'' ∧ g 37 = .bool (badH L (hdR sti)) ∧ g 0 = .pointer (some ⟨p, 0, none⟩) ∧ g 5 = u ∧ g 7 = .pointer (some ⟨G1.size, 0, none⟩) ∧ g 4 = .int .i64 n ∧ g 6 = .int .i64 i) ?_ ?_
  ·refine w_reg1 fun K hK => ?_
   by_cases hok : ((hdR sti).1.2 && !(hdR sti).2.isNone) = false
   ·have hbd : badH L (hdR sti) = true := by
     unfold badH
     cases h1 : (hdR sti).1.2
     ·simp
     ·rw [h1] at hok; simp at hok; simp [hok]
    simp (disch := omega) only [↓wD, wU, simprocAttr, f0, hok]
    refine hK _ _ ?_
    clear hK K
    (with_reducible repeat first | apply q_n | apply q_e | apply q_r | apply bq_n | apply bq_e | apply bq_r | apply bq_o rfl)
    exact ⟨rfl, (by simp only [wL, Nat.reduceBEq, hbd]), (by simp only [wL, Nat.reduceBEq, f0]), (by simp only [wL, Nat.reduceBEq, f5]), (by simp only [wL, Nat.reduceBEq]), (by simp only [wL, Nat.reduceBEq, f4]), (by simp only [wL, Nat.reduceBEq, f6])⟩
   ·have hok' : ((hdR sti).1.2 && !(hdR sti).2.isNone) = true := by cases h : ((hdR sti).1.2 && !(hdR sti).2.isNone) <;> simp_all
    have hbd : badH L (hdR sti) = (match L.getLast? with | none => false | some y => !sless y.key (hdR sti).1.1.key) := by
     simp only [Bool.and_eq_true, Bool.not_eq_true'] at hok'
     unfold badH
     rw [hok'.1, hok'.2]
     rfl
    by_cases hi0 : i = 0
    ·have z1 : ((0 : Int) < (i : Int)) = False := by simp [hi0]
     have z2 : (0 < i) = False := by simp [hi0]
     have eL : L = [] := List.length_eq_zero_iff.1 (by omega)
     simp (disch := omega) only [↓wD, wU, simprocAttr, f0, f6, hok', z1, z2]
     refine hK _ _ ?_
     clear hK K
     (with_reducible repeat first | apply q_n | apply q_e | apply q_r | apply bq_n | apply bq_e | apply bq_r | apply bq_o rfl)
     refine ⟨rfl, ?_, (by simp only [wL, Nat.reduceBEq, f0]), (by simp only [wL, Nat.reduceBEq, f5]), (by simp only [wL, Nat.reduceBEq]), (by simp only [wL, Nat.reduceBEq, f4]), (by simp only [wL, Nat.reduceBEq, f6])⟩
     simp only [wL, Nat.reduceBEq, hbd]
     rw [eL]; rfl
    ·obtain ⟨j, hj⟩ : ∃ j, i = j + 1 := ⟨i - 1, by omega⟩
     have hjl : j < L.length := by omega
     obtain ⟨bj, oj, ebj, -, csj, hcsj, hej⟩ := hel j hjl
     obtain ⟨ya, yr, eyj, -⟩ := hej
     rw [eyj] at hcsj
     have cj := (rdn7 hcsj).1
     have z1 : ((0 : Int) < (i : Int)) = True := by simp; omega
     have z2 : (0 < i) = True := by simp; omega
     have z3 : IntKind.i64.wrap ((i : Int) - 1) = (j : Int) := by rw [wr64 (by omega) (by omega)]; omega
     have z4 : (i : Int) - 1 = (j : Int) := by omega
     rw [eu] at f5
     subst ebj
     simp (disch := omega) only [↓wD, wU, simprocAttr, f0, f5, f6, hok', z1, z2, z3, z4, hjl, cj, b0]
     refine hK _ _ ?_
     clear hK K
     (with_reducible repeat first | apply q_n | apply q_e | apply q_r | apply bq_n | apply bq_e | apply bq_r | apply bq_o rfl)
     refine ⟨rfl, ?_, (by simp only [wL, Nat.reduceBEq, f0]), (by simp only [wL, Nat.reduceBEq, f5, eu]), (by simp only [wL, Nat.reduceBEq]), (by simp only [wL, Nat.reduceBEq, f4]), (by simp only [wL, Nat.reduceBEq, f6])⟩
     have eL : L.getLast? = some L[j] := by rw [List.getLast?_eq_getElem?, hLi, hj]; simp
     simp only [wL, Nat.reduceBEq, hbd, eL]
  rintro g H'' ⟨rfl, g40, g0, g5, g7, g4, g6⟩
  have e : n - i = (n - (i + 1)) + 1 := by omega
  rw [e, holdsL] at hD
  cases hbad : badH L (hdR sti) with
  | true =>
   rw [hbad] at g40 hD
   simp only [if_true] at hD
   refine w_true (by simp only [wL, Nat.reduceBEq, Bool.not_true, Bool.not_false, g40]) ?_
   refine w_reg fun K hK => ?_; simp (disch := omega) only [↓wD, wU, simprocAttr]; refine hK _ _ ?_; clear hK K
   refine w_ret ?_; (with_reducible repeat first | apply q_n | apply q_e | apply q_r | apply bq_n | apply bq_e | apply bq_r | apply bq_o rfl); refine ret2 (by (try simp only [wL, Nat.reduceBEq]); rfl) (by (try simp only [wL, Nat.reduceBEq]); rfl) ?_
   rw [← hD]
   exact ⟨⟨⟨by omega, fun x hx hxp => by rw [keep2 x (by omega) hxp, hkA.2 x hx hxp]⟩, gv1, hR2⟩, _, fun _ => False, rfl, fun _ h => h.elim, by refine ⟨Nat.zero_le _, .inl ⟨_, rfl, rfl⟩⟩⟩
  | false =>
   have hsn : (hdR sti).2 = none → L ++ [(hdR sti).1.1] = [] := fun e => by
    rw [badH, e] at hbad
    simp at hbad
   rw [hbad] at g40 hD
   simp only [Bool.false_eq_true, if_false] at hD
   refine w_false (by simp only [wL, Nat.reduceBEq, Bool.not_true, Bool.not_false, g40]) ?_
   refine w_skip ?_
   (with_reducible repeat first | apply q_n | apply q_e | apply q_r | apply bq_n | apply bq_e | apply bq_r | apply bq_o rfl)
   have hrd2 : rdn G2 G1.size 0 7 = some cs := by have := hB2.rd; rwa [hl7] at this
   have hE3 : Ext G2 (G2.push (.cells cs.toArray 35)) := (Ext.refl _).push _
   have hrd3 : rdn (G2.push (.cells cs.toArray 35)) G2.size 0 7 = some cs := by
    rw [rdn_new G2 cs 35 0 7 (by omega), List.drop_zero, List.take_of_length_le (by omega)]
   have hs3 : (G2.push (.cells cs.toArray 35)).size = G2.size + 1 := by simp
   obtain ⟨css, hrw, hcl, hcel⟩ := hrow2
   rw [eu, ← hcl] at g5 hrw
   refine w_reg1 fun K hK => ?_
   rw [ecs] at hrd2
   simp (disch := omega) only [↓wD, wU, simprocAttr, g5, g7, hrd2, as_one]
   rw [← ecs]
   refine app_one (hrw.mono (M' := M') (fun _ h => h) hE3.1 fun x hx hx' => hE3.2 x hx') (fun x hx => by have := hMG x (.inl hx); omega) ⟨hl7, hEl.one⟩ rfl (by decide) (by omega) ?_ rfl
   intro v8 H8 hrow8 hk8 hs8
   simp (disch := omega) only [↓wD, wU, simprocAttr]
   refine hK _ _ ?_
   clear hK K
   (with_reducible repeat first | apply q_n | apply q_e | apply q_r | apply bq_n | apply bq_e | apply bq_r | apply bq_o rfl)
   refine w_reg1 fun K hK => ?_; simp (disch := omega) only [↓wD, wU, simprocAttr, g6]; refine hK _ _ ?_; clear hK K
   (with_reducible repeat first | apply q_n | apply q_e | apply q_r | apply bq_n | apply bq_e | apply bq_r | apply bq_o rfl)
   have hs8' := hk8.1
   have keep8 : ∀ x, x < G2.size → ¬ M' x → H8[x]? = G2[x]? := fun x hx hm => by rw [hk8.2 x (by omega) hm, hE3.2 x hx]
   have hpM : ¬ M' p := fun hm => by have := hMG p (.inl hm); omega
   have hGn2 : ∀ x, Gn x → ¬ M' x := fun x hx hm => by have := hMG x (.inl hm); have := hGn x hx; omega
   refine ⟨n - (i + 1), by omega, (by simp only [wL, Nat.reduceBEq, g0]), (by simp only [wL, Nat.reduceBEq, g4]), i + 1, L ++ [(hdR sti).1.1], (hdR sti).2, gv1, v8, fun x => (M' x ∨ x = (G2.push (.cells cs.toArray 35)).size) ∧ x < H8.size, fun x => G' x ∨ Gn x, (by simp only [wL, Nat.reduceBEq]), by omega, rfl, (by simp only [wL, Nat.reduceBEq]), ?_, ?_, ?_, ?_, ?_, by simp [hLi], hsn, hD⟩
   ·exact ⟨by omega, fun x hx hxp => by rw [keep8 x (by omega) (fun hm => by have := hMG x (.inl hm); omega), keep2 x (by omega) hxp, hkA.2 x hx hxp]⟩
   ·have hlt := h.lt
    exact hR2.keep (by omega) fun x hx hsx => keep8 x hx fun hm => by
     rcases hsx with h1 | h1
     ·have := hlt x h1; have := hMG x (.inl hm); omega
     ·subst h1; exact hpM hm
   ·rintro x (⟨hx | hx, hx2⟩ | hx | hx)
    ·have := hMG x (.inl hx); omega
    ·omega
    ·have := hMG x (.inr hx); omega
    ·have := hGn x hx; omega
   ·rintro x ⟨hx | hx, hx2⟩ (hy | hy)
    ·exact hdis x hx hy
    ·exact hGn2 x hy hx
    ·have := hMG x (.inr hy); omega
    ·have := hGn x hy; omega
   ·refine ⟨css ++ [cs], hrow8.lt, by simp [hcl], fun j hj hl => ?_⟩
    by_cases hjl : j < css.length
    ·rw [List.getElem_append_left hjl, List.getElem_append_left (by omega)]
     exact (hcel j hjl (by omega)).mono (fun _ h => .inl h) fun x hx hx' => keep8 x hx' fun hm => hdis x hm hx
    ·simp only [List.length_append, List.length_cons, List.length_nil] at hj hl
     rw [List.getElem_append_right (by omega), List.getElem_append_right (by omega)]
     have e1 : j - css.length = 0 := by omega
     have e2 : j - L.length = 0 := by omega
     simp only [e1, e2, List.getElem_cons_zero]
     exact hEl.mono (fun _ h => .inr h) fun x hx hx' => by rw [keep8 x (by omega) (hGn2 x hx), keep12 x hx']
 ·refine w_reg fun K hK => ?_; simp (disch := omega) only [↓wD, wU, simprocAttr, f4, f6, hil]; refine hK _ _ ?_; clear hK K
  refine wf ?_
  refine w_exit ?_
  (with_reducible repeat first | apply q_n | apply q_e | apply q_r | apply bq_n | apply bq_e | apply bq_r | apply bq_o rfl)
  have e : n - i = 0 := by omega
  rw [e, holdsL] at hD
  rw [← hD]
  refine w_seq (w_seq ?_)
  cases sti with
  | none =>
   have c1 := hR.c1
   simp only [Option.isNone_none] at c1
   obtain rfl := hLn rfl
   refine w_reg fun K hK => ?_; simp (disch := omega) only [↓wD, wU, simprocAttr, f0, c1]; refine hK _ _ ?_; clear hK K
   refine wt ?_
   refine w_reg fun K hK => ?_; simp (disch := omega) only [↓wD, wU, simprocAttr]; refine hK _ _ ?_; clear hK K
   refine w_ret ?_; (with_reducible repeat first | apply q_n | apply q_e | apply q_r | apply bq_n | apply bq_e | apply bq_r | apply bq_o rfl); refine ret2 (by (try simp only [wL, Nat.reduceBEq]); rfl) (by (try simp only [wL, Nat.reduceBEq]); rfl) ?_
   exact ⟨⟨hkA, vi, hR⟩, _, fun _ => False, rfl, fun _ h => h.elim, by refine ⟨Nat.zero_le _, .inl ⟨_, rfl, rfl⟩⟩⟩
  | some l0 =>
   have c1 := hR.c1
   simp only [Option.isNone_some] at c1
   refine w_reg fun K hK => ?_; simp (disch := omega) only [↓wD, wU, simprocAttr, f0, c1]; refine hK _ _ ?_; clear hK K
   refine wf ?_
   refine w_skip ?_
   (with_reducible repeat first | apply q_n | apply q_e | apply q_r | apply bq_n | apply bq_e | apply bq_r | apply bq_o rfl)
   refine w_reg fun K hK => ?_; simp (disch := omega) only [↓wD, wU, simprocAttr, f5]; refine hK _ _ ?_; clear hK K
   refine w_ret ?_; (with_reducible repeat first | apply q_n | apply q_e | apply q_r | apply bq_n | apply bq_e | apply bq_r | apply bq_o rfl); refine ret2 (by (try simp only [wL, Nat.reduceBEq]); rfl) (by (try simp only [wL, Nat.reduceBEq]); rfl) ?_
   exact ⟨⟨hkA, vi, hR⟩, _, _, rfl, fun x hx => hMG x hx, hrow.slp (by unfold big; omega)⟩
end Go.WK
/-
 The reference's bytes of one thing.
-/
namespace Go.WK
open Go Go.Proofs

theorem sl_nil {α : Type} {S : Nat → Prop} {H : Hp} {k : Nat} {El : List Value → α → Prop} : SlP S H k El (.slice none 0 0) [] := ⟨Nat.zero_le _, .inl ⟨none, rfl, rfl⟩⟩
/-- The bytes of some numbers, none if one can't be written. -/
def numsW (l : List Int) : List UInt8 := if l.all numOk then numsE l else []
theorem numsW_len (l : List Int) : (numsW l).length ≤ 9 * l.length := by
 unfold numsW
 split
 ·exact numsE_len l
 ·simp
theorem W2t {H : Hp} {b t : Nat} {s : ByteArray} (hc : H[b]? = some (.cells #[.string s] t)) (hs : s.size + 30 ≤ 140737488355328) : Cl Tryz.prog 68 [.slice none 0 0, .slice none 0 0, .slice (some ⟨b, 0, none⟩) 1 1, .slice none 0 0] H fun r H' => ∃ v M, r = .tuple #[v, .int .i64 0] ∧ NB M H H' v (textE s) := by
 refine (Write2_cl (S1 := fun _ => True) (S2 := fun _ => True) (nums := []) (flags := []) sl_nil sl_nil (one_str hc (by unfold Sz big; omega)) (by simp [szs]; omega)).mono fun r H' h => ?_
 obtain ⟨v, M, rfl, h⟩ := h
 refine ⟨v, M, rfl, ?_⟩
 simpa [wrE, numsE] using h
theorem W2n1 {H : Hp} {b t : Nat} {n : Int} (hc : H[b]? = some (.cells #[.int .i64 n] t)) (hn : I64 n) : Cl Tryz.prog 68 [.slice (some ⟨b, 0, none⟩) 1 1, .slice none 0 0, .slice none 0 0, .slice none 0 0] H fun r H' => ∃ v M, r = .tuple #[v, .int .i64 (if numOk n then 0 else 2)] ∧ NB M H H' v (numsE [n]) := by
 refine (Write2_cl (S2 := fun _ => True) (S3 := fun _ => True) (flags := []) (texts := []) (one_int hc hn) sl_nil sl_nil (by simp [szs])).mono fun r H' h => ?_
 obtain ⟨v, M, rfl, h⟩ := h
 refine ⟨v, M, by simp, ?_⟩
 cases hq : numOk n with
 | true => simpa [wrE, numsE, hq] using h
 | false => simpa [wrE, numsE, hq] using h
theorem W2n3 {H : Hp} {b t : Nat} {x y z : Int} (hc : H[b]? = some (.cells #[.int .i64 x, .int .i64 y, .int .i64 z] t)) (hx : I64 x) (hy : I64 y) (hz : I64 z) : Cl Tryz.prog 68 [.slice (some ⟨b, 0, none⟩) 3 3, .slice none 0 0, .slice none 0 0, .slice none 0 0] H fun r H' => ∃ v M, r = .tuple #[v, .int .i64 (if [x, y, z].all numOk then 0 else 2)] ∧ NB M H H' v (numsW [x, y, z]) := by
 refine (Write2_cl (S2 := fun _ => True) (S3 := fun _ => True) (flags := []) (texts := []) (ints3 hc hx hy hz) sl_nil sl_nil (by simp [szs])).mono fun r H' h => ?_
 obtain ⟨v, M, rfl, h⟩ := h
 refine ⟨v, M, rfl, ?_⟩
 unfold numsW
 simpa [wrE] using h
theorem W2f {H : Hp} {b t : Nat} {q : Bool} (hc : H[b]? = some (.cells #[.bool q] t)) : Cl Tryz.prog 68 [.slice none 0 0, .slice (some ⟨b, 0, none⟩) 1 1, .slice none 0 0, .slice none 0 0] H fun r H' => ∃ v M, r = .tuple #[v, .int .i64 0] ∧ NB M H H' v [flagE q] := by
 refine (Write2_cl (S1 := fun _ => True) (S3 := fun _ => True) (nums := []) (texts := []) sl_nil (one_flag hc) sl_nil (by simp [szs])).mono fun r H' h => ?_
 obtain ⟨v, M, rfl, h⟩ := h
 refine ⟨v, M, rfl, ?_⟩
 simpa [wrE, numsE] using h
theorem W2ft {H : Hp} {b t b' t' : Nat} {q : Bool} {s : ByteArray} (hc : H[b]? = some (.cells #[.bool q] t)) (hc' : H[b']? = some (.cells #[.string s] t')) (hs : s.size + 30 ≤ 140737488355328) : Cl Tryz.prog 68 [.slice none 0 0, .slice (some ⟨b, 0, none⟩) 1 1, .slice (some ⟨b', 0, none⟩) 1 1, .slice none 0 0] H fun r H' => ∃ v M, r = .tuple #[v, .int .i64 0] ∧ NB M H H' v ([flagE q] ++ textE s) := by
 refine (Write2_cl (S1 := fun _ => True) (nums := []) sl_nil (one_flag hc) (one_str hc' (by unfold Sz big; omega)) (by simp [szs]; omega)).mono fun r H' h => ?_
 obtain ⟨v, M, rfl, h⟩ := h
 refine ⟨v, M, rfl, ?_⟩
 simpa [wrE, numsE] using h
theorem bsl_keep {S N : Nat → Prop} {H H' : Hp} {u : Value} {m : List UInt8} (hu : BSl S H u m) (hk : KeepOn (fun x => ¬ N x) H H') (hd : ∀ x, S x → ¬ N x) : BSl S H' u m :=
 SlP.mono hu (fun _ h => h) (fun b hb hb' => hk.2 b hb' (hd b hb)) fun _ _ _ h => h
def hdE2 (h : Hd) : List UInt8 := textE h.key ++ numsW [h.name.client, h.name.num, (h.acts.length : Int)] ++ h.acts.flatMap actE ++ numsE [(h.reads.length : Int)] ++ h.reads.flatMap readE ++ ([flagE h.put] ++ textE h.value)
theorem hdE2_ok {h : Hd} (hl : h.acts.length ≤ 140737488355328) (ho : holdOk h = true) : hdE2 h = holdE h := by
 simp only [holdOk, Bool.and_eq_true] at ho
 have : [h.name.client, h.name.num, (h.acts.length : Int)].all numOk = true := by simp [ho.1.1, ho.1.2, (nlen_ok hl).2]
 unfold hdE2 holdE numsW
 rw [if_pos this]
 simp
theorem hdE2_len {h : Hd} (hk : Sz h.key) (hv : Sz h.value) (ha : ∀ a ∈ h.acts, Sz a.value) (hr : ∀ a ∈ h.reads, Sz a.value) : (hdE2 h).length ≤ holdW h := by
 have s1 := flat_all (e := actE) (w := actW) (l := h.acts) fun a hx => actE_len (ha a hx)
 have s2 := flat_all (e := readE) (w := readW) (l := h.reads) fun a hx => readE_len (hr a hx)
 have t1 := textE_len h.key hk
 have t2 := textE_len h.value hv
 have n1 := numsW_len [h.name.client, h.name.num, (h.acts.length : Int)]
 have n2 := numsE_len [(h.reads.length : Int)]
 simp only [hdE2, holdW, List.length_append, List.length_cons, List.length_nil] at n1 n2 ⊢
 omega
theorem all_hdE2 {l : List Hd} (hl : ∀ h ∈ l, h.acts.length ≤ 140737488355328) (ho : l.all holdOk = true) : l.flatMap hdE2 = l.flatMap holdE := by
 rw [List.all_eq_true] at ho
 induction l with
 | nil => rfl
 | cons a l ih => rw [List.flatMap_cons, List.flatMap_cons, hdE2_ok (hl a (by simp)) (ho a (by simp)), ih (fun h hh => hl h (by simp [hh])) fun h hh => ho h (by simp [hh])]
end Go.WK
/-
 The reference's bytes of holds.
-/
namespace Go.WK
open Go Go.Proofs

/-- Bytes that lie between two marks. -/
def Src (N0 N1 : Nat) (H : Hp) (u : Value) (m : List UInt8) : Prop := ∃ S : Nat → Prop, BSl S H u m ∧ ∀ x, S x → N0 ≤ x ∧ x < N1
theorem Src.of {M : Nat → Prop} {N0 N1 : Nat} {H0 H : Hp} {u : Value} {m : List UInt8} (h : NB M H0 H u m) (hm : m.length ≤ 140737488355328) (h0 : N0 ≤ H0.size) (h1 : H.size ≤ N1) : Src N0 N1 H u m :=
 ⟨M, h.sl hm, fun x hx => ⟨Nat.le_trans h0 (h.mem x hx).1, Nat.lt_of_lt_of_le (h.mem x hx).2 h1⟩⟩
theorem Src.ext {N0 N1 : Nat} {H H' : Hp} {u : Value} {m : List UInt8} (h : Src N0 N1 H u m) (hE : Ext H H') : Src N0 N1 H' u m := by
 obtain ⟨S, h1, h2⟩ := h
 exact ⟨S, SlP.mono h1 (fun _ h => h) (fun b _ hb' => hE.2 b hb') fun _ _ _ h => h, h2⟩
theorem Src.on {N0 N1 : Nat} {H H' : Hp} {u : Value} {m : List UInt8} (h : Src N0 N1 H u m) (hE : KeepOn (fun x => N0 ≤ x ∧ x < N1) H H') : Src N0 N1 H' u m := by
 obtain ⟨S, h1, h2⟩ := h
 exact ⟨S, SlP.mono h1 (fun _ h => h) (fun b hb hb' => hE.2 b hb' (h2 b hb)) fun _ _ _ h => h, h2⟩
theorem Src.mono {N0 N1 K0 K1 : Nat} {H H' : Hp} {u : Value} {m : List UInt8} (h : Src N0 N1 H u m) (hE : Ext H H') (h0 : K0 ≤ N0) (h1 : N1 ≤ K1) : Src K0 K1 H' u m := by
 obtain ⟨S, g1, g2⟩ := h.ext hE
 exact ⟨S, g1, fun x hx => ⟨Nat.le_trans h0 (g2 x hx).1, Nat.lt_of_lt_of_le (g2 x hx).2 h1⟩⟩
theorem Src.src {N0 N1 : Nat} {H : Hp} {u : Value} {m : List UInt8} (h : Src N0 N1 H u m) : appSrc H 1 u = some (m.length, (bcs m).flatten) := by
 obtain ⟨S, h1, -⟩ := h
 exact b_src h1
/-- Bytes of one's own that lie outside of the marks, and not in a block that is looked at. -/
structure Acc (N0 N1 B : Nat) (M : Nat → Prop) (H0 H : Hp) (v : Value) (l : List UInt8) : Prop where
 nb : NB M H0 H v l
 out : ∀ x, M x → x < N0 ∨ N1 ≤ x
 nB : ¬ M B
 hB : B < N0
 hN : N1 ≤ H.size
 h01 : N0 ≤ N1
theorem app_acc {N0 N1 B : Nat} {M : Nat → Prop} {H0 H : Hp} {t : Nat} {κ : Value → Hp → Prop} {v : Value} {l m : List UInt8} (hv : Acc N0 N1 B M H0 H v l) (hl : l.length + m.length ≤ 140737488355328)
  (h : ∀ a' c' H' M', Acc N0 N1 B M' H0 H' (.slice a' (l ++ m).length c') (l ++ m) → KeepOn (fun x => N0 ≤ x ∧ x < N1) H H' → H'[B]? = H[B]? → κ (.slice a' (l ++ m).length c') H') {a : Option Addr} {n c : Nat} (ha : v = .slice a n c) :
  @appK H t 1 1 [.int .u8 0] a n c m.length (bcs m).flatten ⟨κ⟩ := by
 refine app_nb hv.nb hl (fun v' H' M' hnb hk hM => ?_) ha
 obtain ⟨a', c', rfl⟩ := hnb.form
 refine h a' c' H' M' ⟨hnb, fun x hx => (hM x hx).elim (hv.out x) fun h => .inr (Nat.le_trans hv.hN h), fun hb => (hM B hb).elim hv.nB fun h => ?_, hv.hB, Nat.le_trans hv.hN hk.1, hv.h01⟩ ⟨hk.1, fun x hx hx' => hk.2 x hx fun hm => ?_⟩ (hk.2 B ?_ hv.nB)
 ·have := hv.hB; have := hv.hN; have := hv.h01; omega
 ·have := hv.out x hm; omega
 ·have := hv.hB; have := hv.hN; have := hv.h01; omega
theorem Acc.of {N0 N1 B : Nat} {M : Nat → Prop} {H0 G H : Hp} {v : Value} {l : List UInt8} (h : NB M H0 G v l) (hE : Ext G H) (h0 : G.size ≤ N0) (h1 : N1 ≤ H.size) (h01 : N0 ≤ N1) (hB : B < N0) (hM : ¬ M B) : Acc N0 N1 B M H0 H v l :=
 ⟨h.keep hE, fun x hx => .inl (Nat.lt_of_lt_of_le (h.mem x hx).2 h0), hM, hB, h1, h01⟩
theorem push_at (H : Hp) (x : Obj) : (H.push x)[H.size]? = some x := by simp
theorem flat_take {α : Type} (e : α → List UInt8) {l : List α} {i : Nat} (hi : i < l.length) : (l.take (i + 1)).flatMap e = (l.take i).flatMap e ++ e l[i] := by
 rw [List.take_add_one, List.getElem?_eq_getElem hi, List.flatMap_append]; simp
theorem allb_take {α : Type} (q : α → Bool) {l : List α} {i : Nat} (hi : i < l.length) : (l.take (i + 1)).all q = ((l.take i).all q && q l[i]) := by
 rw [List.take_add_one, List.getElem?_eq_getElem hi, List.all_append]; simp
end Go.WK
/-
 The reference's bytes of holds (2).
-/
namespace Go.WK
open Go Go.Proofs

set_option maxHeartbeats 4000000 in
theorem Bytes16_cl {S : Nat → Prop} {H : Hp} {v : Value} {l : List Hd} (hv : HdSl S H v l) (hl : (l.map holdW).sum + 100 ≤ 140737488355328) :
  Cl Tryz.prog 23 [v] H fun r H' => ∃ u M, r = .tuple #[u, .bool (l.all holdOk)] ∧ NB M H H' u (numsE [(l.length : Int)] ++ l.flatMap hdE2) := by
 refine cl_of mixed c_watershedref16_Bytes (Nat.le_of_ble_eq_true rfl) ?_
 simp only [fwp, ir_watershedref16_Bytes, argF, Nat.reduceAdd]
 obtain ⟨a, c, rfl, hc, hll, hel⟩ := SlP.open hv
 have hle : ∀ h ∈ l, (hdE2 h).length ≤ holdW h := by
  intro h hh
  obtain ⟨i, hi, rfl⟩ := List.getElem_of_mem hh
  obtain ⟨_, _, -, -, cs, -, va, vr, -, ha, hr, -, hk, hx⟩ := hel i hi
  obtain ⟨_, _, -, -, -, hae⟩ := SlP.open ha
  obtain ⟨_, _, -, -, -, hre⟩ := SlP.open hr
  refine hdE2_len hk hx (fun a ha => ?_) fun a ha => ?_
  ·obtain ⟨j, hj, rfl⟩ := List.getElem_of_mem ha
   obtain ⟨_, _, -, -, _, -, -, -, -, -, hz⟩ := hae j hj
   exact hz
  ·obtain ⟨j, hj, rfl⟩ := List.getElem_of_mem ha
   obtain ⟨_, _, -, -, _, -, -, -, hz⟩ := hre j hj
   exact hz
 have hnl := numsE_len [(l.length : Int)]
 simp only [List.length_cons, List.length_nil] at hnl
 refine w_reg fun K hK => ?_; simp (disch := omega) only [↓wD, wU, simprocAttr]; refine hK _ _ ?_; clear hK K
 refine w_reg fun K hK => ?_
 simp (disch := omega) only [↓wD, wU, simprocAttr]
 refine w_call (W2n1 (push_at _ _) (nlen_ok hll).1) ?_
 rintro _ H1 ⟨v1, M1, rfl, hnb1⟩
 rw [(nlen_ok hll).2]
 simp (disch := omega) only [↓wD, wU, simprocAttr]
 refine hK _ _ ?_
 clear hK K
 replace hnb1 := hnb1.pre ((Ext.refl H).push _)
 refine w_reg fun K hK => ?_; simp (disch := omega) only [↓wD, wU, simprocAttr]; refine hK _ _ ?_; clear hK K
 refine w_seq ?_
 refine w_reg fun K hK => ?_; simp (disch := omega) only [↓wD, wU, simprocAttr]; refine hK _ _ ?_; clear hK K
 refine w_blk (w_loop (fun n f G => f 0 = .slice a l.length c ∧ ∃ (i : Nat) (v : Value) (M : Nat → Prop), f 7 = .int .i64 i ∧ i ≤ l.length ∧ f 6 = .bool ((l.take i).all holdOk) ∧ f 4 = v ∧ NB M H G v (numsE [(l.length : Int)] ++ (l.take i).flatMap hdE2) ∧ n = l.length - i) _ ⟨(by simp only [wL, Nat.reduceBEq]), 0, v1, M1, (by simp only [wL, Nat.reduceBEq]; rfl), Nat.zero_le _, (by simp only [wL, Nat.reduceBEq]; rfl), (by simp only [wL, Nat.reduceBEq]), by simpa using hnb1, rfl⟩ ?_)
 clear hnb1
 rintro n f G ⟨f0, i, v, M, f7, hi, f6, f4, hnb, rfl⟩
 obtain ⟨av, cv, rfl⟩ := hnb.form
 refine w_seq (w_seq ?_)
 by_cases hlt : i < l.length
 ·have hroom := flat_le (e := hdE2) (w := holdW) hle i hlt
  obtain ⟨base, hbase⟩ : ∃ base, base = numsE [(l.length : Int)] ++ (l.take i).flatMap hdE2 := ⟨_, rfl⟩
  have hbl : base.length + holdW l[i] ≤ 140737488355328 := by rw [hbase, List.length_append]; omega
  have hbt : numsE [(l.length : Int)] ++ (l.take (i + 1)).flatMap hdE2 = base ++ hdE2 l[i] := by rw [hbase, flat_take hdE2 hlt, List.append_assoc]
  have hat := allb_take holdOk hlt
  rw [← hbase] at hnb f4
  obtain ⟨good, hgood⟩ : ∃ good, good = (l.take i).all holdOk := ⟨_, rfl⟩
  rw [← hgood] at f6 hat
  clear hbase hgood hroom
  obtain ⟨b, o, rfl, hS, cs, hcs, va, vr, rfl, ha, hr, hnm, hsk, hsv⟩ := hel i hlt
  generalize hhd : l[i] = h at *
  obtain ⟨aa, ac, rfl, hac, hal, hael⟩ := SlP.open ha
  obtain ⟨ra, rc, rfl, hrc, hrl, hrel⟩ := SlP.open hr
  have hcs1 := rdn_ext hnb.ext hcs
  have hW : holdW h = h.key.size + h.value.size + 100 + (h.acts.map actW).sum + (h.reads.map readW).sum := rfl
  refine w_reg fun K hK => ?_; simp (disch := omega) only [↓wD, wU, simprocAttr, f0, f7, hlt]; refine hK _ _ ?_; clear hK K
  refine wt ?_
  refine w_skip ?_
  (with_reducible repeat first | apply q_n | apply q_e | apply q_r | apply bq_n | apply bq_e | apply bq_r | apply bq_o rfl)
  refine w_seq (w_blk ?_)
  refine w_reg fun K hK => ?_; simp (disch := omega) only [↓wD, wU, simprocAttr, f0, f7, hlt, hcs1]; refine hK _ _ ?_; clear hK K
  have hE1 : Ext G (G.push (.cells #[.string h.key, .int .i64 h.name.client, .int .i64 h.name.num, .slice aa h.acts.length ac, .slice ra h.reads.length rc, .bool h.put, .string h.value] 35)) := (Ext.refl _).push _
  have hr1 : rdn (G.push (.cells #[.string h.key, .int .i64 h.name.client, .int .i64 h.name.num, .slice aa h.acts.length ac, .slice ra h.reads.length rc, .bool h.put, .string h.value] 35)) G.size 0 7 = some [.string h.key, .int .i64 h.name.client, .int .i64 h.name.num, .slice aa h.acts.length ac, .slice ra h.reads.length rc, .bool h.put, .string h.value] := rdn_new G _ 35 0 7 (Nat.le_refl _)
  have hs1 : (G.push (.cells #[.string h.key, .int .i64 h.name.client, .int .i64 h.name.num, .slice aa h.acts.length ac, .slice ra h.reads.length rc, .bool h.put, .string h.value] 35)).size = G.size + 1 := by simp
  generalize G.push (.cells #[.string h.key, .int .i64 h.name.client, .int .i64 h.name.num, .slice aa h.acts.length ac, .slice ra h.reads.length rc, .bool h.put, .string h.value] 35) = G1 at hE1 hr1 hs1 ⊢
  obtain ⟨cells, hcells⟩ : ∃ cells : List Value, cells = [.string h.key, .int .i64 h.name.client, .int .i64 h.name.num, .slice aa h.acts.length ac, .slice ra h.reads.length rc, .bool h.put, .string h.value] := ⟨_, rfl⟩
  rw [← hcells] at hr1
  have hMG : ¬ M G.size := fun hm => by have := (hnb.mem _ hm).2; omega
  unfold Sz big at hsk hsv
  obtain ⟨d0, -⟩ := rdn7 (hcells ▸ hr1)
  refine w_reg fun K hK => ?_
  simp (disch := omega) only [↓wD, wU, simprocAttr, d0]
  refine w_call (W2t (push_at _ _) (by omega)) ?_
  rintro _ G2 ⟨v1, M1, rfl, nb1⟩
  simp (disch := omega) only [↓wD, wU, simprocAttr]
  refine hK _ _ ?_
  clear hK K
  have hE2 : Ext G1 G2 := ((Ext.refl _).push _).trans nb1.ext
  have hs2 := hE2.1
  have hs1' := nb1.ext.1
  rw [Array.size_push] at hs1'
  have hr2 := rdn_ext hE2 hr1
  obtain ⟨-, d1, d2, d3, -⟩ := rdn7 (hcells ▸ hr2)
  simp only [Nat.zero_add] at d1 d2 d3
  refine w_reg fun K hK => ?_
  simp (disch := omega) only [↓wD, wU, simprocAttr, d1, d2, d3]
  refine w_call (W2n3 (push_at _ _) hnm.1 hnm.2 (nlen_ok hal).1) ?_
  rintro _ G3 ⟨v2, M2, rfl, nb2⟩
  simp (disch := omega) only [↓wD, wU, simprocAttr]
  refine hK _ _ ?_
  clear hK K
  have hE3 : Ext G2 G3 := ((Ext.refl _).push _).trans nb2.ext
  have hs3 := hE3.1
  have hr3 := rdn_ext hE3 hr2
  have n1 := numsW_len [h.name.client, h.name.num, (h.acts.length : Int)]
  simp only [List.length_cons, List.length_nil] at n1
  have t1 := textE_len h.key hsk
  have t2 := textE_len h.value hsv
  have src1 : Src (G.size + 1) G3.size G3 v1 (textE h.key) := (Src.of (N0 := G.size + 1) (N1 := G2.size) nb1 (by omega) (by rw [Array.size_push]; omega) (Nat.le_refl _)).mono hE3 (Nat.le_refl _) hs3
  have src2 : Src (G.size + 1) G3.size G3 v2 (numsW [h.name.client, h.name.num, (h.acts.length : Int)]) := Src.of nb2 (by omega) (by rw [Array.size_push]; omega) (Nat.le_refl _)
  have acc := Acc.of (N0 := G.size + 1) (N1 := G3.size) (B := G.size) hnb (hE1.trans (hE2.trans hE3)) (Nat.le_succ _) (Nat.le_refl _) (by omega) (Nat.lt_succ_self _) hMG
  have hsr1 := src1.src
  refine w_reg fun K hK => ?_
  simp (disch := omega) only [↓wD, wU, simprocAttr, f4, hsr1]
  refine app_acc acc (by omega) ?_ rfl
  intro a4 c4 G4 M4 acc4 hk4 hB4
  have hsr2 := (src2.on hk4).src
  simp (disch := omega) only [↓wD, wU, simprocAttr, hsr2]
  refine app_acc acc4 (by rw [List.length_append]; omega) ?_ rfl
  intro a5 c5 G5 M5 acc5 hk5 hB5
  simp (disch := omega) only [↓wD, wU, simprocAttr]
  refine hK _ _ ?_
  clear hK K
  have hr5 := rdn_block (hB5.trans hB4) hr3
  obtain ⟨base5, hbase5⟩ : ∃ base5, base5 = base ++ textE h.key ++ numsW [h.name.client, h.name.num, (h.acts.length : Int)] := ⟨_, rfl⟩
  rw [← hbase5] at acc5 ⊢
  have hb5l : base5.length ≤ base.length + h.key.size + 36 := by rw [hbase5, List.length_append, List.length_append]; omega
  have hnB5 := acc5.nB
  replace acc5 := acc5.nb
  refine w_cut (fun g G' => G5 = G' ∧ g 0 = .slice (some ⟨b, o, none⟩) l.length c ∧ g 4 = .slice a5 base5.length c5 ∧ g 6 = .bool (good && (numOk h.name.client && numOk h.name.num)) ∧ g 7 = .int .i64 i ∧ g 8 = .pointer (some ⟨G.size, 0, none⟩)) ?_ ?_
  ·have e3 : [h.name.client, h.name.num, (h.acts.length : Int)].all numOk = (numOk h.name.client && numOk h.name.num) := by simp [(nlen_ok hal).2]
   rw [e3]
   generalize (numOk h.name.client && numOk h.name.num) = q
   cases good <;> cases q
   all_goals
    refine w_reg1 fun K hK => ?_; simp (disch := omega) only [↓wD, wU, simprocAttr, f6]; refine hK _ _ ?_; clear hK K
    (with_reducible repeat first | apply q_n | apply q_e | apply q_r | apply bq_n | apply bq_e | apply bq_r | apply bq_o rfl)
    exact ⟨rfl, (by simp only [wL, Nat.reduceBEq, f0]), (by simp only [wL, Nat.reduceBEq]), (by simp only [wL, Nat.reduceBEq]; rfl), (by simp only [wL, Nat.reduceBEq, f7]), (by simp only [wL, Nat.reduceBEq])⟩
  obtain ⟨good5, hgood5⟩ : ∃ good5, good5 = (good && (numOk h.name.client && numOk h.name.num)) := ⟨_, rfl⟩
  rw [← hgood5]
  have hBlt : H.size ≤ G.size := hnb.ext.1
  obtain ⟨B, hBG⟩ : ∃ B, B = G.size := ⟨_, rfl⟩
  rw [← hBG] at hr5 hnB5 hBlt ⊢
  clear hsr1 hsr2 hk4 hB4 hk5 hB5 hr3 hr2 hr1 d0 d1 d2 d3 hE1 hE2 hE3 hs1 hs2 hs3 hs1' nb1 nb2 src1 src2 acc acc4 hnb f4 f6 f0 f7 hMG hcs1 hBG f G M4 G4 a4 c4 G3 v2 M2 G2 v1 M1 G1 M av cv
  rintro f _ ⟨rfl, f0, f4, f6, f7, f8⟩
  refine w_seq ?_
  refine w_reg fun K hK => ?_; simp (disch := omega) only [↓wD, wU, simprocAttr]; refine hK _ _ ?_; clear hK K
  refine w_blk (w_loop (fun n g A => g 0 = .slice (some ⟨b, o, none⟩) l.length c ∧ g 7 = .int .i64 i ∧ g 8 = .pointer (some ⟨B, 0, none⟩) ∧ ∃ (k : Nat) (v : Value) (M : Nat → Prop), g 13 = .int .i64 k ∧ k ≤ h.acts.length ∧ g 4 = v ∧ NB M H A v (base5 ++ (h.acts.take k).flatMap actE) ∧ ¬ M B ∧ rdn A B 0 7 = some cells ∧ g 6 = .bool (good5 && (h.acts.take k).all actOk) ∧ n = h.acts.length - k) _ ⟨(by simp only [wL, Nat.reduceBEq, f0]), (by simp only [wL, Nat.reduceBEq, f7]), (by simp only [wL, Nat.reduceBEq, f8]), 0, .slice a5 base5.length c5, M5, (by simp only [wL, Nat.reduceBEq]; rfl), Nat.zero_le _, (by simp only [wL, Nat.reduceBEq, f4]), by simpa using acc5, hnB5, hr5, (by simp only [wL, Nat.reduceBEq, f6, List.take_zero, List.all_nil, Bool.and_true]), rfl⟩ ?_)
  clear acc5 hnB5 hr5 f0 f4 f6 f7 f8 f
  rintro n f A ⟨f0, f7, f8, k, v, M, f13, hk, f4, hnb, hMB, hrB, f6, rfl⟩
  obtain ⟨av, cv, rfl⟩ := hnb.form
  obtain ⟨d0, d1, d2, d3, d4, d5, d6⟩ := rdn7 (hcells ▸ hrB)
  simp only [Nat.zero_add] at d0 d1 d2 d3 d4 d5 d6
  have hBA := cell_lt d0
  have hael' : ∀ x ∈ h.acts, (actE x).length ≤ actW x := fun x hx => by
   obtain ⟨j, hj, rfl⟩ := List.getElem_of_mem hx
   obtain ⟨_, _, -, -, _, -, -, -, -, -, hz⟩ := hael j hj
   exact actE_len hz
  have hrel' : ∀ x ∈ h.reads, (readE x).length ≤ readW x := fun x hx => by
   obtain ⟨j, hj, rfl⟩ := List.getElem_of_mem hx
   obtain ⟨_, _, -, -, _, -, -, -, hz⟩ := hrel j hj
   exact readE_len hz
  refine w_seq (w_seq ?_)
  by_cases hkl : k < h.acts.length
  ·have hroomA := flat_le (e := actE) (w := actW) hael' k hkl
   obtain ⟨out, hout⟩ : ∃ out, out = base5 ++ (h.acts.take k).flatMap actE := ⟨_, rfl⟩
   have hol : out.length + actW h.acts[k] ≤ 140737488355264 := by rw [hout, List.length_append]; omega
   have hot : base5 ++ (h.acts.take (k + 1)).flatMap actE = out ++ actE h.acts[k] := by rw [hout, flat_take actE hkl, List.append_assoc]
   have hat2 := allb_take actOk hkl
   rw [← hout] at hnb f4
   obtain ⟨good6, hgood6⟩ : ∃ good6, good6 = (good5 && (h.acts.take k).all actOk) := ⟨_, rfl⟩
   have hat3 : (good5 && (h.acts.take (k + 1)).all actOk) = (good6 && actOk h.acts[k]) := by rw [hat2, hgood6, Bool.and_assoc]
   rw [← hgood6] at f6
   clear hroomA hout hgood6 hat2
   obtain ⟨b', o', rfl, hS', acs, hacs, rfl, hkb, hnum, hkz, hvz⟩ := hael k hkl
   generalize h.acts[k] = x at *
   obtain ⟨xk, xkey, xv, xn⟩ := x
   simp only at hkb hnum hkz hvz hacs
   have hacs1 := rdn_ext hnb.ext hacs
   have hkw : IntKind.i64.wrap xk = xk := wr64 (by omega) (by omega)
   have hXW : actW ⟨xk, xkey, xv, xn⟩ = xv.size + 40 := rfl
   unfold Sz big at hkz hvz
   refine w_reg fun K hK => ?_; simp (disch := omega) only [↓wD, wU, simprocAttr, f8, f13, d3, hkl]; refine hK _ _ ?_; clear hK K
   refine wt ?_
   refine w_skip ?_
   (with_reducible repeat first | apply q_n | apply q_e | apply q_r | apply bq_n | apply bq_e | apply bq_r | apply bq_o rfl)
   refine w_seq (w_blk ?_)
   refine w_reg fun K hK => ?_; simp (disch := omega) only [↓wD, wU, simprocAttr, f8, f13, d3, hkl, hacs1]; refine hK _ _ ?_; clear hK K
   have hE1 : Ext A (A.push (.cells #[.int .u8 xk, .string xkey, .string xv, .int .i64 xn] 98)) := (Ext.refl _).push _
   have hr1 : rdn (A.push (.cells #[.int .u8 xk, .string xkey, .string xv, .int .i64 xn] 98)) A.size 0 4 = some [.int .u8 xk, .string xkey, .string xv, .int .i64 xn] := rdn_new A _ 98 0 4 (Nat.le_refl _)
   have hs1 : (A.push (.cells #[.int .u8 xk, .string xkey, .string xv, .int .i64 xn] 98)).size = A.size + 1 := by simp
   generalize A.push (.cells #[.int .u8 xk, .string xkey, .string xv, .int .i64 xn] 98) = A1 at hE1 hr1 hs1 ⊢
   obtain ⟨e0, -, -, -⟩ := rdn4 hr1
   refine w_reg fun K hK => ?_
   simp (disch := omega) only [↓wD, wU, simprocAttr, e0, hkw]
   refine w_call (W2n1 (push_at _ _) (n := xk) ⟨by omega, by omega⟩) ?_
   rintro _ A2 ⟨v1, M1, rfl, nb1⟩
   simp (disch := omega) only [↓wD, wU, simprocAttr]
   refine hK _ _ ?_
   clear hK K
   have hE2 : Ext A1 A2 := ((Ext.refl _).push _).trans nb1.ext
   have hs2 := hE2.1
   have hr2 := rdn_ext hE2 hr1
   obtain ⟨-, -, e2, -⟩ := rdn4 hr2
   simp only [Nat.zero_add] at e2
   refine w_reg fun K hK => ?_
   simp (disch := omega) only [↓wD, wU, simprocAttr, e2]
   refine w_call (W2t (push_at _ _) (by omega)) ?_
   rintro _ A3 ⟨v2, M2, rfl, nb2⟩
   simp (disch := omega) only [↓wD, wU, simprocAttr]
   refine hK _ _ ?_
   clear hK K
   have hE3 : Ext A2 A3 := ((Ext.refl _).push _).trans nb2.ext
   have hs3 := hE3.1
   have hr3 := rdn_ext hE3 hr2
   obtain ⟨-, -, -, e3⟩ := rdn4 hr3
   simp only [Nat.zero_add] at e3
   refine w_reg fun K hK => ?_
   simp (disch := omega) only [↓wD, wU, simprocAttr, e3]
   refine w_call (W2f (push_at _ _)) ?_
   rintro _ A4 ⟨v3, M3, rfl, nb3⟩
   simp (disch := omega) only [↓wD, wU, simprocAttr]
   refine hK _ _ ?_
   clear hK K
   have hE4 : Ext A3 A4 := ((Ext.refl _).push _).trans nb3.ext
   have hs4 := hE4.1
   have hr4 := rdn_ext hE4 hr3
   obtain ⟨-, -, -, e3⟩ := rdn4 hr4
   simp only [Nat.zero_add] at e3
   refine w_reg fun K hK => ?_
   simp (disch := omega) only [↓wD, wU, simprocAttr, e3, num_abs]
   refine w_call (W2n1 (push_at _ _) (absI_ok hnum)) ?_
   rintro _ A5 ⟨v4, M4, rfl, nb4⟩
   simp (disch := omega) only [↓wD, wU, simprocAttr]
   refine hK _ _ ?_
   clear hK K
   have hE5 : Ext A4 A5 := ((Ext.refl _).push _).trans nb4.ext
   have hs5 := hE5.1
   have n1 := numsE_len [xk]
   have n2 := numsE_len [absI xn]
   have n3 := textE_len xv hvz
   simp only [List.length_cons, List.length_nil] at n1 n2
   have src1 : Src (A.size + 1) A5.size A5 v1 (numsE [xk]) := (Src.of (N0 := A.size + 1) (N1 := A2.size) nb1 (by omega) (by rw [Array.size_push]; omega) (Nat.le_refl _)).mono (hE3.trans (hE4.trans hE5)) (Nat.le_refl _) (by omega)
   have src2 : Src (A.size + 1) A5.size A5 v2 (textE xv) := (Src.of (N0 := A.size + 1) (N1 := A3.size) nb2 (by omega) (by rw [Array.size_push]; omega) (Nat.le_refl _)).mono (hE4.trans hE5) (Nat.le_refl _) (by omega)
   have src3 : Src (A.size + 1) A5.size A5 v3 [flagE (decide (xn < 0))] := (Src.of (N0 := A.size + 1) (N1 := A4.size) nb3 (by simp) (by rw [Array.size_push]; omega) (Nat.le_refl _)).mono hE5 (Nat.le_refl _) (by omega)
   have src4 : Src (A.size + 1) A5.size A5 v4 (numsE [absI xn]) := Src.of nb4 (by omega) (by rw [Array.size_push]; omega) (Nat.le_refl _)
   have acc := Acc.of (N0 := A.size + 1) (N1 := A5.size) (B := B) hnb (hE1.trans (hE2.trans (hE3.trans (hE4.trans hE5)))) (Nat.le_succ _) (Nat.le_refl _) (by omega) (by omega) hMB
   have hsr1 := src1.src
   refine w_reg fun K hK => ?_
   simp (disch := omega) only [↓wD, wU, simprocAttr, f4, hsr1]
   refine app_acc acc (by omega) ?_ rfl
   intro a6 c6 A6 M6 acc6 hk6 hB6
   have hsr2 := (src2.on hk6).src
   simp (disch := omega) only [↓wD, wU, simprocAttr, hsr2]
   refine app_acc acc6 (by simp only [List.length_append]; omega) ?_ rfl
   intro a7 c7 A7 M7 acc7 hk7 hB7
   have hsr3 := ((src3.on hk6).on hk7).src
   simp (disch := omega) only [↓wD, wU, simprocAttr, hsr3]
   refine app_acc (m := [flagE (decide (xn < 0))]) acc7 (by simp only [List.length_append, List.length_cons, List.length_nil]; omega) ?_ rfl
   intro a8 c8 A8 M8 acc8 hk8 hB8
   have hsr4 := (((src4.on hk6).on hk7).on hk8).src
   simp (disch := omega) only [↓wD, wU, simprocAttr, hsr4]
   refine app_acc acc8 (by simp only [List.length_append, List.length_cons, List.length_nil]; omega) ?_ rfl
   intro a9 c9 A9 M9 acc9 hk9 hB9
   simp (disch := omega) only [↓wD, wU, simprocAttr]
   refine hK _ _ ?_
   clear hK K
   have eo : out ++ numsE [xk] ++ textE xv ++ [flagE (decide (xn < 0))] ++ numsE [absI xn] = out ++ actE ⟨xk, xkey, xv, xn⟩ := by simp only [actE, List.append_assoc]
   rw [eo] at acc9 ⊢
   have hr9 := rdn_block (hB9.trans (hB8.trans (hB7.trans hB6))) (rdn_ext (hE1.trans (hE2.trans (hE3.trans (hE4.trans hE5)))) hrB)
   have hnB9 := acc9.nB
   replace acc9 := acc9.nb
   have ek : numOk xk = true := by simp only [numOk, Bool.and_eq_true, decide_eq_true_eq]; omega
   have ea : actOk ⟨xk, xkey, xv, xn⟩ = numOk (absI xn) := by simp only [actOk, ek, Bool.true_and]
   refine w_meet (fun g G' => A9 = G' ∧ g 0 = .slice (some ⟨b, o, none⟩) l.length c ∧ g 4 = .slice a9 (out ++ actE ⟨xk, xkey, xv, xn⟩).length c9 ∧ g 6 = .bool (good6 && actOk ⟨xk, xkey, xv, xn⟩) ∧ g 7 = .int .i64 i ∧ g 8 = .pointer (some ⟨B, 0, none⟩) ∧ g 13 = .int .i64 k) ?_ ?_
   ·rw [ea]
    generalize numOk (absI xn) = q
    cases good6 <;> cases q
    all_goals
     refine w_reg1 fun K hK => ?_; simp (disch := omega) only [↓wD, wU, simprocAttr, f6]; refine hK _ _ ?_; clear hK K
     (with_reducible repeat first | apply q_n | apply q_e | apply q_r | apply bq_n | apply bq_e | apply bq_r | apply bq_o rfl)
     exact ⟨rfl, (by simp only [wL, Nat.reduceBEq, f0]), (by simp only [wL, Nat.reduceBEq]), (by simp only [wL, Nat.reduceBEq]; rfl), (by simp only [wL, Nat.reduceBEq, f7]), (by simp only [wL, Nat.reduceBEq, f8]), (by simp only [wL, Nat.reduceBEq, f13])⟩
   rintro g _ ⟨rfl, g0, g4, g6, g7, g8, g13⟩
   (with_reducible repeat first | apply q_n | apply q_e | apply q_r | apply bq_n | apply bq_e | apply bq_r | apply bq_o rfl)
   refine w_reg1 fun K hK => ?_; simp (disch := omega) only [↓wD, wU, simprocAttr, g13]; refine hK _ _ ?_; clear hK K
   (with_reducible repeat first | apply q_n | apply q_e | apply q_r | apply bq_n | apply bq_e | apply bq_r | apply bq_o rfl)
   refine ⟨h.acts.length - (k + 1), by omega, (by simp only [wL, Nat.reduceBEq, g0]), (by simp only [wL, Nat.reduceBEq, g7]), (by simp only [wL, Nat.reduceBEq, g8]), k + 1, .slice a9 (out ++ actE ⟨xk, xkey, xv, xn⟩).length c9, M9, (by simp only [wL, Nat.reduceBEq]), by omega, (by simp only [wL, Nat.reduceBEq, g4]), ?_, hnB9, hr9, ?_, rfl⟩
   ·rw [hot]; exact acc9
   ·rw [hat3]; exact (by simp only [wL, Nat.reduceBEq, g6])
  ·refine w_reg fun K hK => ?_; simp (disch := omega) only [↓wD, wU, simprocAttr, f8, f13, d3, hkl]; refine hK _ _ ?_; clear hK K
   refine wf ?_
   refine w_exit ?_
   (with_reducible repeat first | apply q_n | apply q_e | apply q_r | apply bq_n | apply bq_e | apply bq_r | apply bq_o rfl)
   rw [List.take_of_length_le (l := h.acts) (by omega)] at hnb f4 f6
   clear hkl
   obtain ⟨base6, hbase6⟩ : ∃ base6, base6 = base5 ++ h.acts.flatMap actE := ⟨_, rfl⟩
   have hal2 := flat_all (e := actE) (w := actW) hael'
   have hb6l : base6.length ≤ base.length + h.key.size + 36 + (h.acts.map actW).sum := by rw [hbase6, List.length_append]; omega
   rw [← hbase6] at hnb f4
   have hgf : (good && holdOk h) = (good5 && h.acts.all actOk) := by rw [hgood5, holdOk]; simp only [Bool.and_assoc]
   rw [← hgf] at f6
   have n1 := numsE_len [(h.reads.length : Int)]
   simp only [List.length_cons, List.length_nil] at n1
   refine w_reg fun K hK => ?_
   simp (disch := omega) only [↓wD, wU, simprocAttr, f8, d4]
   refine w_call (W2n1 (push_at _ _) (nlen_ok hrl).1) ?_
   rintro _ A2 ⟨v1, M1, rfl, nb1⟩
   simp (disch := omega) only [↓wD, wU, simprocAttr]
   refine hK _ _ ?_
   clear hK K
   have hE2 : Ext A A2 := ((Ext.refl _).push _).trans nb1.ext
   have hs2 := hE2.1
   have src1 : Src A.size A2.size A2 v1 (numsE [(h.reads.length : Int)]) := Src.of nb1 (by omega) (by rw [Array.size_push]; omega) (Nat.le_refl _)
   have acc := Acc.of (N0 := A.size) (N1 := A2.size) (B := B) hnb hE2 (Nat.le_refl _) (Nat.le_refl _) hs2 hBA hMB
   have hsr1 := src1.src
   refine w_reg fun K hK => ?_
   simp (disch := omega) only [↓wD, wU, simprocAttr, f4, hsr1]
   refine app_acc acc (by omega) ?_ rfl
   intro a3 c3 A3 M3 acc3 hk3 hB3
   simp (disch := omega) only [↓wD, wU, simprocAttr]
   refine hK _ _ ?_
   clear hK K
   have hr3 := rdn_block hB3 (rdn_ext hE2 hrB)
   have hnB3 := acc3.nB
   replace acc3 := acc3.nb
   obtain ⟨base7, hbase7⟩ : ∃ base7, base7 = base6 ++ numsE [(h.reads.length : Int)] := ⟨_, rfl⟩
   have hb7l : base7.length ≤ base.length + h.key.size + 45 + (h.acts.map actW).sum := by rw [hbase7, List.length_append]; omega
   rw [← hbase7] at acc3 ⊢
   have hfin : base ++ hdE2 h = base7 ++ h.reads.flatMap readE ++ ([flagE h.put] ++ textE h.value) := by
    rw [hbase7, hbase6, hbase5]; simp only [hdE2, List.append_assoc]
   clear hbase7 hbase6 hbase5 hsr1 hk3 hB3 acc src1 hE2 hs2 nb1 hnb f4 f13 hrB d0 d1 d2 d3 d4 d5 d6 hBA
   refine w_seq ?_
   refine w_reg fun K hK => ?_; simp (disch := omega) only [↓wD, wU, simprocAttr]; refine hK _ _ ?_; clear hK K
   refine w_blk (w_loop (fun n g A => g 0 = .slice (some ⟨b, o, none⟩) l.length c ∧ g 7 = .int .i64 i ∧ g 8 = .pointer (some ⟨B, 0, none⟩) ∧ ∃ (k : Nat) (v : Value) (M : Nat → Prop), g 25 = .int .i64 k ∧ k ≤ h.reads.length ∧ g 4 = v ∧ NB M H A v (base7 ++ (h.reads.take k).flatMap readE) ∧ ¬ M B ∧ rdn A B 0 7 = some cells ∧ g 6 = .bool (good && holdOk h) ∧ n = h.reads.length - k) _ ⟨(by simp only [wL, Nat.reduceBEq, f0]), (by simp only [wL, Nat.reduceBEq, f7]), (by simp only [wL, Nat.reduceBEq, f8]), 0, .slice a3 base7.length c3, M3, (by simp only [wL, Nat.reduceBEq]; rfl), Nat.zero_le _, (by simp only [wL, Nat.reduceBEq]), by simpa using acc3, hnB3, hr3, (by simp only [wL, Nat.reduceBEq, f6]), rfl⟩ ?_)
   clear acc3 hnB3 hr3 f0 f6 f7 f8 f A hMB A3 M3
   rintro n f A ⟨f0, f7, f8, k, v, M, f25, hk, f4, hnb, hMB, hrB, f6, rfl⟩
   obtain ⟨av, cv, rfl⟩ := hnb.form
   obtain ⟨d0, d1, d2, d3, d4, d5, d6⟩ := rdn7 (hcells ▸ hrB)
   simp only [Nat.zero_add] at d0 d1 d2 d3 d4 d5 d6
   have hBA := cell_lt d0
   refine w_seq (w_seq ?_)
   by_cases hkl : k < h.reads.length
   ·have hroomA := flat_le (e := readE) (w := readW) hrel' k hkl
    obtain ⟨out, hout⟩ : ∃ out, out = base7 ++ (h.reads.take k).flatMap readE := ⟨_, rfl⟩
    have hol : out.length + readW h.reads[k] ≤ 140737488355300 := by rw [hout, List.length_append]; omega
    have hot : base7 ++ (h.reads.take (k + 1)).flatMap readE = out ++ readE h.reads[k] := by rw [hout, flat_take readE hkl, List.append_assoc]
    rw [← hout] at hnb f4
    clear hroomA hout
    obtain ⟨b', o', rfl, hS', rcs, hrcs, rfl, hkz, hvz⟩ := hrel k hkl
    generalize h.reads[k] = x at *
    obtain ⟨xkey, xis, xv⟩ := x
    simp only at hkz hvz hrcs
    obtain ⟨e0, e1, e2⟩ := rdn3 (rdn_ext hnb.ext hrcs)
    have hXW : readW ⟨xkey, xis, xv⟩ = xv.size + 20 := rfl
    unfold Sz big at hkz hvz
    refine w_reg fun K hK => ?_; simp (disch := omega) only [↓wD, wU, simprocAttr, f8, f25, d4, hkl]; refine hK _ _ ?_; clear hK K
    refine wt ?_
    refine w_skip ?_
    (with_reducible repeat first | apply q_n | apply q_e | apply q_r | apply bq_n | apply bq_e | apply bq_r | apply bq_o rfl)
    refine w_seq (w_blk ?_)
    refine w_alc (fun _ => True) (fun _ => False) (fun x hx => hx.elim) fun K hK => ?_
    simp (disch := omega) only [↓a_nil, ↓a_st, ↓a_new, ↓a_box, ↓a_bsl, ↓a_ac, ↓a_ft, ↓a_ff, p_nil, p_new, p_box, p_bsl, ↓ow_s, ↓ow_e, ↓ow_g, ↓l_nil, ↓l_f, ↓l_t, ↓o_s, ↓o_e, ↓o_g, ↓o_ge, ↓k_ld, ↓k_ldn, isemS, ↓wD, wU, simprocAttr, f8, f25, d4, hkl, e1, e2]
    refine w_al fun b1 A1 hE1 hnb1 hbb1 hFb1 hAb1 hcb1 => ?_
    simp (disch := omega) only [↓a_nil, ↓a_st, ↓a_new, ↓a_box, ↓a_bsl, ↓a_ac, ↓a_ft, ↓a_ff, p_nil, p_new, p_box, p_bsl, ↓ow_s, ↓ow_e, ↓ow_g, ↓l_nil, ↓l_f, ↓l_t, ↓o_s, ↓o_e, ↓o_g, ↓o_ge, ↓k_ld, ↓k_ldn, isemS, ↓wD, wU, simprocAttr]
    refine w_al fun b2 A2 hE2 hnb2 hbb2 hFb2 hAb2 hcb2 => ?_
    simp (disch := omega) only [↓a_nil, ↓a_st, ↓a_new, ↓a_box, ↓a_bsl, ↓a_ac, ↓a_ft, ↓a_ff, p_nil, p_new, p_box, p_bsl, ↓ow_s, ↓ow_e, ↓ow_g, ↓l_nil, ↓l_f, ↓l_t, ↓o_s, ↓o_e, ↓o_g, ↓o_ge, ↓k_ld, ↓k_ldn, isemS, ↓wD, wU, simprocAttr]
    refine w_call (W2ft ((hE2.2 b1 hbb1).trans hcb1) hcb2 (by omega)) ?_
    rintro _ A3 ⟨v1, M1, rfl, nb1⟩
    simp (disch := omega) only [↓a_nil, ↓a_st, ↓a_new, ↓a_box, ↓a_bsl, ↓a_ac, ↓a_ft, ↓a_ff, p_nil, p_new, p_box, p_bsl, ↓ow_s, ↓ow_e, ↓ow_g, ↓l_nil, ↓l_f, ↓l_t, ↓o_s, ↓o_e, ↓o_g, ↓o_ge, ↓k_ld, ↓k_ldn, isemS, ↓wD, wU, simprocAttr]
    refine ⟨nb1.ext.on _, ?_⟩
    refine hK _ _ ?_
    clear hK K
    have hE3 := nb1.ext
    have hE13 := hE1.trans (hE2.trans hE3)
    have n3 := textE_len xv hvz
    have src1 : Src A2.size A3.size A3 v1 ([flagE xis] ++ textE xv) := Src.of nb1 (by simp only [List.length_append, List.length_cons, List.length_nil]; omega) (Nat.le_refl _) (Nat.le_refl _)
    have acc := Acc.of (N0 := A2.size) (N1 := A3.size) (B := B) hnb hE13 (hE1.trans hE2).1 (Nat.le_refl _) hE3.1 (by have := (hE1.trans hE2).1; omega) hMB
    have hsr1 := src1.src
    refine w_reg1 fun K hK => ?_
    simp (disch := omega) only [↓wD, wU, simprocAttr, f4, hsr1]
    refine app_acc acc (by simp only [List.length_append, List.length_cons, List.length_nil]; omega) ?_ rfl
    intro a4 c4 A4 M4 acc4 hk4 hB4
    simp (disch := omega) only [↓wD, wU, simprocAttr]
    refine hK _ _ ?_
    clear hK K
    have hr4 := rdn_block hB4 (rdn_ext hE13 hrB)
    have hnB4 := acc4.nB
    replace acc4 := acc4.nb
    (with_reducible repeat first | apply q_n | apply q_e | apply q_r | apply bq_n | apply bq_e | apply bq_r | apply bq_o rfl)
    refine w_reg1 fun K hK => ?_; simp (disch := omega) only [↓wD, wU, simprocAttr, f25]; refine hK _ _ ?_; clear hK K
    (with_reducible repeat first | apply q_n | apply q_e | apply q_r | apply bq_n | apply bq_e | apply bq_r | apply bq_o rfl)
    refine ⟨h.reads.length - (k + 1), by omega, (by simp only [wL, Nat.reduceBEq, f0]), (by simp only [wL, Nat.reduceBEq, f7]), (by simp only [wL, Nat.reduceBEq, f8]), k + 1, .slice a4 (out ++ ([flagE xis] ++ textE xv)).length c4, M4, (by simp only [wL, Nat.reduceBEq]), by omega, (by simp only [wL, Nat.reduceBEq]), ?_, hnB4, hr4, (by simp only [wL, Nat.reduceBEq, f6]), rfl⟩
    rw [hot]; exact acc4
   ·refine w_reg fun K hK => ?_; simp (disch := omega) only [↓wD, wU, simprocAttr, f8, f25, d4, hkl]; refine hK _ _ ?_; clear hK K
    refine wf ?_
    refine w_exit ?_
    (with_reducible repeat first | apply q_n | apply q_e | apply q_r | apply bq_n | apply bq_e | apply bq_r | apply bq_o rfl)
    rw [List.take_of_length_le (l := h.reads) (by omega)] at hnb f4
    have hal3 := flat_all (e := readE) (w := readW) hrel'
    refine w_reg fun K hK => ?_
    simp (disch := omega) only [↓wD, wU, simprocAttr, f8, d5, d6]
    have hp1 : (((A.push (.cells #[.bool h.put] 4)).push (.cells #[.string h.value] 9)))[A.size]? = some (.cells #[.bool h.put] 4) := by rw [Array.getElem?_push, if_neg (by rw [Array.size_push]; omega)]; exact push_at _ _
    have hp2 := push_at (A.push (.cells #[.bool h.put] 4)) (.cells #[.string h.value] 9)
    rw [Array.size_push] at hp2
    refine w_call (W2ft (s := h.value) hp1 hp2 (by omega)) ?_
    rintro _ A3 ⟨v1, M1, rfl, nb1⟩
    simp (disch := omega) only [↓wD, wU, simprocAttr]
    refine hK _ _ ?_
    clear hK K
    have hE3 : Ext A A3 := (((Ext.refl A).push _).push _).trans nb1.ext
    have hs3 := hE3.1
    have src1 : Src A.size A3.size A3 v1 ([flagE h.put] ++ textE h.value) := Src.of nb1 (by simp only [List.length_append, List.length_cons, List.length_nil]; omega) (by simp only [Array.size_push]; omega) (Nat.le_refl _)
    have acc := Acc.of (N0 := A.size) (N1 := A3.size) (B := B) hnb hE3 (Nat.le_refl _) (Nat.le_refl _) hs3 hBA hMB
    have hsr1 := src1.src
    refine w_reg1 fun K hK => ?_
    simp (disch := omega) only [↓wD, wU, simprocAttr, f4, hsr1]
    refine app_acc acc (by simp only [List.length_append, List.length_cons, List.length_nil]; omega) ?_ rfl
    intro a4 c4 A4 M4 acc4 hk4 hB4
    simp (disch := omega) only [↓wD, wU, simprocAttr]
    refine hK _ _ ?_
    clear hK K
    replace acc4 := acc4.nb
    (with_reducible repeat first | apply q_n | apply q_e | apply q_r | apply bq_n | apply bq_e | apply bq_r | apply bq_o rfl)
    refine w_reg1 fun K hK => ?_; simp (disch := omega) only [↓wD, wU, simprocAttr, f7]; refine hK _ _ ?_; clear hK K
    (with_reducible repeat first | apply q_n | apply q_e | apply q_r | apply bq_n | apply bq_e | apply bq_r | apply bq_o rfl)
    rw [← hfin] at acc4 ⊢
    refine ⟨l.length - (i + 1), by omega, (by simp only [wL, Nat.reduceBEq, f0]), i + 1, .slice a4 (base ++ hdE2 h).length c4, M4, (by simp only [wL, Nat.reduceBEq]), by omega, ?_, (by simp only [wL, Nat.reduceBEq]), ?_, rfl⟩
    ·rw [hat]; exact (by simp only [wL, Nat.reduceBEq, f6])
    ·rw [hbt]; exact acc4
 ·refine w_reg fun K hK => ?_; simp (disch := omega) only [↓wD, wU, simprocAttr, f0, f7, hlt]; refine hK _ _ ?_; clear hK K
  refine wf ?_
  refine w_exit ?_
  (with_reducible repeat first | apply q_n | apply q_e | apply q_r | apply bq_n | apply bq_e | apply bq_r | apply bq_o rfl)
  rw [List.take_of_length_le (by omega)] at hnb f6 f4
  refine w_reg fun K hK => ?_; simp (disch := omega) only [↓wD, wU, simprocAttr, f4, f6]; refine hK _ _ ?_; clear hK K
  refine w_ret ?_; (with_reducible repeat first | apply q_n | apply q_e | apply q_r | apply bq_n | apply bq_e | apply bq_r | apply bq_o rfl); refine ret2 (by (try simp only [wL, Nat.reduceBEq]); rfl) (by (try simp only [wL, Nat.reduceBEq]); rfl) ?_
  exact ⟨_, M, rfl, hnb⟩
end Go.WK
/-
 What is lent: lists with marks behind them.
-/
namespace Go.WK
open Go Go.Proofs

def mkT (i : Nat) : ByteArray := ⟨#[35, 1, 0, 0, 47, UInt8.ofNat i, 0, 0]⟩
theorem mkT_sz (i : Nat) : Sz (mkT i) := by
 have : (mkT i).size = 8 := rfl
 unfold Sz big; omega
theorem markText_cl {H : Hp} {i : Nat} (hi : i < 12) : Cl Tryz.prog 117 [.int .i64 1, .int .i64 i] H fun r H' => r = .string (mkT i) ∧ Ext H H' := by
 refine cl_of mixed c_watershedkit_markText (Nat.le_of_ble_eq_true rfl) ?_
 simp only [fwp, ir_watershedkit_markText, argF, Nat.reduceAdd]
 have w0 : IntKind.u8.wrap 0 = 0 := by decide
 have w1 : IntKind.u8.wrap 1 = 1 := by decide
 have wi : IntKind.u8.wrap (i : Int) = (i : Int) := wr8 (by omega) (by omega)
 have s8 : (1 : Int).fdiv (2 ^ (min 8 IntKind.i64.bits)) = 0 := by decide
 have s16 : (1 : Int).fdiv (2 ^ (min 16 IntKind.i64.bits)) = 0 := by decide
 have e8 : (2 : Int) ^ (min 8 IntKind.i64.bits) = 256 := by decide
 have e16 : (2 : Int) ^ (min 16 IntKind.i64.bits) = 65536 := by decide
 have i8 : (i : Int).fdiv (2 ^ (min 8 IntKind.i64.bits)) = 0 := by rw [e8, Int.fdiv_eq_ediv_of_nonneg _ (by decide)]; omega
 have i16 : (i : Int).fdiv (2 ^ (min 16 IntKind.i64.bits)) = 0 := by rw [e16, Int.fdiv_eq_ediv_of_nonneg _ (by decide)]; omega
 refine w_reg fun K hK => ?_; simp (disch := omega) only [↓wD, wU, simprocAttr]; refine hK _ _ ?_; clear hK K
 refine w_reg fun K hK => ?_
 simp (disch := omega) only [↓wD, wU, simprocAttr, w0, w1, wi, s8, s16, i8, i16]
 have e : rdn (H.push (.cells #[.int .u8 35, .int .u8 1, .int .u8 0, .int .u8 0, .int .u8 47, .int .u8 (i : Int), .int .u8 0, .int .u8 0] 5)) H.size 0 8 = some [.int .u8 35, .int .u8 1, .int .u8 0, .int .u8 0, .int .u8 47, .int .u8 (i : Int), .int .u8 0, .int .u8 0] := rdn_new H _ 5 0 8 (Nat.le_refl _)
 have e2 : bytesOfCells [.int .u8 35, .int .u8 1, .int .u8 0, .int .u8 0, .int .u8 47, .int .u8 (i : Int), .int .u8 0, .int .u8 0] = some [35, 1, 0, 0, 47, UInt8.ofNat i, 0, 0] := rfl
 refine ⟨rfl, ?_⟩
 simp only [e, e2, onSome]
 simp (disch := omega) only [↓wD, wU, simprocAttr]
 refine hK _ _ ?_
 clear hK K
 refine w_ret ?_; (with_reducible repeat first | apply q_n | apply q_e | apply q_r | apply bq_n | apply bq_e | apply bq_r | apply bq_o rfl); refine ret1 (by (try simp only [wL, Nat.reduceBEq]); rfl) ?_
 exact ⟨rfl, (Ext.refl _).push _⟩
def mkA (j : Nat) : List Value := [.int .u8 0, .string (mkT j), .string .empty, .int .i64 0]
def mkR (j : Nat) : List Value := [.string (mkT j), .bool false, .string .empty]
def mkH (j : Nat) : List Value := [.string (mkT j), .int .i64 0, .int .i64 0, .slice none 0 0, .slice none 0 0, .bool false, .string .empty]
theorem markAct_cl {H : Hp} {i : Nat} (hi : i < 12) : Cl Tryz.prog 155 [.int .i64 1, .int .i64 i] H fun r H' => r = .agg (mkA i).toArray ∧ Ext H H' := by
 refine cl_of mixed c_watershedkit_markAct (Nat.le_of_ble_eq_true rfl) ?_
 simp only [fwp, ir_watershedkit_markAct, argF, Nat.reduceAdd]
 refine w_reg fun K hK => ?_; simp (disch := omega) only [↓wD, wU, simprocAttr]; refine hK _ _ ?_; clear hK K
 have hB := Bk.new H [.int .u8 0, .string .empty, .string .empty, .int .i64 0] 98
 have hE : Ext H (H.push (.cells #[.int .u8 0, .string .empty, .string .empty, .int .i64 0] 98)) := (Ext.refl _).push _
 generalize H.push (.cells #[.int .u8 0, .string .empty, .string .empty, .int .i64 0] 98) = H1 at hB hE ⊢
 refine w_reg fun K hK => ?_
 simp (disch := omega) only [↓wD, wU, simprocAttr]
 refine w_call (markText_cl hi) ?_
 rintro _ H2 ⟨rfl, hE2⟩
 obtain ⟨H3, hw, hW⟩ := wrn_ok (l := mkA i) ((hB.keep (hE2.2 _ (hB.lt (by simp)))).own) (by intro v hv; simp [mkA] at hv; rcases hv with rfl | rfl | rfl | rfl <;> rfl)
 have hr := hW.rdn_at
 simp only [mkA] at hw
 simp (disch := omega) only [↓wD, wU, simprocAttr, hw]
 refine hK _ _ ?_
 clear hK K
 refine w_ret ?_
 (with_reducible repeat first | apply q_n | apply q_e | apply q_r | apply bq_n | apply bq_e | apply bq_r | apply bq_o rfl)
 refine retG (v := .agg (mkA i).toArray) (by
  have hr' : rdn H3 H.size 0 4 = some (mkA i) := hr
  simp only [resV, rvsV, rvV, wL, Nat.reduceBEq, hr', Option.map_some, oneOr]) ?_
 exact ⟨rfl, hW.ext (hE.trans hE2) (Nat.le_refl _)⟩
theorem markRead_cl {H : Hp} {i : Nat} (hi : i < 12) : Cl Tryz.prog 156 [.int .i64 1, .int .i64 i] H fun r H' => r = .agg (mkR i).toArray ∧ Ext H H' := by
 refine cl_of mixed c_watershedkit_markRead (Nat.le_of_ble_eq_true rfl) ?_
 simp only [fwp, ir_watershedkit_markRead, argF, Nat.reduceAdd]
 refine w_reg fun K hK => ?_; simp (disch := omega) only [↓wD, wU, simprocAttr]; refine hK _ _ ?_; clear hK K
 have hB := Bk.new H [.string .empty, .bool false, .string .empty] 100
 have hE : Ext H (H.push (.cells #[.string .empty, .bool false, .string .empty] 100)) := (Ext.refl _).push _
 generalize H.push (.cells #[.string .empty, .bool false, .string .empty] 100) = H1 at hB hE ⊢
 refine w_reg fun K hK => ?_
 simp (disch := omega) only [↓wD, wU, simprocAttr]
 refine w_call (markText_cl hi) ?_
 rintro _ H2 ⟨rfl, hE2⟩
 obtain ⟨H3, hw, hW⟩ := wrn_ok (l := mkR i) ((hB.keep (hE2.2 _ (hB.lt (by simp)))).own) (by intro v hv; simp [mkR] at hv; rcases hv with rfl | rfl | rfl <;> rfl)
 have hr := hW.rdn_at
 simp only [mkR] at hw
 simp (disch := omega) only [↓wD, wU, simprocAttr, hw]
 refine hK _ _ ?_
 clear hK K
 refine w_ret ?_
 (with_reducible repeat first | apply q_n | apply q_e | apply q_r | apply bq_n | apply bq_e | apply bq_r | apply bq_o rfl)
 refine retG (v := .agg (mkR i).toArray) (by
  have hr' : rdn H3 H.size 0 3 = some (mkR i) := hr
  simp only [resV, rvsV, rvV, wL, Nat.reduceBEq, hr', Option.map_some, oneOr]) ?_
 exact ⟨rfl, hW.ext (hE.trans hE2) (Nat.le_refl _)⟩
theorem markHold_cl {H : Hp} {i : Nat} (hi : i < 12) : Cl Tryz.prog 62 [.int .i64 1, .int .i64 i] H fun r H' => r = .agg (mkH i).toArray ∧ Ext H H' := by
 refine cl_of mixed c_watershedkit_markHold (Nat.le_of_ble_eq_true rfl) ?_
 simp only [fwp, ir_watershedkit_markHold, argF, Nat.reduceAdd]
 refine w_reg fun K hK => ?_; simp (disch := omega) only [↓wD, wU, simprocAttr]; refine hK _ _ ?_; clear hK K
 have hB := Bk.new H [.string .empty, .int .i64 0, .int .i64 0, .slice none 0 0, .slice none 0 0, .bool false, .string .empty] 35
 have hE : Ext H (H.push (.cells #[.string .empty, .int .i64 0, .int .i64 0, .slice none 0 0, .slice none 0 0, .bool false, .string .empty] 35)) := (Ext.refl _).push _
 generalize H.push (.cells #[.string .empty, .int .i64 0, .int .i64 0, .slice none 0 0, .slice none 0 0, .bool false, .string .empty] 35) = H1 at hB hE ⊢
 refine w_reg fun K hK => ?_
 simp (disch := omega) only [↓wD, wU, simprocAttr]
 refine w_call (markText_cl hi) ?_
 rintro _ H2 ⟨rfl, hE2⟩
 obtain ⟨H3, hw, hW⟩ := wrn_ok (l := mkH i) ((hB.keep (hE2.2 _ (hB.lt (by simp)))).own) (by intro v hv; simp [mkH] at hv; rcases hv with rfl | rfl | rfl | rfl | rfl | rfl | rfl <;> rfl)
 have hr := hW.rdn_at
 simp only [mkH] at hw
 simp (disch := omega) only [↓wD, wU, simprocAttr, hw]
 refine hK _ _ ?_
 clear hK K
 refine w_ret ?_
 (with_reducible repeat first | apply q_n | apply q_e | apply q_r | apply bq_n | apply bq_e | apply bq_r | apply bq_o rfl)
 refine retG (v := .agg (mkH i).toArray) (by
  have hr' : rdn H3 H.size 0 7 = some (mkH i) := hr
  simp only [resV, rvsV, rvV, wL, Nat.reduceBEq, hr', Option.map_some, oneOr]) ?_
 exact ⟨rfl, hW.ext (hE.trans hE2) (Nat.le_refl _)⟩
/-- A list that is lent: marks lie behind it. -/
def Lent {α : Type} (El : List Value → α → Prop) (k : Nat) (mk : Nat → List Value) (S : Nat → Prop) (H : Hp) (v : Value) (l : List α) : Prop :=
 l.length ≤ big ∧ ∃ b c, v = .slice (some ⟨b, 0, none⟩) l.length c ∧ l.length + 12 ≤ c ∧ S b ∧ (∀ i (hi : i < l.length), ∃ cs, rdn H b (i * k) k = some cs ∧ El cs l[i]) ∧ ∀ j, j < 12 → rdn H b ((l.length + j) * k) k = some (mk j)
section
variable {α : Type} {El El' : List Value → α → Prop} {k : Nat} {mk : Nat → List Value} {S S' M : Nat → Prop} {H H' : Hp} {v : Value} {l : List α}
theorem Lent.slp (h : Lent El k mk S H v l) : SlP S H k El v l := by
 obtain ⟨h0, b, c, rfl, hc, hS, h1, -⟩ := h
 refine ⟨h0, .inr ⟨b, 0, c, rfl, by omega, fun i hi => ⟨hS, ?_⟩⟩⟩
 rw [Nat.zero_add]; exact h1 i hi
theorem Lent.mono (hk0 : 0 < k) (h : Lent El k mk S H v l) (hS : ∀ b, S b → S' b) (hk : ∀ b, S b → b < H.size → H'[b]? = H[b]?) (hE : ∀ cs a, a ∈ l → El cs a → El' cs a) : Lent El' k mk S' H' v l := by
 obtain ⟨h0, b, c, rfl, hc, hSb, h1, h2⟩ := h
 have hb : b < H.size := by
  have := h2 0 (by omega)
  obtain ⟨m, rfl⟩ : ∃ m, k = m + 1 := ⟨k - 1, by omega⟩
  unfold rdn at this
  cases hc : cell H b ((l.length + 0) * (m + 1)) with
  | none => rw [hc] at this; cases this
  | some u => exact cell_lt hc
 have e := hk b hSb hb
 refine ⟨h0, b, c, rfl, hc, hS b hSb, fun i hi => ?_, fun j hj => rdn_block e (h2 j hj)⟩
 obtain ⟨cs, h3, h4⟩ := h1 i hi
 exact ⟨cs, rdn_block e h3, hE cs _ (List.getElem_mem hi) h4⟩
theorem Row.lent {css : List (List Value)} {a : Option Addr} {n c : Nat} (h : Row M H k (.slice a n c) (css ++ (List.range 12).map mk)) (hl : css.length = l.length) (hb : l.length ≤ big) (hE : ∀ i (hi : i < css.length) (hl : i < l.length), El css[i] l[i]) :
  Lent El k mk M H (.slice a l.length c) l ∧ ∃ b, a = some ⟨b, 0, none⟩ ∧ l.length ≤ c ∧ l.length + 12 ≤ c := by
 obtain ⟨-, ⟨-, e⟩ | ⟨b, c', e, hc, hM, -, -, hr⟩⟩ := h
 ·have := congrArg List.length e
  simp at this
 ·obtain ⟨rfl, -, rfl⟩ := Value.slice.inj e
  simp only [List.length_append, List.length_map, List.length_range] at hc hr
  refine ⟨⟨hb, b, c, rfl, by omega, hM, fun i hi => ?_, fun j hj => ?_⟩, b, rfl, by omega, by omega⟩
  ·refine ⟨css[i], ?_, hE i (by omega) hi⟩
   have := hr i (by omega)
   rwa [List.getElem_append_left (by omega)] at this
  ·have := hr (l.length + j) (by omega)
   rw [List.getElem_append_right (by omega)] at this
   have e1 : l.length + j - css.length = j := by omega
   simpa [e1] using this
theorem row_mks (H : Hp) {k n t : Nat} {z : List Value} (hz : z.length = k) (h1 : ∀ v ∈ zerosL z n, v.oneCell' = true) : Row (fun x => x = H.size) (H.push (.cells (zerosL z n).toArray t)) k (.slice (some ⟨H.size, 0, none⟩) 0 n) [] :=
 ⟨by simp, .inr ⟨H.size, n, rfl, Nat.zero_le _, rfl, by simp, ⟨by have := Own_new H (zerosL z n) t; rwa [zerosL_len, hz] at this, fun i => frz_new H _ t i⟩, fun i hi => by simp at hi⟩⟩
end
theorem range_snoc (j : Nat) (mk : Nat → List Value) : (List.range (j + 1)).map mk = (List.range j).map mk ++ [mk j] := by rw [List.range_succ, List.map_append]; rfl
end Go.WK
/-
 What is lent (2): acts, reads.
-/
namespace Go.WK
open Go Go.Proofs

theorem zeros_one {z : List Value} (hz : 0 < z.length) (h : ∀ v ∈ z, v.oneCell' = true) (n : Nat) : ∀ v ∈ zerosL z n, v.oneCell' = true := by
 intro v hv
 simp only [zerosL, List.mem_map] at hv
 obtain ⟨i, _, rfl⟩ := hv
 have hm : i % z.length < z.length := Nat.mod_lt _ hz
 rw [List.getD_eq_getElem?_getD, List.getElem?_eq_getElem hm]
 exact h _ (List.getElem_mem hm)
theorem src_mono {H H' : Hp} {k n c : Nat} {a : Option Addr} {r : Nat × List Value} (hs : appSrc H k (.slice a n c) = some r) (hE : Ext H H') : appSrc H' k (.slice a n c) = some r := by
 cases a with
 | none => cases n <;> exact hs
 | some p =>
  simp only [appSrc] at hs ⊢
  split at hs
  ·rename_i h
   rw [if_pos h]
   cases hr : rdn H p.block p.off (n * k) with
   | none => rw [hr] at hs; cases hs
   | some x => rw [rdn_ext hE hr]; rw [hr] at hs; exact hs
  ·cases hs
set_option maxHeartbeats 4000000 in
theorem LentActs_cl {S : Nat → Prop} {H : Hp} {v : Value} {l : List Ac} (hv : AcSl S H v l) (hl : l.length ≤ 1048576) : Cl Tryz.prog 115 [v] H fun r H' => Ext H H' ∧ Lent ElAc 4 mkA (fun x => H.size ≤ x ∧ x < H'.size) H' r l := by
 refine cl_of mixed c_watershedkit_LentActs (Nat.le_of_ble_eq_true rfl) ?_
 simp only [fwp, ir_watershedkit_LentActs, argF, Nat.reduceAdd]
 obtain ⟨css, a, c, hlen, rfl, hsrc, hel⟩ := SlP.rows hv
 have ht : ((l.length : Int) + 12).toNat = l.length + 12 := by omega
 have hone : ∀ cs ∈ css, cs.length = 4 ∧ One cs := fun cs hc => by
  obtain ⟨i, hi, rfl⟩ := List.getElem_of_mem hc
  have := hel i hi (by omega)
  exact ⟨this.2, this.1.one⟩
 refine w_reg fun K hK => ?_; simp (disch := omega) only [↓wD, wU, simprocAttr]; refine hK _ _ ?_; clear hK K
 refine w_reg fun K hK => ?_
 simp (disch := omega) only [↓wD, wU, simprocAttr, ↓i_mks, ht]
 refine ⟨by omega, by omega, by omega, ?_⟩
 refine hK _ _ ?_
 clear hK K
 have hrow0 := row_mks H (k := 4) (n := l.length + 12) (t := 98) (z := [.int .u8 0, .string .empty, .string .empty, .int .i64 0]) rfl (zeros_one (by decide) (by intro v hv; simp at hv; rcases hv with rfl | rfl | rfl | rfl <;> rfl) _)
 have hE0 : Ext H (H.push (.cells (zerosL [.int .u8 0, .string .empty, .string .empty, .int .i64 0] (l.length + 12)).toArray 98)) := (Ext.refl _).push _
 have hs0 : (H.push (.cells (zerosL [.int .u8 0, .string .empty, .string .empty, .int .i64 0] (l.length + 12)).toArray 98)).size = H.size + 1 := by simp
 have hsrc0 : appSrc (H.push (.cells (zerosL [.int .u8 0, .string .empty, .string .empty, .int .i64 0] (l.length + 12)).toArray 98)) 4 (.slice a l.length c) = some (css.length, css.flatten) := by
  exact src_mono hsrc hE0
 generalize H.push (.cells (zerosL [.int .u8 0, .string .empty, .string .empty, .int .i64 0] (l.length + 12)).toArray 98) = H0 at hrow0 hE0 hs0 hsrc0 ⊢
 refine w_reg fun K hK => ?_
 simp (disch := omega) only [↓wD, wU, simprocAttr, hsrc0]
 refine app_row hrow0 (fun x hx => by omega) hone rfl (by decide) (by simp only [List.length_nil]; omega) ?_ rfl
 intro v1 H1 hrow1 hk1 hs1
 simp (disch := omega) only [↓wD, wU, simprocAttr]
 refine hK _ _ ?_
 clear hK K
 have hE1 : Ext H H1 := ⟨by have := hk1.1; omega, fun x hx => by rw [hk1.2 x (by omega) (by omega)]; exact hE0.2 x hx⟩
 rw [List.nil_append] at hrow1
 refine w_seq ?_
 refine w_reg fun K hK => ?_; simp (disch := omega) only [↓wD, wU, simprocAttr]; refine hK _ _ ?_; clear hK K
 refine w_blk (w_loop (fun n f G => f 0 = .slice a l.length c ∧ Ext H G ∧ ∃ (j : Nat) (v : Value) (M : Nat → Prop), f 4 = .int .i64 j ∧ j ≤ 12 ∧ n = 12 - j ∧ f 3 = v ∧ (∀ x, M x → H.size ≤ x ∧ x < G.size) ∧ Row M G 4 v (css ++ (List.range j).map mkA)) 12 ⟨(by simp only [wL, Nat.reduceBEq]), hE1, 0, v1, fun x => (x = H.size ∨ x = H0.size) ∧ x < H1.size, (by simp only [wL, Nat.reduceBEq]; rfl), by omega, rfl, (by simp only [wL, Nat.reduceBEq]), fun x hx => ⟨by have := hx.1; have := hk1.1; omega, hx.2⟩, by simpa using hrow1.lt⟩ ?_)
 rintro n f G ⟨f0, hE, j, v, M, f4, hj, rfl, f3, hM, hrow⟩
 obtain ⟨va, vc, rfl⟩ := hrow.form
 have hlen2 : (css ++ (List.range j).map mkA).length = l.length + j := by simp [hlen]
 refine w_seq (w_seq ?_)
 by_cases hj12 : j < 12
 ·have z1 : ((j : Int) < 12) = True := eq_true (by omega)
  refine w_reg fun K hK => ?_; simp (disch := omega) only [↓wD, wU, simprocAttr, f4, z1]; refine hK _ _ ?_; clear hK K
  refine wt ?_
  refine w_skip ?_
  (with_reducible repeat first | apply q_n | apply q_e | apply q_r | apply bq_n | apply bq_e | apply bq_r | apply bq_o rfl)
  refine w_seq (w_blk ?_)
  refine w_reg1 fun K hK => ?_
  simp (disch := omega) only [↓wD, wU, simprocAttr, f3, f4]
  refine w_call (markAct_cl hj12) ?_
  rintro _ G1 ⟨rfl, hE1⟩
  have hE2 : Ext G1 (G1.push (.cells (mkA j).toArray 98)) := (Ext.refl _).push _
  have hrow2 := hrow.mono (M' := M) (fun _ h => h) (hE1.trans hE2).1 fun x hx hx' => (hE1.trans hE2).2 x hx'
  have hs2 : (G1.push (.cells (mkA j).toArray 98)).size = G1.size + 1 := by simp
  have hcl : (mkA j).length = 4 ∧ One (mkA j) := ⟨rfl, fun w hw => by simp [mkA] at hw; rcases hw with rfl | rfl | rfl | rfl <;> rfl⟩
  rw [hlen2] at f3
  simp only [mkA] at hE2 hrow2 hs2 hcl ⊢
  simp (disch := omega) only [↓wD, wU, simprocAttr, f3, as_one]
  have hs1' := hE1.1
  refine app_one hrow2 (fun x hx => by have := hM x hx; omega) hcl rfl (by decide) (by simp only [List.length_append, List.length_map, List.length_range]; omega) ?_ (by rw [List.length_append, List.length_map, List.length_range, hlen])
  intro v3 H3 hrow3 hk3 hs3
  simp (disch := omega) only [↓wD, wU, simprocAttr]
  refine hK _ _ ?_
  clear hK K
  (with_reducible repeat first | apply q_n | apply q_e | apply q_r | apply bq_n | apply bq_e | apply bq_r | apply bq_o rfl)
  refine w_reg1 fun K hK => ?_; simp (disch := omega) only [↓wD, wU, simprocAttr, f4]; refine hK _ _ ?_; clear hK K
  (with_reducible repeat first | apply q_n | apply q_e | apply q_r | apply bq_n | apply bq_e | apply bq_r | apply bq_o rfl)
  have hs3' := hk3.1
  refine ⟨12 - (j + 1), by omega, (by simp only [wL, Nat.reduceBEq, f0]), ?_, j + 1, v3, fun x => (M x ∨ x = G1.size + 1) ∧ x < H3.size, (by simp only [wL, Nat.reduceBEq]), by omega, rfl, (by simp only [wL, Nat.reduceBEq]), ?_, ?_⟩
  ·exact ⟨by have := hE.1; omega, fun x hx => by rw [hk3.2 x (by have := hE.1; omega) (fun hm => by have := hM x hm; omega), hE2.2 x (by have := hE.1; omega), hE1.2 x (by have := hE.1; omega), hE.2 x hx]⟩
  ·rintro x ⟨hx | hx, hx2⟩
   ·exact ⟨(hM x hx).1, hx2⟩
   ·exact ⟨by have := hE.1; omega, hx2⟩
  ·rw [hs2] at hrow3
   rw [range_snoc, ← List.append_assoc]
   exact hrow3.lt
 ·have z1 : ((j : Int) < 12) = False := eq_false (by omega)
  obtain rfl : j = 12 := by omega
  refine w_reg fun K hK => ?_; simp (disch := omega) only [↓wD, wU, simprocAttr, f4, z1]; refine hK _ _ ?_; clear hK K
  refine wf ?_
  refine w_exit ?_
  (with_reducible repeat first | apply q_n | apply q_e | apply q_r | apply bq_n | apply bq_e | apply bq_r | apply bq_o rfl)
  rw [hlen2] at f3 hrow
  obtain ⟨hL, b, rfl, hc1, hc2⟩ := hrow.lent (l := l) (El := ElAc) hlen (by unfold big; omega) fun i hi hl => (hel i hi hl).1
  have hb1 : bounds3 (l.length + 12) vc none (some (.int .i64 (l.length : Int))) none = some (0, l.length, vc) := b3_01 (by rw [bd_ok (by omega) (by omega)]; simp)
  have hc0 : (vc = 0) = False := eq_false (by omega)
  refine w_reg fun K hK => ?_; simp (disch := omega) only [↓wD, wU, simprocAttr, f0, f3, hb1, hc0, Nat.sub_zero, Nat.mul_zero, Nat.zero_mul, Nat.add_zero]; refine hK _ _ ?_; clear hK K
  refine w_ret ?_; (with_reducible repeat first | apply q_n | apply q_e | apply q_r | apply bq_n | apply bq_e | apply bq_r | apply bq_o rfl); refine ret1 (by (try simp only [wL, Nat.reduceBEq]); rfl) ?_
  exact ⟨hE, hL.mono (by decide) hM (fun _ _ _ => rfl) fun _ _ _ h => h⟩
set_option maxHeartbeats 4000000 in
theorem LentReads_cl {S : Nat → Prop} {H : Hp} {v : Value} {l : List Rd} (hv : RdSl S H v l) (hl : l.length ≤ 1048576) : Cl Tryz.prog 116 [v] H fun r H' => Ext H H' ∧ Lent ElRd 3 mkR (fun x => H.size ≤ x ∧ x < H'.size) H' r l := by
 refine cl_of mixed c_watershedkit_LentReads (Nat.le_of_ble_eq_true rfl) ?_
 simp only [fwp, ir_watershedkit_LentReads, argF, Nat.reduceAdd]
 obtain ⟨css, a, c, hlen, rfl, hsrc, hel⟩ := SlP.rows hv
 have ht : ((l.length : Int) + 12).toNat = l.length + 12 := by omega
 have hone : ∀ cs ∈ css, cs.length = 3 ∧ One cs := fun cs hc => by
  obtain ⟨i, hi, rfl⟩ := List.getElem_of_mem hc
  have := hel i hi (by omega)
  exact ⟨this.2, this.1.one⟩
 refine w_reg fun K hK => ?_; simp (disch := omega) only [↓wD, wU, simprocAttr]; refine hK _ _ ?_; clear hK K
 refine w_reg fun K hK => ?_
 simp (disch := omega) only [↓wD, wU, simprocAttr, ↓i_mks, ht]
 refine ⟨by omega, by omega, by omega, ?_⟩
 refine hK _ _ ?_
 clear hK K
 have hrow0 := row_mks H (k := 3) (n := l.length + 12) (t := 100) (z := [.string .empty, .bool false, .string .empty]) rfl (zeros_one (by decide) (by intro v hv; simp at hv; rcases hv with rfl | rfl | rfl <;> rfl) _)
 have hE0 : Ext H (H.push (.cells (zerosL [.string .empty, .bool false, .string .empty] (l.length + 12)).toArray 100)) := (Ext.refl _).push _
 have hs0 : (H.push (.cells (zerosL [.string .empty, .bool false, .string .empty] (l.length + 12)).toArray 100)).size = H.size + 1 := by simp
 have hsrc0 : appSrc (H.push (.cells (zerosL [.string .empty, .bool false, .string .empty] (l.length + 12)).toArray 100)) 3 (.slice a l.length c) = some (css.length, css.flatten) := by
  exact src_mono hsrc hE0
 generalize H.push (.cells (zerosL [.string .empty, .bool false, .string .empty] (l.length + 12)).toArray 100) = H0 at hrow0 hE0 hs0 hsrc0 ⊢
 refine w_reg fun K hK => ?_
 simp (disch := omega) only [↓wD, wU, simprocAttr, hsrc0]
 refine app_row hrow0 (fun x hx => by omega) hone rfl (by decide) (by simp only [List.length_nil]; omega) ?_ rfl
 intro v1 H1 hrow1 hk1 hs1
 simp (disch := omega) only [↓wD, wU, simprocAttr]
 refine hK _ _ ?_
 clear hK K
 have hE1 : Ext H H1 := ⟨by have := hk1.1; omega, fun x hx => by rw [hk1.2 x (by omega) (by omega)]; exact hE0.2 x hx⟩
 rw [List.nil_append] at hrow1
 refine w_seq ?_
 refine w_reg fun K hK => ?_; simp (disch := omega) only [↓wD, wU, simprocAttr]; refine hK _ _ ?_; clear hK K
 refine w_blk (w_loop (fun n f G => f 0 = .slice a l.length c ∧ Ext H G ∧ ∃ (j : Nat) (v : Value) (M : Nat → Prop), f 4 = .int .i64 j ∧ j ≤ 12 ∧ n = 12 - j ∧ f 3 = v ∧ (∀ x, M x → H.size ≤ x ∧ x < G.size) ∧ Row M G 3 v (css ++ (List.range j).map mkR)) 12 ⟨(by simp only [wL, Nat.reduceBEq]), hE1, 0, v1, fun x => (x = H.size ∨ x = H0.size) ∧ x < H1.size, (by simp only [wL, Nat.reduceBEq]; rfl), by omega, rfl, (by simp only [wL, Nat.reduceBEq]), fun x hx => ⟨by have := hx.1; have := hk1.1; omega, hx.2⟩, by simpa using hrow1.lt⟩ ?_)
 rintro n f G ⟨f0, hE, j, v, M, f4, hj, rfl, f3, hM, hrow⟩
 obtain ⟨va, vc, rfl⟩ := hrow.form
 have hlen2 : (css ++ (List.range j).map mkR).length = l.length + j := by simp [hlen]
 refine w_seq (w_seq ?_)
 by_cases hj12 : j < 12
 ·have z1 : ((j : Int) < 12) = True := eq_true (by omega)
  refine w_reg fun K hK => ?_; simp (disch := omega) only [↓wD, wU, simprocAttr, f4, z1]; refine hK _ _ ?_; clear hK K
  refine wt ?_
  refine w_skip ?_
  (with_reducible repeat first | apply q_n | apply q_e | apply q_r | apply bq_n | apply bq_e | apply bq_r | apply bq_o rfl)
  refine w_seq (w_blk ?_)
  refine w_reg1 fun K hK => ?_
  simp (disch := omega) only [↓wD, wU, simprocAttr, f3, f4]
  refine w_call (markRead_cl hj12) ?_
  rintro _ G1 ⟨rfl, hE1⟩
  have hE2 : Ext G1 (G1.push (.cells (mkR j).toArray 100)) := (Ext.refl _).push _
  have hrow2 := hrow.mono (M' := M) (fun _ h => h) (hE1.trans hE2).1 fun x hx hx' => (hE1.trans hE2).2 x hx'
  have hs2 : (G1.push (.cells (mkR j).toArray 100)).size = G1.size + 1 := by simp
  have hcl : (mkR j).length = 3 ∧ One (mkR j) := ⟨rfl, fun w hw => by simp [mkR] at hw; rcases hw with rfl | rfl | rfl <;> rfl⟩
  rw [hlen2] at f3
  simp only [mkR] at hE2 hrow2 hs2 hcl ⊢
  simp (disch := omega) only [↓wD, wU, simprocAttr, f3, as_one]
  have hs1' := hE1.1
  refine app_one hrow2 (fun x hx => by have := hM x hx; omega) hcl rfl (by decide) (by simp only [List.length_append, List.length_map, List.length_range]; omega) ?_ (by rw [List.length_append, List.length_map, List.length_range, hlen])
  intro v3 H3 hrow3 hk3 hs3
  simp (disch := omega) only [↓wD, wU, simprocAttr]
  refine hK _ _ ?_
  clear hK K
  (with_reducible repeat first | apply q_n | apply q_e | apply q_r | apply bq_n | apply bq_e | apply bq_r | apply bq_o rfl)
  refine w_reg1 fun K hK => ?_; simp (disch := omega) only [↓wD, wU, simprocAttr, f4]; refine hK _ _ ?_; clear hK K
  (with_reducible repeat first | apply q_n | apply q_e | apply q_r | apply bq_n | apply bq_e | apply bq_r | apply bq_o rfl)
  have hs3' := hk3.1
  refine ⟨12 - (j + 1), by omega, (by simp only [wL, Nat.reduceBEq, f0]), ?_, j + 1, v3, fun x => (M x ∨ x = G1.size + 1) ∧ x < H3.size, (by simp only [wL, Nat.reduceBEq]), by omega, rfl, (by simp only [wL, Nat.reduceBEq]), ?_, ?_⟩
  ·exact ⟨by have := hE.1; omega, fun x hx => by rw [hk3.2 x (by have := hE.1; omega) (fun hm => by have := hM x hm; omega), hE2.2 x (by have := hE.1; omega), hE1.2 x (by have := hE.1; omega), hE.2 x hx]⟩
  ·rintro x ⟨hx | hx, hx2⟩
   ·exact ⟨(hM x hx).1, hx2⟩
   ·exact ⟨by have := hE.1; omega, hx2⟩
  ·rw [hs2] at hrow3
   rw [range_snoc, ← List.append_assoc]
   exact hrow3.lt
 ·have z1 : ((j : Int) < 12) = False := eq_false (by omega)
  obtain rfl : j = 12 := by omega
  refine w_reg fun K hK => ?_; simp (disch := omega) only [↓wD, wU, simprocAttr, f4, z1]; refine hK _ _ ?_; clear hK K
  refine wf ?_
  refine w_exit ?_
  (with_reducible repeat first | apply q_n | apply q_e | apply q_r | apply bq_n | apply bq_e | apply bq_r | apply bq_o rfl)
  rw [hlen2] at f3 hrow
  obtain ⟨hL, b, rfl, hc1, hc2⟩ := hrow.lent (l := l) (El := ElRd) hlen (by unfold big; omega) fun i hi hl => (hel i hi hl).1
  have hb1 : bounds3 (l.length + 12) vc none (some (.int .i64 (l.length : Int))) none = some (0, l.length, vc) := b3_01 (by rw [bd_ok (by omega) (by omega)]; simp)
  have hc0 : (vc = 0) = False := eq_false (by omega)
  refine w_reg fun K hK => ?_; simp (disch := omega) only [↓wD, wU, simprocAttr, f0, f3, hb1, hc0, Nat.sub_zero, Nat.mul_zero, Nat.zero_mul, Nat.add_zero]; refine hK _ _ ?_; clear hK K
  refine w_ret ?_; (with_reducible repeat first | apply q_n | apply q_e | apply q_r | apply bq_n | apply bq_e | apply bq_r | apply bq_o rfl); refine ret1 (by (try simp only [wL, Nat.reduceBEq]); rfl) ?_
  exact ⟨hE, hL.mono (by decide) hM (fun _ _ _ => rfl) fun _ _ _ h => h⟩
end Go.WK
/-
 What is lent (3): holds.
-/
namespace Go.WK
open Go Go.Proofs

def ElHdL (S : Nat → Prop) (H : Hp) (cs : List Value) (h : Hd) : Prop := ∃ va vr, cs = [.string h.key, .int .i64 h.name.client, .int .i64 h.name.num, va, vr, .bool h.put, .string h.value] ∧
 Lent ElAc 4 mkA S H va h.acts ∧ Lent ElRd 3 mkR S H vr h.reads ∧ h.name.ok ∧ Sz h.key ∧ Sz h.value
theorem ElHdL.hd {S : Nat → Prop} {H : Hp} {cs : List Value} {h : Hd} (e : ElHdL S H cs h) : ElHd S H cs h := by
 obtain ⟨va, vr, e, h1, h2, h3⟩ := e
 exact ⟨va, vr, e, h1.slp, h2.slp, h3⟩
theorem ElHdL.mono {S S' : Nat → Prop} {H H' : Hp} {cs : List Value} {h : Hd} (hS : ∀ b, S b → S' b) (hk : ∀ b, S b → b < H.size → H'[b]? = H[b]?) (e : ElHdL S H cs h) : ElHdL S' H' cs h := by
 obtain ⟨va, vr, e, h1, h2, h3⟩ := e
 exact ⟨va, vr, e, h1.mono (by decide) hS hk fun _ _ _ h => h, h2.mono (by decide) hS hk fun _ _ _ h => h, h3⟩
theorem LentHold_cl {S : Nat → Prop} {H : Hp} {cs : List Value} {h : Hd} (he : ElHd S H cs h) (hla : h.acts.length ≤ 1048576) (hlr : h.reads.length ≤ 1048576) : Cl Tryz.prog 61 [.agg cs.toArray] H fun r H' => Ext H H' ∧ ∃ cs' : List Value, r = .agg cs'.toArray ∧ ElHdL (fun x => H.size ≤ x ∧ x < H'.size) H' cs' h := by
 refine cl_of mixed c_watershedkit_LentHold (Nat.le_of_ble_eq_true rfl) ?_
 simp only [fwp, ir_watershedkit_LentHold, argF, Nat.reduceAdd]
 obtain ⟨va, vr, rfl, ha, hr, hnm, hsk, hsv⟩ := he
 obtain ⟨aa, ac, rfl, -⟩ := SlP.form ha
 obtain ⟨ra, rc, rfl, -⟩ := SlP.form hr
 refine w_reg fun K hK => ?_; simp (disch := omega) only [↓wD, wU, simprocAttr]; refine hK _ _ ?_; clear hK K
 have hP := Bk.new H [.string h.key, .int .i64 h.name.client, .int .i64 h.name.num, .slice aa h.acts.length ac, .slice ra h.reads.length rc, .bool h.put, .string h.value] 35
 have hE1 : Ext H (H.push (.cells #[.string h.key, .int .i64 h.name.client, .int .i64 h.name.num, .slice aa h.acts.length ac, .slice ra h.reads.length rc, .bool h.put, .string h.value] 35)) := (Ext.refl _).push _
 have hs1 : (H.push (.cells #[.string h.key, .int .i64 h.name.client, .int .i64 h.name.num, .slice aa h.acts.length ac, .slice ra h.reads.length rc, .bool h.put, .string h.value] 35)).size = H.size + 1 := by simp
 generalize H.push (.cells #[.string h.key, .int .i64 h.name.client, .int .i64 h.name.num, .slice aa h.acts.length ac, .slice ra h.reads.length rc, .bool h.put, .string h.value] 35) = H1 at hP hE1 hs1 ⊢
 rw [← hs1]
 have hQ := Bk.new H1 [.string .empty, .int .i64 0, .int .i64 0, .slice none 0 0, .slice none 0 0, .bool false, .string .empty] 35
 have hE2 : Ext H1 (H1.push (.cells #[.string .empty, .int .i64 0, .int .i64 0, .slice none 0 0, .slice none 0 0, .bool false, .string .empty] 35)) := (Ext.refl _).push _
 have hs2 : (H1.push (.cells #[.string .empty, .int .i64 0, .int .i64 0, .slice none 0 0, .slice none 0 0, .bool false, .string .empty] 35)).size = H1.size + 1 := by simp
 generalize H1.push (.cells #[.string .empty, .int .i64 0, .int .i64 0, .slice none 0 0, .slice none 0 0, .bool false, .string .empty] 35) = H2 at hQ hE2 hs2 ⊢
 generalize hPe : H.size = P at hP hs1 ⊢
 generalize hQe : H1.size = Q at hQ hs1 hs2 ⊢
 have hP2 := hP.keep (hE2.2 P (by omega))
 -- the acts
 refine w_reg fun K hK => ?_
 simp (disch := omega) only [↓wD, wU, simprocAttr, hP2.cell 3 (by simp), List.getElem_cons_succ, List.getElem_cons_zero]
 refine w_call (LentActs_cl (ha.mono (fun _ h => h) (fun b _ hb => (hE1.trans hE2).2 b hb) fun _ _ _ h => h) hla) ?_
 rintro _ H3 ⟨hE3, hLa⟩
 obtain ⟨-, ba, ca, rfl, -⟩ := id hLa
 have hP3 := hP2.keep (hE3.2 P (by omega))
 have hQ3 := hQ.keep (hE3.2 Q (by omega))
 simp (disch := omega) only [↓wD, wU, simprocAttr, hP3.cell 3 (by simp), hP3.fz]
 refine hK _ _ ?_
 clear hK K
 have hs3 := hE3.1
 have hP3' := hP3.put 3 (.slice (some ⟨ba, 0, none⟩) h.acts.length ca) (by simp)
 simp only [List.set_cons_succ, List.set_cons_zero] at hP3'
 have hQ3' := hQ3.keep (H' := putc H3 P 3 (.slice (some ⟨ba, 0, none⟩) h.acts.length ca)) (putc_ne (by omega))
 have hE03 : Ext H (putc H3 P 3 (.slice (some ⟨ba, 0, none⟩) h.acts.length ca)) := ⟨by rw [putc_size]; exact ((hE1.trans hE2).trans hE3).1, fun x hx => by rw [putc_ne (by omega)]; exact ((hE1.trans hE2).trans hE3).2 x hx⟩
 have hsz3 : (putc H3 P 3 (.slice (some ⟨ba, 0, none⟩) h.acts.length ca)).size = H3.size := putc_size _ _ _ _
 replace hLa : Lent ElAc 4 mkA (fun x => H2.size ≤ x ∧ x < H3.size) (putc H3 P 3 (.slice (some ⟨ba, 0, none⟩) h.acts.length ca)) (.slice (some ⟨ba, 0, none⟩) h.acts.length ca) h.acts := hLa.mono (by decide) (fun _ h => h) (fun b hb _ => putc_ne (by omega)) fun _ _ _ h => h
 generalize putc H3 P 3 (.slice (some ⟨ba, 0, none⟩) h.acts.length ca) = G3 at hP3' hQ3' hE03 hsz3 hLa ⊢
 -- the reads
 refine w_reg fun K hK => ?_
 simp (disch := omega) only [↓wD, wU, simprocAttr, hP3'.cell 4 (by simp), List.getElem_cons_succ, List.getElem_cons_zero]
 refine w_call (LentReads_cl (hr.mono (fun _ h => h) (fun b _ hb => hE03.2 b hb) fun _ _ _ h => h) hlr) ?_
 rintro _ H4 ⟨hE4, hLr⟩
 obtain ⟨-, br, cr, rfl, -⟩ := id hLr
 have hP4 := hP3'.keep (hE4.2 P (by omega))
 have hQ4 := hQ3'.keep (hE4.2 Q (by omega))
 simp (disch := omega) only [↓wD, wU, simprocAttr, hP4.cell 4 (by simp), hP4.fz]
 refine hK _ _ ?_
 clear hK K
 have hs4 := hE4.1
 have hP4' := hP4.put 4 (.slice (some ⟨br, 0, none⟩) h.reads.length cr) (by simp)
 simp only [List.set_cons_succ, List.set_cons_zero] at hP4'
 have hQ4' := hQ4.keep (H' := putc H4 P 4 (.slice (some ⟨br, 0, none⟩) h.reads.length cr)) (putc_ne (by omega))
 have hE04 : Ext H (putc H4 P 4 (.slice (some ⟨br, 0, none⟩) h.reads.length cr)) := ⟨by rw [putc_size]; exact (hE03.trans hE4).1, fun x hx => by rw [putc_ne (by omega)]; exact (hE03.trans hE4).2 x hx⟩
 have hsz4 : (putc H4 P 4 (.slice (some ⟨br, 0, none⟩) h.reads.length cr)).size = H4.size := putc_size _ _ _ _
 replace hLa : Lent ElAc 4 mkA (fun x => H2.size ≤ x ∧ x < H4.size) (putc H4 P 4 (.slice (some ⟨br, 0, none⟩) h.reads.length cr)) (.slice (some ⟨ba, 0, none⟩) h.acts.length ca) h.acts := hLa.mono (by decide) (fun _ h => ⟨h.1, by omega⟩) (fun b hb hb' => by rw [putc_ne (by omega)]; exact hE4.2 b hb') fun _ _ _ h => h
 replace hLr : Lent ElRd 3 mkR (fun x => H2.size ≤ x ∧ x < H4.size) (putc H4 P 4 (.slice (some ⟨br, 0, none⟩) h.reads.length cr)) (.slice (some ⟨br, 0, none⟩) h.reads.length cr) h.reads := hLr.mono (by decide) (fun _ h => ⟨by omega, h.2⟩) (fun b hb _ => putc_ne (by omega)) fun _ _ _ h => h
 generalize putc H4 P 4 (.slice (some ⟨br, 0, none⟩) h.reads.length cr) = G4 at hP4' hQ4' hE04 hsz4 hLa hLr ⊢
 -- what is told
 have hrd := hP4'.rd
 simp only [List.length_cons, List.length_nil, Nat.zero_add, Nat.reduceAdd] at hrd
 obtain ⟨G5, hw, hW⟩ := wrn_ok (l := [.string h.key, .int .i64 h.name.client, .int .i64 h.name.num, .slice (some ⟨ba, 0, none⟩) h.acts.length ca, .slice (some ⟨br, 0, none⟩) h.reads.length cr, .bool h.put, .string h.value]) hQ4'.own (by intro v hv; simp at hv; rcases hv with rfl | rfl | rfl | rfl | rfl | rfl | rfl <;> rfl)
 have hr5 := hW.rdn_at
 simp only [List.length_cons, List.length_nil, Nat.zero_add, Nat.reduceAdd] at hr5
 refine w_reg fun K hK => ?_; simp (disch := omega) only [↓wD, wU, simprocAttr, hrd, hw]; refine hK _ _ ?_; clear hK K
 refine w_ret ?_
 (with_reducible repeat first | apply q_n | apply q_e | apply q_r | apply bq_n | apply bq_e | apply bq_r | apply bq_o rfl)
 refine retG (by
  simp only [resV, rvsV, rvV, wL, Nat.reduceBEq, hr5, Option.map_some, oneOr]; rfl) ?_
 have hQH : H.size ≤ Q := by omega
 refine ⟨hW.ext hE04 hQH, _, rfl, _, _, rfl, ?_, ?_, hnm, hsk, hsv⟩
 ·exact hLa.mono (by decide) (fun x hx => ⟨by omega, by rw [hW.size]; omega⟩) (fun x hx _ => hW.other x (by omega)) fun _ _ _ h => h
 ·exact hLr.mono (by decide) (fun x hx => ⟨by omega, by rw [hW.size]; omega⟩) (fun x hx _ => hW.other x (by omega)) fun _ _ _ h => h
set_option maxHeartbeats 4000000 in
theorem LentHolds_cl {S : Nat → Prop} {H : Hp} {v : Value} {l : List Hd} (hv : HdSl S H v l) (hl : l.length ≤ 1048576) (hla : ∀ h ∈ l, h.acts.length ≤ 1048576 ∧ h.reads.length ≤ 1048576) : Cl Tryz.prog 19 [v] H fun r H' => Ext H H' ∧ Lent (ElHdL (fun x => H.size ≤ x ∧ x < H'.size) H') 7 mkH (fun x => H.size ≤ x ∧ x < H'.size) H' r l := by
 refine cl_of mixed c_watershedkit_LentHolds (Nat.le_of_ble_eq_true rfl) ?_
 simp only [fwp, ir_watershedkit_LentHolds, argF, Nat.reduceAdd]
 obtain ⟨a, c, rfl, hc, hll, hel⟩ := SlP.open hv
 have ht : ((l.length : Int) + 12).toNat = l.length + 12 := by omega
 refine w_reg fun K hK => ?_; simp (disch := omega) only [↓wD, wU, simprocAttr]; refine hK _ _ ?_; clear hK K
 refine w_reg fun K hK => ?_
 simp (disch := omega) only [↓wD, wU, simprocAttr, ↓i_mks, ht]
 refine ⟨by omega, by omega, by omega, ?_⟩
 refine hK _ _ ?_
 clear hK K
 have hrow0 := row_mks H (k := 7) (n := l.length + 12) (t := 35) (z := zHold) rfl (zHold_one _)
 have hE0 : Ext H (H.push (.cells (zerosL zHold (l.length + 12)).toArray 35)) := (Ext.refl _).push _
 have hs0 : (H.push (.cells (zerosL zHold (l.length + 12)).toArray 35)).size = H.size + 1 := by simp
 generalize H.push (.cells (zerosL zHold (l.length + 12)).toArray 35) = H0 at hrow0 hE0 hs0 ⊢
 refine w_seq ?_
 refine w_reg fun K hK => ?_; simp (disch := omega) only [↓wD, wU, simprocAttr]; refine hK _ _ ?_; clear hK K
 refine w_blk (w_loop (fun n f A => f 0 = .slice a l.length c ∧ ∃ (i : Nat) (v : Value) (M G : Nat → Prop) (css : List (List Value)), f 4 = .int .i64 i ∧ i ≤ l.length ∧ n = l.length - i ∧ f 3 = v ∧ Ext H A ∧ (∀ x, M x ∨ G x → H.size ≤ x ∧ x < A.size) ∧ (∀ x, M x → ¬ G x) ∧ Row M A 7 v css ∧ css.length = i ∧ ∀ j (hj : j < css.length) (hl : j < l.length), ElHdL G A css[j] l[j]) l.length ⟨(by simp only [wL, Nat.reduceBEq]), 0, .slice (some ⟨H.size, 0, none⟩) 0 (l.length + 12), fun x => x = H.size, fun _ => False, [], (by simp only [wL, Nat.reduceBEq]; rfl), Nat.zero_le _, rfl, (by simp only [wL, Nat.reduceBEq]), hE0, fun x hx => hx.elim (fun hx => ⟨by omega, by omega⟩) fun hx => hx.elim, fun _ _ h => h, hrow0, rfl, fun j hj => by simp at hj⟩ ?_)
 rintro n f A ⟨f0, i, v, M, G, css, f4, hi, rfl, f3, hE, hMG, hdis, hrow, hcl, hcel⟩
 obtain ⟨va, vc, rfl⟩ := hrow.form
 refine w_seq (w_seq ?_)
 by_cases hil : i < l.length
 ·obtain ⟨b, o, rfl, hS, cs, hcs, he⟩ := hel i hil
  have hcs1 := rdn_ext hE hcs
  have hlai := hla _ (List.getElem_mem hil)
  refine w_reg fun K hK => ?_; simp (disch := omega) only [↓wD, wU, simprocAttr, f0, f4, hil]; refine hK _ _ ?_; clear hK K
  refine wt ?_
  refine w_skip ?_
  (with_reducible repeat first | apply q_n | apply q_e | apply q_r | apply bq_n | apply bq_e | apply bq_r | apply bq_o rfl)
  refine w_seq (w_blk ?_)
  refine w_reg fun K hK => ?_
  simp (disch := omega) only [↓wD, wU, simprocAttr, f0, f4, hil, hcs1]
  refine w_call (LentHold_cl (he.ext hE) hlai.1 hlai.2) ?_
  rintro _ A1 ⟨hE1, cs', rfl, hL⟩
  obtain ⟨xa, xr, ecs, hLa, hLr, -⟩ := id hL
  obtain ⟨-, ba, ca, rfl, -⟩ := hLa
  obtain ⟨-, br, cr, rfl, -⟩ := hLr
  subst ecs
  simp (disch := omega) only [↓wD, wU, simprocAttr]
  refine hK _ _ ?_
  clear hK K
  have hE2 : Ext A1 (A1.push (.cells #[.string l[i].key, .int .i64 l[i].name.client, .int .i64 l[i].name.num, .slice (some ⟨ba, 0, none⟩) l[i].acts.length ca, .slice (some ⟨br, 0, none⟩) l[i].reads.length cr, .bool l[i].put, .string l[i].value] 35)) := (Ext.refl _).push _
  have hr2 : rdn (A1.push (.cells #[.string l[i].key, .int .i64 l[i].name.client, .int .i64 l[i].name.num, .slice (some ⟨ba, 0, none⟩) l[i].acts.length ca, .slice (some ⟨br, 0, none⟩) l[i].reads.length cr, .bool l[i].put, .string l[i].value] 35)) A1.size 0 7 = some [.string l[i].key, .int .i64 l[i].name.client, .int .i64 l[i].name.num, .slice (some ⟨ba, 0, none⟩) l[i].acts.length ca, .slice (some ⟨br, 0, none⟩) l[i].reads.length cr, .bool l[i].put, .string l[i].value] := rdn_new A1 _ 35 0 7 (Nat.le_refl _)
  have hs2 : (A1.push (.cells #[.string l[i].key, .int .i64 l[i].name.client, .int .i64 l[i].name.num, .slice (some ⟨ba, 0, none⟩) l[i].acts.length ca, .slice (some ⟨br, 0, none⟩) l[i].reads.length cr, .bool l[i].put, .string l[i].value] 35)).size = A1.size + 1 := by simp
  generalize A1.push (.cells #[.string l[i].key, .int .i64 l[i].name.client, .int .i64 l[i].name.num, .slice (some ⟨ba, 0, none⟩) l[i].acts.length ca, .slice (some ⟨br, 0, none⟩) l[i].reads.length cr, .bool l[i].put, .string l[i].value] 35) = A2 at hE2 hr2 hs2 ⊢
  have hE3 : Ext A2 (A2.push (.cells #[.string l[i].key, .int .i64 l[i].name.client, .int .i64 l[i].name.num, .slice (some ⟨ba, 0, none⟩) l[i].acts.length ca, .slice (some ⟨br, 0, none⟩) l[i].reads.length cr, .bool l[i].put, .string l[i].value] 35)) := (Ext.refl _).push _
  have hs3 : (A2.push (.cells #[.string l[i].key, .int .i64 l[i].name.client, .int .i64 l[i].name.num, .slice (some ⟨ba, 0, none⟩) l[i].acts.length ca, .slice (some ⟨br, 0, none⟩) l[i].reads.length cr, .bool l[i].put, .string l[i].value] 35)).size = A2.size + 1 := by simp
  have hcl7 : ([.string l[i].key, .int .i64 l[i].name.client, .int .i64 l[i].name.num, .slice (some ⟨ba, 0, none⟩) l[i].acts.length ca, .slice (some ⟨br, 0, none⟩) l[i].reads.length cr, .bool l[i].put, .string l[i].value] : List Value).length = 7 ∧ One [.string l[i].key, .int .i64 l[i].name.client, .int .i64 l[i].name.num, .slice (some ⟨ba, 0, none⟩) l[i].acts.length ca, .slice (some ⟨br, 0, none⟩) l[i].reads.length cr, .bool l[i].put, .string l[i].value] := ⟨rfl, hL.hd.one⟩
  have hE13 := (hE1.trans hE2).trans hE3
  have hrow2 := hrow.mono (M' := M) (fun _ h => h) hE13.1 fun x hx hx' => hE13.2 x hx'
  refine w_reg1 fun K hK => ?_
  simp (disch := omega) only [↓wD, wU, simprocAttr, f3, hr2, as_one]
  have hs1' := hE1.1
  have hsH := hE.1
  refine app_one hrow2 (fun x hx => by have := hMG x (.inl hx); omega) hcl7 rfl (by decide) (by omega) ?_ rfl
  intro v4 H4 hrow4 hk4 hs4
  simp (disch := omega) only [↓wD, wU, simprocAttr]
  refine hK _ _ ?_
  clear hK K
  (with_reducible repeat first | apply q_n | apply q_e | apply q_r | apply bq_n | apply bq_e | apply bq_r | apply bq_o rfl)
  refine w_reg1 fun K hK => ?_; simp (disch := omega) only [↓wD, wU, simprocAttr, f4]; refine hK _ _ ?_; clear hK K
  (with_reducible repeat first | apply q_n | apply q_e | apply q_r | apply bq_n | apply bq_e | apply bq_r | apply bq_o rfl)
  have hs4' := hk4.1
  have keep : ∀ x, x < A1.size → ¬ M x → H4[x]? = A1[x]? := fun x hx hm => by rw [hk4.2 x (by omega) hm, hE3.2 x (by omega), hE2.2 x hx]
  rw [hs3] at hrow4
  refine ⟨l.length - (i + 1), by omega, (by simp only [wL, Nat.reduceBEq, f0]), i + 1, v4, fun x => (M x ∨ x = A2.size + 1) ∧ x < H4.size, fun x => G x ∨ (A.size ≤ x ∧ x < A1.size), _, (by simp only [wL, Nat.reduceBEq]), by omega, rfl, (by simp only [wL, Nat.reduceBEq]), ?_, ?_, ?_, hrow4.lt, by simp [hcl], fun j hj hl' => ?_⟩
  ·exact ⟨by omega, fun x hx => by rw [keep x (by omega) (fun hm => by have := hMG x (.inl hm); omega), hE1.2 x (by omega), hE.2 x hx]⟩
  ·rintro x (⟨hx | hx, hx2⟩ | hx | hx)
   ·have := hMG x (.inl hx); omega
   ·omega
   ·have := hMG x (.inr hx); omega
   ·omega
  ·rintro x ⟨hx | hx, hx2⟩ (hy | hy)
   ·exact hdis x hx hy
   ·have := hMG x (.inl hx); omega
   ·have := hMG x (.inr hy); omega
   ·omega
  ·by_cases hjl : j < css.length
   ·rw [List.getElem_append_left hjl]
    exact (hcel j hjl hl').mono (fun _ h => .inl h) fun x hx hx' => by rw [keep x (by omega) (fun hm => hdis x hm hx), hE1.2 x hx']
   ·have hji : j = i := by simp at hj; omega
    subst hji
    rw [List.getElem_append_right (by omega)]
    simp only [hcl, Nat.sub_self, List.getElem_cons_zero]
    exact hL.mono (fun _ h => .inr h) fun x hx hx' => keep x hx' fun hm => by have := hMG x (.inl hm); omega
 ·have hi' : i = l.length := by omega
  subst hi'
  refine w_reg fun K hK => ?_; simp (disch := omega) only [↓wD, wU, simprocAttr, f0, f4, Nat.lt_irrefl]; refine hK _ _ ?_; clear hK K
  refine wf ?_
  refine w_exit ?_
  (with_reducible repeat first | apply q_n | apply q_e | apply q_r | apply bq_n | apply bq_e | apply bq_r | apply bq_o rfl)
  clear hil f4
  refine w_seq ?_
  refine w_reg fun K hK => ?_; simp (disch := omega) only [↓wD, wU, simprocAttr]; refine hK _ _ ?_; clear hK K
  rw [hcl] at f3
  refine w_blk (w_loop (fun n f B => f 0 = .slice a l.length c ∧ ∃ (j : Nat) (v : Value) (M : Nat → Prop), f 6 = .int .i64 j ∧ j ≤ 12 ∧ n = 12 - j ∧ f 3 = v ∧ Ext H B ∧ A.size ≤ B.size ∧ (∀ x, M x → H.size ≤ x ∧ x < B.size) ∧ (∀ x, M x → ¬ G x) ∧ (∀ x, G x → B[x]? = A[x]?) ∧ Row M B 7 v (css ++ (List.range j).map mkH)) 12 ⟨(by simp only [wL, Nat.reduceBEq, f0]), 0, .slice va l.length vc, M, (by simp only [wL, Nat.reduceBEq]; rfl), by omega, rfl, (by simp only [wL, Nat.reduceBEq, f3]), hE, Nat.le_refl _, fun x hx => hMG x (.inl hx), hdis, fun _ _ => rfl, by rw [hcl] at hrow; simpa using hrow⟩ ?_)
  clear f0 f3 f hdis hrow
  rintro n f B ⟨f0, j, v, M', f6, hj, rfl, f3, hEB, hsAB, hM', hdis, hG, hrow⟩
  obtain ⟨vb, vd, rfl⟩ := hrow.form
  have hlen2 : (css ++ (List.range j).map mkH).length = l.length + j := by simp [hcl]
  refine w_seq (w_seq ?_)
  by_cases hj12 : j < 12
  ·have z1 : ((j : Int) < 12) = True := eq_true (by omega)
   refine w_reg fun K hK => ?_; simp (disch := omega) only [↓wD, wU, simprocAttr, f6, z1]; refine hK _ _ ?_; clear hK K
   refine wt ?_
   refine w_skip ?_
   (with_reducible repeat first | apply q_n | apply q_e | apply q_r | apply bq_n | apply bq_e | apply bq_r | apply bq_o rfl)
   refine w_seq (w_blk ?_)
   refine w_reg1 fun K hK => ?_
   simp (disch := omega) only [↓wD, wU, simprocAttr, f3, f6]
   refine w_call (markHold_cl hj12) ?_
   rintro _ G1 ⟨rfl, hE1⟩
   have hE2 : Ext G1 (G1.push (.cells (mkH j).toArray 35)) := (Ext.refl _).push _
   have hrow2 := hrow.mono (M' := M') (fun _ h => h) (hE1.trans hE2).1 fun x hx hx' => (hE1.trans hE2).2 x hx'
   have hs2 : (G1.push (.cells (mkH j).toArray 35)).size = G1.size + 1 := by simp
   have hcl1 : (mkH j).length = 7 ∧ One (mkH j) := ⟨rfl, fun w hw => by simp [mkH] at hw; rcases hw with rfl | rfl | rfl | rfl | rfl | rfl | rfl <;> rfl⟩
   rw [hlen2] at f3
   simp only [mkH] at hE2 hrow2 hs2 hcl1 ⊢
   simp (disch := omega) only [↓wD, wU, simprocAttr, f3, as_one]
   have hs1' := hE1.1
   have hsH := hEB.1
   refine app_one hrow2 (fun x hx => by have := hM' x hx; omega) hcl1 rfl (by decide) (by simp only [List.length_append, List.length_map, List.length_range]; omega) ?_ (by rw [List.length_append, List.length_map, List.length_range, hcl])
   intro v3 H3 hrow3 hk3 hs3
   simp (disch := omega) only [↓wD, wU, simprocAttr]
   refine hK _ _ ?_
   clear hK K
   (with_reducible repeat first | apply q_n | apply q_e | apply q_r | apply bq_n | apply bq_e | apply bq_r | apply bq_o rfl)
   refine w_reg1 fun K hK => ?_; simp (disch := omega) only [↓wD, wU, simprocAttr, f6]; refine hK _ _ ?_; clear hK K
   (with_reducible repeat first | apply q_n | apply q_e | apply q_r | apply bq_n | apply bq_e | apply bq_r | apply bq_o rfl)
   have hs3' := hk3.1
   have keep : ∀ x, x < B.size → ¬ M' x → H3[x]? = B[x]? := fun x hx hm => by rw [hk3.2 x (by omega) hm, hE2.2 x (by omega), hE1.2 x hx]
   refine ⟨12 - (j + 1), by omega, (by simp only [wL, Nat.reduceBEq, f0]), j + 1, v3, fun x => (M' x ∨ x = G1.size + 1) ∧ x < H3.size, (by simp only [wL, Nat.reduceBEq]), by omega, rfl, (by simp only [wL, Nat.reduceBEq]), ?_, by omega, ?_, ?_, ?_, ?_⟩
   ·exact ⟨by omega, fun x hx => by rw [keep x (by omega) (fun hm => by have := hM' x hm; omega), hEB.2 x hx]⟩
   ·rintro x ⟨hx | hx, hx2⟩
    ·exact ⟨(hM' x hx).1, hx2⟩
    ·exact ⟨by omega, hx2⟩
   ·rintro x ⟨hx | hx, hx2⟩ hg
    ·exact hdis x hx hg
    ·have := hMG x (.inr hg); omega
   ·intro x hg
    rw [keep x (by have := hMG x (.inr hg); omega) fun hm => hdis x hm hg]
    exact hG x hg
   ·rw [hs2] at hrow3
    rw [range_snoc, ← List.append_assoc]
    exact hrow3.lt
  ·have z1 : ((j : Int) < 12) = False := eq_false (by omega)
   obtain rfl : j = 12 := by omega
   refine w_reg fun K hK => ?_; simp (disch := omega) only [↓wD, wU, simprocAttr, f6, z1]; refine hK _ _ ?_; clear hK K
   refine wf ?_
   refine w_exit ?_
   (with_reducible repeat first | apply q_n | apply q_e | apply q_r | apply bq_n | apply bq_e | apply bq_r | apply bq_o rfl)
   rw [hlen2] at f3 hrow
   obtain ⟨hL, b, rfl, hc1, hc2⟩ := hrow.lent (l := l) (El := ElHdL (fun x => H.size ≤ x ∧ x < B.size) B) hcl (by unfold big; omega) fun i hi hl => (hcel i hi hl).mono (fun x hx => by have := hMG x (.inr hx); omega) fun x hx _ => hG x hx
   have hb1 : bounds3 (l.length + 12) vd none (some (.int .i64 (l.length : Int))) none = some (0, l.length, vd) := b3_01 (by rw [bd_ok (by omega) (by omega)]; simp)
   have hc0 : (vd = 0) = False := eq_false (by omega)
   refine w_reg fun K hK => ?_; simp (disch := omega) only [↓wD, wU, simprocAttr, f0, f3, hb1, hc0, Nat.sub_zero, Nat.mul_zero, Nat.zero_mul, Nat.add_zero]; refine hK _ _ ?_; clear hK K
   refine w_ret ?_; (with_reducible repeat first | apply q_n | apply q_e | apply q_r | apply bq_n | apply bq_e | apply bq_r | apply bq_o rfl); refine ret1 (by (try simp only [wL, Nat.reduceBEq]); rfl) ?_
   exact ⟨hEB, hL.mono (by decide) hM' (fun _ _ _ => rfl) fun _ _ _ h => h⟩
end Go.WK
/-
 What was lent has stayed: acts, reads.
-/
namespace Go.WK
open Go Go.Proofs

set_option maxHeartbeats 4000000 in
theorem KeptActs_cl {S S' : Nat → Prop} {H : Hp} {v u : Value} {l : List Ac} (hL : Lent ElAc 4 mkA S H v l) (hu : AcSl S' H u l) (hll : l.length ≤ 1048576) : Cl Tryz.prog 131 [v, u] H fun r H' => r = .bool true ∧ Ext H H' := by
 refine cl_of mixed c_watershedkit_KeptActs (Nat.le_of_ble_eq_true rfl) ?_
 simp only [fwp, ir_watershedkit_KeptActs, argF, Nat.reduceAdd]
 obtain ⟨h0, b, c, rfl, hc, hSb, hl1, hm1⟩ := hL
 obtain ⟨a', c', rfl, -, -, hel'⟩ := SlP.open hu
 have hb1 : bounds3 l.length c none (some (.int .i64 ((l.length : Int) + 12))) none = some (0, l.length + 12, c) := b3_01 (by rw [bd_ok (by omega) (by omega)]; congr 1)
 have hc0 : (c = 0) = False := eq_false (by omega)
 refine w_reg fun K hK => ?_; simp (disch := omega) only [↓wD, wU, simprocAttr]; refine hK _ _ ?_; clear hK K
 refine w_seq (w_seq ?_)
 refine w_reg fun K hK => ?_; simp (disch := omega) only [↓wD, wU, simprocAttr]; refine hK _ _ ?_; clear hK K
 refine wf ?_
 refine w_skip ?_
 (with_reducible repeat first | apply q_n | apply q_e | apply q_r | apply bq_n | apply bq_e | apply bq_r | apply bq_o rfl)
 refine w_reg fun K hK => ?_; simp (disch := omega) only [↓wD, wU, simprocAttr, hb1, hc0, Nat.sub_zero, Nat.mul_zero, Nat.zero_mul, Nat.add_zero]; refine hK _ _ ?_; clear hK K
 refine w_seq (w_seq ?_)
 refine w_reg fun K hK => ?_; simp (disch := omega) only [↓wD, wU, simprocAttr]; refine hK _ _ ?_; clear hK K
 refine w_blk (w_loop (fun n f A => Ext H A ∧ f 1 = .slice a' l.length c' ∧ f 5 = .slice (some ⟨b, 0, none⟩) (l.length + 12) c ∧ ∃ j : Nat, f 6 = .int .i64 j ∧ j ≤ l.length + 12 ∧ n = l.length + 12 - j) _ ⟨Ext.refl _, (by simp only [wL, Nat.reduceBEq]), (by simp only [wL, Nat.reduceBEq]), 0, (by simp only [wL, Nat.reduceBEq]; rfl), Nat.zero_le _, rfl⟩ ?_)
 rintro n f A ⟨hE, f1, f5, j, f6, hj, rfl⟩
 refine w_seq (w_seq ?_)
 by_cases hlt : j < l.length + 12
 ·refine w_reg fun K hK => ?_; simp (disch := omega) only [↓wD, wU, simprocAttr, f5, f6, hlt]; refine hK _ _ ?_; clear hK K
  refine wt ?_
  refine w_skip ?_
  (with_reducible repeat first | apply q_n | apply q_e | apply q_r | apply bq_n | apply bq_e | apply bq_r | apply bq_o rfl)
  refine w_seq (w_blk ?_)
  by_cases hjl : j < l.length
  ·have z2 : (l.length ≤ j) = False := eq_false (by omega)
   have z3 : ((l.length : Int) ≤ (j : Int)) = False := eq_false (by omega)
   obtain ⟨cs, hcs, rfl, -⟩ := hl1 j hjl
   obtain ⟨b', o', rfl, -, cs', hcs', rfl, -⟩ := hel' j hjl
   have hr := rdn_ext hE hcs
   have hr' := rdn_ext hE hcs'
   have hle : leavesEq [.i, .s, .s, .i] ([.int .u8 l[j].kind, .string l[j].key, .string l[j].value, .int .i64 l[j].num]) ([.int .u8 l[j].kind, .string l[j].key, .string l[j].value, .int .i64 l[j].num]) = some true := by simp [leavesEq, leafEq]
   refine w_lin (fun _ => True) fun K hK => ?_
   simp (disch := omega) only [↓l_nil, ↓l_f, ↓l_t, ↓o_s, ↓o_e, ↓o_g, ↓o_ge, ↓k_ld, ↓k_ldn, isemS, ↓wD, wU, simprocAttr, f1, f5, f6, hlt, hjl, z2, z3, hr, hr', hle]
   refine ⟨(Ext.refl _).on _, ?_⟩
   refine hK _ _ ?_
   clear hK K
   refine wf ?_
   refine w_skip ?_
   (with_reducible repeat first | apply q_n | apply q_e | apply q_r | apply bq_n | apply bq_e | apply bq_r | apply bq_o rfl)
   refine w_reg1 fun K hK => ?_; simp (disch := omega) only [↓wD, wU, simprocAttr, f6]; refine hK _ _ ?_; clear hK K
   (with_reducible repeat first | apply q_n | apply q_e | apply q_r | apply bq_n | apply bq_e | apply bq_r | apply bq_o rfl)
   exact ⟨l.length + 12 - (j + 1), by omega, hE, (by simp only [wL, Nat.reduceBEq, f1]), (by simp only [wL, Nat.reduceBEq, f5]), j + 1, (by simp only [wL, Nat.reduceBEq]), by omega, rfl⟩
  ·obtain ⟨m, rfl⟩ : ∃ m, j = l.length + m := ⟨j - l.length, by omega⟩
   have hm12 : m < 12 := by omega
   have z2 : (l.length + m < l.length) = False := eq_false (by omega)
   have z3 : (l.length ≤ l.length + m) = True := eq_true (by omega)
   have hsub : (((l.length + m : Nat) : Int) - (l.length : Int)) = (m : Int) := by omega
   have hr := rdn_ext hE (hm1 m hm12)
   have hle : leavesEq [.i, .s, .s, .i] (mkA m) (mkA m) = some true := by simp [leavesEq, leafEq, mkA]
   refine w_lin (fun _ => True) fun K hK => ?_
   simp (disch := omega) only [↓l_nil, ↓l_f, ↓l_t, ↓o_s, ↓o_e, ↓o_g, ↓o_ge, ↓k_ld, ↓k_ldn, isemS, ↓wD, wU, simprocAttr, f1, f5, f6, hlt, z2, z3, hsub, hr]
   refine w_call (markAct_cl hm12) ?_
   rintro _ G ⟨rfl, hE2⟩
   simp (disch := omega) only [↓l_nil, ↓l_f, ↓l_t, ↓o_s, ↓o_e, ↓o_g, ↓o_ge, ↓k_ld, ↓k_ldn, isemS, ↓wD, wU, simprocAttr, hle]
   refine ⟨hE2.on _, ?_⟩
   refine hK _ _ ?_
   clear hK K
   refine wf ?_
   refine w_skip ?_
   (with_reducible repeat first | apply q_n | apply q_e | apply q_r | apply bq_n | apply bq_e | apply bq_r | apply bq_o rfl)
   refine w_reg1 fun K hK => ?_; simp (disch := omega) only [↓wD, wU, simprocAttr, f6]; refine hK _ _ ?_; clear hK K
   (with_reducible repeat first | apply q_n | apply q_e | apply q_r | apply bq_n | apply bq_e | apply bq_r | apply bq_o rfl)
   exact ⟨l.length + 12 - (l.length + m + 1), by omega, hE.trans hE2, (by simp only [wL, Nat.reduceBEq, f1]), (by simp only [wL, Nat.reduceBEq, f5]), l.length + m + 1, (by simp only [wL, Nat.reduceBEq]), by omega, rfl⟩
 ·refine w_reg fun K hK => ?_; simp (disch := omega) only [↓wD, wU, simprocAttr, f5, f6, hlt]; refine hK _ _ ?_; clear hK K
  refine wf ?_
  refine w_exit ?_
  (with_reducible repeat first | apply q_n | apply q_e | apply q_r | apply bq_n | apply bq_e | apply bq_r | apply bq_o rfl)
  refine w_reg fun K hK => ?_; simp (disch := omega) only [↓wD, wU, simprocAttr]; refine hK _ _ ?_; clear hK K
  refine w_ret ?_; (with_reducible repeat first | apply q_n | apply q_e | apply q_r | apply bq_n | apply bq_e | apply bq_r | apply bq_o rfl); refine ret1 (by (try simp only [wL, Nat.reduceBEq]); rfl) ?_
  exact ⟨rfl, hE⟩
set_option maxHeartbeats 4000000 in
theorem KeptReads_cl {S S' : Nat → Prop} {H : Hp} {v u : Value} {l : List Rd} (hL : Lent ElRd 3 mkR S H v l) (hu : RdSl S' H u l) (hll : l.length ≤ 1048576) : Cl Tryz.prog 132 [v, u] H fun r H' => r = .bool true ∧ Ext H H' := by
 refine cl_of mixed c_watershedkit_KeptReads (Nat.le_of_ble_eq_true rfl) ?_
 simp only [fwp, ir_watershedkit_KeptReads, argF, Nat.reduceAdd]
 obtain ⟨h0, b, c, rfl, hc, hSb, hl1, hm1⟩ := hL
 obtain ⟨a', c', rfl, -, -, hel'⟩ := SlP.open hu
 have hb1 : bounds3 l.length c none (some (.int .i64 ((l.length : Int) + 12))) none = some (0, l.length + 12, c) := b3_01 (by rw [bd_ok (by omega) (by omega)]; congr 1)
 have hc0 : (c = 0) = False := eq_false (by omega)
 refine w_reg fun K hK => ?_; simp (disch := omega) only [↓wD, wU, simprocAttr]; refine hK _ _ ?_; clear hK K
 refine w_seq (w_seq ?_)
 refine w_reg fun K hK => ?_; simp (disch := omega) only [↓wD, wU, simprocAttr]; refine hK _ _ ?_; clear hK K
 refine wf ?_
 refine w_skip ?_
 (with_reducible repeat first | apply q_n | apply q_e | apply q_r | apply bq_n | apply bq_e | apply bq_r | apply bq_o rfl)
 refine w_reg fun K hK => ?_; simp (disch := omega) only [↓wD, wU, simprocAttr, hb1, hc0, Nat.sub_zero, Nat.mul_zero, Nat.zero_mul, Nat.add_zero]; refine hK _ _ ?_; clear hK K
 refine w_seq (w_seq ?_)
 refine w_reg fun K hK => ?_; simp (disch := omega) only [↓wD, wU, simprocAttr]; refine hK _ _ ?_; clear hK K
 refine w_blk (w_loop (fun n f A => Ext H A ∧ f 1 = .slice a' l.length c' ∧ f 5 = .slice (some ⟨b, 0, none⟩) (l.length + 12) c ∧ ∃ j : Nat, f 6 = .int .i64 j ∧ j ≤ l.length + 12 ∧ n = l.length + 12 - j) _ ⟨Ext.refl _, (by simp only [wL, Nat.reduceBEq]), (by simp only [wL, Nat.reduceBEq]), 0, (by simp only [wL, Nat.reduceBEq]; rfl), Nat.zero_le _, rfl⟩ ?_)
 rintro n f A ⟨hE, f1, f5, j, f6, hj, rfl⟩
 refine w_seq (w_seq ?_)
 by_cases hlt : j < l.length + 12
 ·refine w_reg fun K hK => ?_; simp (disch := omega) only [↓wD, wU, simprocAttr, f5, f6, hlt]; refine hK _ _ ?_; clear hK K
  refine wt ?_
  refine w_skip ?_
  (with_reducible repeat first | apply q_n | apply q_e | apply q_r | apply bq_n | apply bq_e | apply bq_r | apply bq_o rfl)
  refine w_seq (w_blk ?_)
  by_cases hjl : j < l.length
  ·have z2 : (l.length ≤ j) = False := eq_false (by omega)
   have z3 : ((l.length : Int) ≤ (j : Int)) = False := eq_false (by omega)
   obtain ⟨cs, hcs, rfl, -⟩ := hl1 j hjl
   obtain ⟨b', o', rfl, -, cs', hcs', rfl, -⟩ := hel' j hjl
   have hr := rdn_ext hE hcs
   have hr' := rdn_ext hE hcs'
   have hle : leavesEq [.s, .b, .s] ([.string l[j].key, .bool l[j].is, .string l[j].value]) ([.string l[j].key, .bool l[j].is, .string l[j].value]) = some true := by simp [leavesEq, leafEq]
   refine w_lin (fun _ => True) fun K hK => ?_
   simp (disch := omega) only [↓l_nil, ↓l_f, ↓l_t, ↓o_s, ↓o_e, ↓o_g, ↓o_ge, ↓k_ld, ↓k_ldn, isemS, ↓wD, wU, simprocAttr, f1, f5, f6, hlt, hjl, z2, z3, hr, hr', hle]
   refine ⟨(Ext.refl _).on _, ?_⟩
   refine hK _ _ ?_
   clear hK K
   refine wf ?_
   refine w_skip ?_
   (with_reducible repeat first | apply q_n | apply q_e | apply q_r | apply bq_n | apply bq_e | apply bq_r | apply bq_o rfl)
   refine w_reg1 fun K hK => ?_; simp (disch := omega) only [↓wD, wU, simprocAttr, f6]; refine hK _ _ ?_; clear hK K
   (with_reducible repeat first | apply q_n | apply q_e | apply q_r | apply bq_n | apply bq_e | apply bq_r | apply bq_o rfl)
   exact ⟨l.length + 12 - (j + 1), by omega, hE, (by simp only [wL, Nat.reduceBEq, f1]), (by simp only [wL, Nat.reduceBEq, f5]), j + 1, (by simp only [wL, Nat.reduceBEq]), by omega, rfl⟩
  ·obtain ⟨m, rfl⟩ : ∃ m, j = l.length + m := ⟨j - l.length, by omega⟩
   have hm12 : m < 12 := by omega
   have z2 : (l.length + m < l.length) = False := eq_false (by omega)
   have z3 : (l.length ≤ l.length + m) = True := eq_true (by omega)
   have hsub : (((l.length + m : Nat) : Int) - (l.length : Int)) = (m : Int) := by omega
   have hr := rdn_ext hE (hm1 m hm12)
   have hle : leavesEq [.s, .b, .s] (mkR m) (mkR m) = some true := by simp [leavesEq, leafEq, mkR]
   refine w_lin (fun _ => True) fun K hK => ?_
   simp (disch := omega) only [↓l_nil, ↓l_f, ↓l_t, ↓o_s, ↓o_e, ↓o_g, ↓o_ge, ↓k_ld, ↓k_ldn, isemS, ↓wD, wU, simprocAttr, f1, f5, f6, hlt, z2, z3, hsub, hr]
   refine w_call (markRead_cl hm12) ?_
   rintro _ G ⟨rfl, hE2⟩
   simp (disch := omega) only [↓l_nil, ↓l_f, ↓l_t, ↓o_s, ↓o_e, ↓o_g, ↓o_ge, ↓k_ld, ↓k_ldn, isemS, ↓wD, wU, simprocAttr, hle]
   refine ⟨hE2.on _, ?_⟩
   refine hK _ _ ?_
   clear hK K
   refine wf ?_
   refine w_skip ?_
   (with_reducible repeat first | apply q_n | apply q_e | apply q_r | apply bq_n | apply bq_e | apply bq_r | apply bq_o rfl)
   refine w_reg1 fun K hK => ?_; simp (disch := omega) only [↓wD, wU, simprocAttr, f6]; refine hK _ _ ?_; clear hK K
   (with_reducible repeat first | apply q_n | apply q_e | apply q_r | apply bq_n | apply bq_e | apply bq_r | apply bq_o rfl)
   exact ⟨l.length + 12 - (l.length + m + 1), by omega, hE.trans hE2, (by simp only [wL, Nat.reduceBEq, f1]), (by simp only [wL, Nat.reduceBEq, f5]), l.length + m + 1, (by simp only [wL, Nat.reduceBEq]), by omega, rfl⟩
 ·refine w_reg fun K hK => ?_; simp (disch := omega) only [↓wD, wU, simprocAttr, f5, f6, hlt]; refine hK _ _ ?_; clear hK K
  refine wf ?_
  refine w_exit ?_
  (with_reducible repeat first | apply q_n | apply q_e | apply q_r | apply bq_n | apply bq_e | apply bq_r | apply bq_o rfl)
  refine w_reg fun K hK => ?_; simp (disch := omega) only [↓wD, wU, simprocAttr]; refine hK _ _ ?_; clear hK K
  refine w_ret ?_; (with_reducible repeat first | apply q_n | apply q_e | apply q_r | apply bq_n | apply bq_e | apply bq_r | apply bq_o rfl); refine ret1 (by (try simp only [wL, Nat.reduceBEq]); rfl) ?_
  exact ⟨rfl, hE⟩
end Go.WK
/-
 What was lent has stayed: holds.
-/
namespace Go.WK
open Go Go.Proofs

theorem KeptHold_cl {S S' : Nat → Prop} {H : Hp} {cs cs' : List Value} {h : Hd} (hL : ElHdL S H cs h) (hu : ElHd S' H cs' h) (hla : h.acts.length ≤ 1048576) (hlr : h.reads.length ≤ 1048576) : Cl Tryz.prog 73 [.agg cs.toArray, .agg cs'.toArray] H fun r H' => r = .bool true ∧ Ext H H' := by
 refine cl_of mixed c_watershedkit_KeptHold (Nat.le_of_ble_eq_true rfl) ?_
 simp only [fwp, ir_watershedkit_KeptHold, argF, Nat.reduceAdd]
 have hd := hL.hd
 obtain ⟨va, vr, rfl, ha, hr, -⟩ := id hL
 obtain ⟨va', vr', rfl, ha', hr', -⟩ := id hu
 obtain ⟨-, ba, ca, rfl, -⟩ := id ha
 obtain ⟨-, br, cr, rfl, -⟩ := id hr
 obtain ⟨aa, ac, rfl, -⟩ := SlP.form ha'
 obtain ⟨ra, rc, rfl, -⟩ := SlP.form hr'
 refine w_reg fun K hK => ?_; simp (disch := omega) only [↓wD, wU, simprocAttr]; refine hK _ _ ?_; clear hK K
 have hE1 : Ext H (H.push (.cells #[.string h.key, .int .i64 h.name.client, .int .i64 h.name.num, .slice (some ⟨ba, 0, none⟩) h.acts.length ca, .slice (some ⟨br, 0, none⟩) h.reads.length cr, .bool h.put, .string h.value] 35)) := (Ext.refl _).push _
 have hr1 : rdn (H.push (.cells #[.string h.key, .int .i64 h.name.client, .int .i64 h.name.num, .slice (some ⟨ba, 0, none⟩) h.acts.length ca, .slice (some ⟨br, 0, none⟩) h.reads.length cr, .bool h.put, .string h.value] 35)) H.size 0 7 = some [.string h.key, .int .i64 h.name.client, .int .i64 h.name.num, .slice (some ⟨ba, 0, none⟩) h.acts.length ca, .slice (some ⟨br, 0, none⟩) h.reads.length cr, .bool h.put, .string h.value] := rdn_new H _ 35 0 7 (Nat.le_refl _)
 have hs1 : (H.push (.cells #[.string h.key, .int .i64 h.name.client, .int .i64 h.name.num, .slice (some ⟨ba, 0, none⟩) h.acts.length ca, .slice (some ⟨br, 0, none⟩) h.reads.length cr, .bool h.put, .string h.value] 35)).size = H.size + 1 := by simp
 generalize H.push (.cells #[.string h.key, .int .i64 h.name.client, .int .i64 h.name.num, .slice (some ⟨ba, 0, none⟩) h.acts.length ca, .slice (some ⟨br, 0, none⟩) h.reads.length cr, .bool h.put, .string h.value] 35) = H1 at hE1 hr1 hs1 ⊢
 rw [← hs1]
 have hE2 : Ext H1 (H1.push (.cells #[.string h.key, .int .i64 h.name.client, .int .i64 h.name.num, .slice aa h.acts.length ac, .slice ra h.reads.length rc, .bool h.put, .string h.value] 35)) := (Ext.refl _).push _
 have hr2 : rdn (H1.push (.cells #[.string h.key, .int .i64 h.name.client, .int .i64 h.name.num, .slice aa h.acts.length ac, .slice ra h.reads.length rc, .bool h.put, .string h.value] 35)) H1.size 0 7 = some [.string h.key, .int .i64 h.name.client, .int .i64 h.name.num, .slice aa h.acts.length ac, .slice ra h.reads.length rc, .bool h.put, .string h.value] := rdn_new H1 _ 35 0 7 (Nat.le_refl _)
 generalize H1.push (.cells #[.string h.key, .int .i64 h.name.client, .int .i64 h.name.num, .slice aa h.acts.length ac, .slice ra h.reads.length rc, .bool h.put, .string h.value] 35) = H2 at hE2 hr2 ⊢
 have hr1' := rdn_ext hE2 hr1
 have hE := hE1.trans hE2
 refine w_reg fun K hK => ?_
 simp (disch := omega) only [↓wD, wU, simprocAttr, hr1', hr2]
 refine w_call (SameHold_cl (hd.ext hE) (hu.ext hE)) ?_
 rintro _ H3 ⟨rfl, hE3⟩
 obtain ⟨-, -, -, x3, x4, -⟩ := rdn7 (rdn_ext hE3 hr1')
 obtain ⟨-, -, -, y3, y4, -⟩ := rdn7 (rdn_ext hE3 hr2)
 simp only [Nat.zero_add] at x3 x4 y3 y4
 have hEE := hE.trans hE3
 have e0 : decide (h = h) = true := by simp
 rw [e0]
 simp (disch := omega) only [↓wD, wU, simprocAttr, x3, x4, y3, y4]
 refine w_call (KeptActs_cl (ha.mono (by decide) (fun _ h => h) (fun b _ hb => hEE.2 b hb) fun _ _ _ h => h) (ha'.mono (fun _ h => h) (fun b _ hb => hEE.2 b hb) fun _ _ _ h => h) hla) ?_
 rintro _ H4 ⟨rfl, hE4⟩
 obtain ⟨-, -, -, x3, x4, -⟩ := rdn7 (rdn_ext (hE3.trans hE4) hr1')
 obtain ⟨-, -, -, y3, y4, -⟩ := rdn7 (rdn_ext (hE3.trans hE4) hr2)
 simp only [Nat.zero_add] at x3 x4 y3 y4
 have hEF := hEE.trans hE4
 simp (disch := omega) only [↓wD, wU, simprocAttr, x3, x4, y3, y4]
 refine w_call (KeptReads_cl (hr.mono (by decide) (fun _ h => h) (fun b _ hb => hEF.2 b hb) fun _ _ _ h => h) (hr'.mono (fun _ h => h) (fun b _ hb => hEF.2 b hb) fun _ _ _ h => h) hlr) ?_
 rintro _ H5 ⟨rfl, hE5⟩
 simp (disch := omega) only [↓wD, wU, simprocAttr]
 refine hK _ _ ?_
 clear hK K
 refine w_ret ?_; (with_reducible repeat first | apply q_n | apply q_e | apply q_r | apply bq_n | apply bq_e | apply bq_r | apply bq_o rfl); refine ret1 (by (try simp only [wL, Nat.reduceBEq]); rfl) ?_
 exact ⟨rfl, hEF.trans hE5⟩
theorem mkH_el (S : Nat → Prop) (H : Hp) (m : Nat) : ElHd S H (mkH m) ⟨mkT m, ⟨0, 0⟩, [], [], false, .empty⟩ :=
 ⟨.slice none 0 0, .slice none 0 0, rfl, ⟨Nat.zero_le _, .inl ⟨none, rfl, rfl⟩⟩, ⟨Nat.zero_le _, .inl ⟨none, rfl, rfl⟩⟩, ⟨⟨by simp only; omega, by simp only; omega⟩, ⟨by simp only; omega, by simp only; omega⟩⟩, mkT_sz m, show Sz .empty by unfold Sz; decide⟩
theorem KeptHolds_cl {S S' : Nat → Prop} {H : Hp} {v u : Value} {l : List Hd} (hL : Lent (ElHdL S H) 7 mkH S H v l) (hu : HdSl S' H u l) (hll : l.length ≤ 1048576) (hla : ∀ h ∈ l, h.acts.length ≤ 1048576 ∧ h.reads.length ≤ 1048576) : Cl Tryz.prog 27 [v, u] H fun r H' => r = .bool true ∧ Ext H H' := by
 refine cl_of mixed c_watershedkit_KeptHolds (Nat.le_of_ble_eq_true rfl) ?_
 simp only [fwp, ir_watershedkit_KeptHolds, argF, Nat.reduceAdd]
 obtain ⟨h0, b, c, rfl, hc, hSb, hl1, hm1⟩ := hL
 obtain ⟨a', c', rfl, -, -, hel'⟩ := SlP.open hu
 have hb1 : bounds3 l.length c none (some (.int .i64 ((l.length : Int) + 12))) none = some (0, l.length + 12, c) := b3_01 (by rw [bd_ok (by omega) (by omega)]; congr 1)
 have hc0 : (c = 0) = False := eq_false (by omega)
 refine w_reg fun K hK => ?_; simp (disch := omega) only [↓wD, wU, simprocAttr]; refine hK _ _ ?_; clear hK K
 refine w_seq (w_seq ?_)
 refine w_reg fun K hK => ?_; simp (disch := omega) only [↓wD, wU, simprocAttr]; refine hK _ _ ?_; clear hK K
 refine wf ?_
 refine w_skip ?_
 (with_reducible repeat first | apply q_n | apply q_e | apply q_r | apply bq_n | apply bq_e | apply bq_r | apply bq_o rfl)
 refine w_reg fun K hK => ?_; simp (disch := omega) only [↓wD, wU, simprocAttr, hb1, hc0, Nat.sub_zero, Nat.mul_zero, Nat.zero_mul, Nat.add_zero]; refine hK _ _ ?_; clear hK K
 refine w_seq (w_seq ?_)
 refine w_reg fun K hK => ?_; simp (disch := omega) only [↓wD, wU, simprocAttr]; refine hK _ _ ?_; clear hK K
 refine w_blk (w_loop (fun n f A => Ext H A ∧ f 1 = .slice a' l.length c' ∧ f 5 = .slice (some ⟨b, 0, none⟩) (l.length + 12) c ∧ ∃ j : Nat, f 6 = .int .i64 j ∧ j ≤ l.length + 12 ∧ n = l.length + 12 - j) _ ⟨Ext.refl _, (by simp only [wL, Nat.reduceBEq]), (by simp only [wL, Nat.reduceBEq]), 0, (by simp only [wL, Nat.reduceBEq]; rfl), Nat.zero_le _, rfl⟩ ?_)
 rintro n f A ⟨hE, f1, f5, j, f6, hj, rfl⟩
 refine w_seq (w_seq ?_)
 by_cases hlt : j < l.length + 12
 ·refine w_reg fun K hK => ?_; simp (disch := omega) only [↓wD, wU, simprocAttr, f5, f6, hlt]; refine hK _ _ ?_; clear hK K
  refine wt ?_
  refine w_skip ?_
  (with_reducible repeat first | apply q_n | apply q_e | apply q_r | apply bq_n | apply bq_e | apply bq_r | apply bq_o rfl)
  refine w_seq (w_blk ?_)
  by_cases hjl : j < l.length
  ·have z2 : (l.length ≤ j) = False := eq_false (by omega)
   have z3 : ((l.length : Int) ≤ (j : Int)) = False := eq_false (by omega)
   obtain ⟨cs, hcs, he⟩ := hl1 j hjl
   obtain ⟨b', o', rfl, -, cs', hcs', he'⟩ := hel' j hjl
   have hr := rdn_ext hE hcs
   have hr' := rdn_ext hE hcs'
   have hlaj := hla _ (List.getElem_mem hjl)
   refine w_lin (fun _ => True) fun K hK => ?_
   simp (disch := omega) only [↓l_nil, ↓l_f, ↓l_t, ↓o_s, ↓o_e, ↓o_g, ↓o_ge, ↓k_ld, ↓k_ldn, isemS, ↓wD, wU, simprocAttr, f1, f5, f6, hlt, hjl, z2, z3, hr, hr']
   refine w_call (KeptHold_cl (he.mono (fun _ h => h) fun b _ hb => hE.2 b hb) (he'.ext hE) hlaj.1 hlaj.2) ?_
   rintro _ G ⟨rfl, hE2⟩
   simp (disch := omega) only [↓l_nil, ↓l_f, ↓l_t, ↓o_s, ↓o_e, ↓o_g, ↓o_ge, ↓k_ld, ↓k_ldn, isemS, ↓wD, wU, simprocAttr, f1, f5, f6, hlt, hjl, z2, z3]
   refine ⟨(Ext.refl _).on _, (Ext.refl _).on _, ?_⟩
   refine hK _ _ ?_
   clear hK K
   refine wf ?_
   refine w_skip ?_
   (with_reducible repeat first | apply q_n | apply q_e | apply q_r | apply bq_n | apply bq_e | apply bq_r | apply bq_o rfl)
   refine w_reg1 fun K hK => ?_; simp (disch := omega) only [↓wD, wU, simprocAttr, f6]; refine hK _ _ ?_; clear hK K
   (with_reducible repeat first | apply q_n | apply q_e | apply q_r | apply bq_n | apply bq_e | apply bq_r | apply bq_o rfl)
   exact ⟨l.length + 12 - (j + 1), by omega, hE.trans hE2, (by simp only [wL, Nat.reduceBEq, f1]), (by simp only [wL, Nat.reduceBEq, f5]), j + 1, (by simp only [wL, Nat.reduceBEq]), by omega, rfl⟩
  ·obtain ⟨m, rfl⟩ : ∃ m, j = l.length + m := ⟨j - l.length, by omega⟩
   have hm12 : m < 12 := by omega
   have z2 : (l.length + m < l.length) = False := eq_false (by omega)
   have z3 : (l.length ≤ l.length + m) = True := eq_true (by omega)
   have hsub : (((l.length + m : Nat) : Int) - (l.length : Int)) = (m : Int) := by omega
   have hr := rdn_ext hE (hm1 m hm12)
   have e0 : decide ((⟨mkT m, ⟨0, 0⟩, [], [], false, .empty⟩ : Hd) = ⟨mkT m, ⟨0, 0⟩, [], [], false, .empty⟩) = true := decide_eq_true rfl
   refine w_lin (fun _ => True) fun K hK => ?_
   simp (disch := omega) only [↓l_nil, ↓l_f, ↓l_t, ↓o_s, ↓o_e, ↓o_g, ↓o_ge, ↓k_ld, ↓k_ldn, isemS, ↓wD, wU, simprocAttr, f1, f5, f6, hlt, z2, z3, hsub, hr]
   refine w_call (markHold_cl hm12) ?_
   rintro _ G ⟨rfl, hE2⟩
   simp (disch := omega) only [↓l_nil, ↓l_f, ↓l_t, ↓o_s, ↓o_e, ↓o_g, ↓o_ge, ↓k_ld, ↓k_ldn, isemS, ↓wD, wU, simprocAttr]
   refine ⟨hE2.on _, ?_⟩
   refine w_call (SameHold_cl (mkH_el S G m) (mkH_el S G m)) ?_
   rintro _ G3 ⟨rfl, hE3⟩
   rw [e0]
   simp (disch := omega) only [↓l_nil, ↓l_f, ↓l_t, ↓o_s, ↓o_e, ↓o_g, ↓o_ge, ↓k_ld, ↓k_ldn, isemS, ↓wD, wU, simprocAttr]
   refine ⟨hE3.on _, ?_⟩
   refine hK _ _ ?_
   clear hK K
   refine wf ?_
   refine w_skip ?_
   (with_reducible repeat first | apply q_n | apply q_e | apply q_r | apply bq_n | apply bq_e | apply bq_r | apply bq_o rfl)
   refine w_reg1 fun K hK => ?_; simp (disch := omega) only [↓wD, wU, simprocAttr, f6]; refine hK _ _ ?_; clear hK K
   (with_reducible repeat first | apply q_n | apply q_e | apply q_r | apply bq_n | apply bq_e | apply bq_r | apply bq_o rfl)
   exact ⟨l.length + 12 - (l.length + m + 1), by omega, hE.trans (hE2.trans hE3), (by simp only [wL, Nat.reduceBEq, f1]), (by simp only [wL, Nat.reduceBEq, f5]), l.length + m + 1, (by simp only [wL, Nat.reduceBEq]), by omega, rfl⟩
 ·refine w_reg fun K hK => ?_; simp (disch := omega) only [↓wD, wU, simprocAttr, f5, f6, hlt]; refine hK _ _ ?_; clear hK K
  refine wf ?_
  refine w_exit ?_
  (with_reducible repeat first | apply q_n | apply q_e | apply q_r | apply bq_n | apply bq_e | apply bq_r | apply bq_o rfl)
  refine w_reg fun K hK => ?_; simp (disch := omega) only [↓wD, wU, simprocAttr]; refine hK _ _ ?_; clear hK K
  refine w_ret ?_; (with_reducible repeat first | apply q_n | apply q_e | apply q_r | apply bq_n | apply bq_e | apply bq_r | apply bq_o rfl); refine ret1 (by (try simp only [wL, Nat.reduceBEq]); rfl) ?_
  exact ⟨rfl, hE⟩
theorem SameBytes_cl {S S' : Nat → Prop} {H : Hp} {v u : Value} {l m : List UInt8} (hv : BSl S H v l) (hu : BSl S' H u m) : Cl Tryz.prog 24 [v, u] H fun r H' => r = .bool (decide (l = m)) ∧ H' = H := by
 refine cl_of mixed c_watershedkit_SameBytes (Nat.le_of_ble_eq_true rfl) ?_
 simp only [fwp, ir_watershedkit_SameBytes, argF, Nat.reduceAdd]
 obtain ⟨a, c, rfl, hc, hl, hel⟩ := SlP.open hv
 obtain ⟨a', c', rfl, hc', hl', hel'⟩ := SlP.open hu
 clear hv hu
 refine w_reg fun K hK => ?_; simp (disch := omega) only [↓wD, wU, simprocAttr]; refine hK _ _ ?_; clear hK K
 refine w_seq (w_seq ?_)
 by_cases hlen : l.length = m.length
 ·refine w_reg fun K hK => ?_; simp (disch := omega) only [↓wD, wU, simprocAttr, hlen]; refine hK _ _ ?_; clear hK K
  refine wf ?_
  refine w_skip ?_
  (with_reducible repeat first | apply q_n | apply q_e | apply q_r | apply bq_n | apply bq_e | apply bq_r | apply bq_o rfl)
  refine w_seq (w_seq ?_)
  refine w_reg fun K hK => ?_; simp (disch := omega) only [↓wD, wU, simprocAttr]; refine hK _ _ ?_; clear hK K
  refine w_blk (w_loop (fun n f H' => H' = H ∧ f 0 = .slice a l.length c ∧ f 1 = .slice a' m.length c' ∧ ∃ (i : Nat), f 5 = .int .i64 i ∧ i ≤ l.length ∧ (∀ j (hj : j < l.length) (hm : j < m.length), j < i → l[j] = m[j]) ∧ n = l.length - i) _ ⟨rfl, by simp only [wL, Nat.reduceBEq, hlen], by simp only [wL, Nat.reduceBEq], 0, (by simp only [wL, Nat.reduceBEq]; rfl), Nat.zero_le _, fun j hj hm h => by omega, rfl⟩ ?_)
  rintro n f H' ⟨rfl, f0, f1, i, f5, hi, hsame, rfl⟩
  refine w_seq (w_seq ?_)
  by_cases hlt : i < l.length
  ·have hlt' : i < m.length := by omega
   obtain ⟨b, o, rfl, hS, cs, hcs, rfl⟩ := hel i hlt
   obtain ⟨b', o', rfl, hS', cs', hcs', rfl⟩ := hel' i hlt'
   have hcl := rdn1 hcs
   have hcl' := rdn1 hcs'
   rw [Nat.mul_one] at hcl hcl'
   refine w_reg fun K hK => ?_; simp (disch := omega) only [↓wD, wU, simprocAttr, f0, f5, hlt]; refine hK _ _ ?_; clear hK K
   refine wt ?_
   refine w_skip ?_
   (with_reducible repeat first | apply q_n | apply q_e | apply q_r | apply bq_n | apply bq_e | apply bq_r | apply bq_o rfl)
   refine w_seq (w_blk ?_)
   refine w_seq ?_
   by_cases heq : l[i] = m[i]
   ·refine w_reg fun K hK => ?_; simp (disch := omega) only [↓wD, wU, simprocAttr, f0, f1, f5, hlt, hlt', hcl, hcl', heq, Nat.mul_one]; refine hK _ _ ?_; clear hK K
    refine wf ?_
    refine w_skip ?_
    (with_reducible repeat first | apply q_n | apply q_e | apply q_r | apply bq_n | apply bq_e | apply bq_r | apply bq_o rfl)
    refine w_reg1 fun K hK => ?_; simp (disch := omega) only [↓wD, wU, simprocAttr, f5]; refine hK _ _ ?_; clear hK K
    (with_reducible repeat first | apply q_n | apply q_e | apply q_r | apply bq_n | apply bq_e | apply bq_r | apply bq_o rfl)
    refine ⟨l.length - (i + 1), by omega, rfl, (by simp only [wL, Nat.reduceBEq, f0]), (by simp only [wL, Nat.reduceBEq, f1]), i + 1, (by simp only [wL, Nat.reduceBEq]), by omega, fun j hj hm h => ?_, rfl⟩
    by_cases hji : j = i
    ·subst hji; exact heq
    ·exact hsame j hj hm (by omega)
   ·have hne : (((l[i]).toNat : Int) = ((m[i]).toNat : Int)) = False := eq_false fun e => heq (UInt8.toNat_inj.1 (by omega))
    have hne' : ((l[i]).toNat = (m[i]).toNat) = False := eq_false fun e => heq (UInt8.toNat_inj.1 e)
    refine w_reg fun K hK => ?_; simp (disch := omega) only [↓wD, wU, simprocAttr, f0, f1, f5, hlt, hlt', hcl, hcl', hne, hne', Nat.mul_one]; refine hK _ _ ?_; clear hK K
    refine wt ?_
    refine w_reg fun K hK => ?_; simp (disch := omega) only [↓wD, wU, simprocAttr]; refine hK _ _ ?_; clear hK K
    refine w_ret ?_; (with_reducible repeat first | apply q_n | apply q_e | apply q_r | apply bq_n | apply bq_e | apply bq_r | apply bq_o rfl); refine ret1 (by (try simp only [wL, Nat.reduceBEq]); rfl) ?_
    refine ⟨?_, rfl⟩
    have : ¬ l = m := fun e => heq (by subst e; rfl)
    simp [this]
  ·refine w_reg fun K hK => ?_; simp (disch := omega) only [↓wD, wU, simprocAttr, f0, f5, hlt]; refine hK _ _ ?_; clear hK K
   refine wf ?_
   refine w_exit ?_
   (with_reducible repeat first | apply q_n | apply q_e | apply q_r | apply bq_n | apply bq_e | apply bq_r | apply bq_o rfl)
   refine w_reg fun K hK => ?_; simp (disch := omega) only [↓wD, wU, simprocAttr]; refine hK _ _ ?_; clear hK K
   refine w_ret ?_; (with_reducible repeat first | apply q_n | apply q_e | apply q_r | apply bq_n | apply bq_e | apply bq_r | apply bq_o rfl); refine ret1 (by (try simp only [wL, Nat.reduceBEq]); rfl) ?_
   have : l = m := List.ext_getElem hlen fun j hj hm => hsame j hj hm (by omega)
   refine ⟨?_, rfl⟩
   simp [this]
 ·have hlen' : ((l.length : Int) = (m.length : Int)) = False := by simp; omega
  refine w_reg fun K hK => ?_; simp (disch := omega) only [↓wD, wU, simprocAttr, hlen, hlen']; refine hK _ _ ?_; clear hK K
  refine wt ?_
  refine w_reg fun K hK => ?_; simp (disch := omega) only [↓wD, wU, simprocAttr]; refine hK _ _ ?_; clear hK K
  refine w_ret ?_; (with_reducible repeat first | apply q_n | apply q_e | apply q_r | apply bq_n | apply bq_e | apply bq_r | apply bq_o rfl); refine ret1 (by (try simp only [wL, Nat.reduceBEq]); rfl) ?_
  refine ⟨?_, rfl⟩
  have : ¬ l = m := fun e => hlen (by rw [e])
  simp [this]
end Go.WK
/-
 SameHolds and Take.
-/
namespace Go.WK
open Go Go.Proofs

theorem SameHolds_cl {S S' : Nat → Prop} {H : Hp} {v u : Value} {l m : List Hd} (hv : HdSl S H v l) (hu : HdSl S' H u m) : Cl Tryz.prog 31 [v, u] H fun r H' => r = .bool (decide (l = m)) ∧ Ext H H' := by
 refine cl_of mixed c_watershedkit_SameHolds (Nat.le_of_ble_eq_true rfl) ?_
 simp only [fwp, ir_watershedkit_SameHolds, argF, Nat.reduceAdd]
 obtain ⟨a, c, rfl, hc, hl, hel⟩ := SlP.open hv
 obtain ⟨a', c', rfl, hc', hl', hel'⟩ := SlP.open hu
 clear hv hu
 refine w_reg fun K hK => ?_; simp (disch := omega) only [↓wD, wU, simprocAttr]; refine hK _ _ ?_; clear hK K
 refine w_seq (w_seq ?_)
 by_cases hlen : l.length = m.length
 ·refine w_reg fun K hK => ?_; simp (disch := omega) only [↓wD, wU, simprocAttr, hlen]; refine hK _ _ ?_; clear hK K
  refine wf ?_
  refine w_skip ?_
  (with_reducible repeat first | apply q_n | apply q_e | apply q_r | apply bq_n | apply bq_e | apply bq_r | apply bq_o rfl)
  refine w_seq (w_seq ?_)
  refine w_reg fun K hK => ?_; simp (disch := omega) only [↓wD, wU, simprocAttr]; refine hK _ _ ?_; clear hK K
  refine w_blk (w_loop (fun n f H' => Ext H H' ∧ f 0 = .slice a l.length c ∧ f 1 = .slice a' m.length c' ∧ ∃ (i : Nat), f 5 = .int .i64 i ∧ i ≤ l.length ∧ (∀ j (hj : j < l.length) (hm : j < m.length), j < i → l[j] = m[j]) ∧ n = l.length - i) _ ⟨Ext.refl _, by simp only [wL, Nat.reduceBEq, hlen], by simp only [wL, Nat.reduceBEq], 0, rfl, Nat.zero_le _, fun j hj hm h => by omega, rfl⟩ ?_)
  rintro n f H' ⟨hE, f0, f1, i, f5, hi, hsame, rfl⟩
  refine w_seq (w_seq ?_)
  by_cases hlt : i < l.length
  ·have hlt' : i < m.length := by omega
   obtain ⟨b, o, rfl, hS, cs, hcs, he⟩ := hel i hlt
   obtain ⟨b', o', rfl, hS', cs', hcs', he'⟩ := hel' i hlt'
   have hcs1 := rdn_ext hE hcs
   have hcs1' := rdn_ext hE hcs'
   refine w_reg fun K hK => ?_; simp (disch := omega) only [↓wD, wU, simprocAttr, f0, f5, hlt]; refine hK _ _ ?_; clear hK K
   refine wt ?_
   refine w_skip ?_
   (with_reducible repeat first | apply q_n | apply q_e | apply q_r | apply bq_n | apply bq_e | apply bq_r | apply bq_o rfl)
   refine w_seq (w_blk ?_)
   refine w_seq ?_
   refine w_reg fun K hK => ?_
   simp (disch := omega) only [↓wD, wU, simprocAttr, f0, f1, f5, hlt, hlt', hcs1, hcs1']
   refine w_call (SameHold_cl (he.ext hE) (he'.ext hE)) ?_
   rintro _ H2 ⟨rfl, hE2⟩
   by_cases heq : l[i] = m[i]
   ·simp (disch := omega) only [↓wD, wU, simprocAttr, heq, decide_true]
    refine hK _ _ ?_
    clear hK K
    refine wf ?_
    refine w_skip ?_
    (with_reducible repeat first | apply q_n | apply q_e | apply q_r | apply bq_n | apply bq_e | apply bq_r | apply bq_o rfl)
    refine w_reg1 fun K hK => ?_; simp (disch := omega) only [↓wD, wU, simprocAttr, f5]; refine hK _ _ ?_; clear hK K
    (with_reducible repeat first | apply q_n | apply q_e | apply q_r | apply bq_n | apply bq_e | apply bq_r | apply bq_o rfl)
    refine ⟨l.length - (i + 1), by omega, hE.trans hE2, (by simp only [wL, Nat.reduceBEq, f0]), (by simp only [wL, Nat.reduceBEq, f1]), i + 1, (by simp only [wL, Nat.reduceBEq]), by omega, fun j hj hm h => ?_, rfl⟩
    by_cases hji : j = i
    ·subst hji; exact heq
    ·exact hsame j hj hm (by omega)
   ·simp (disch := omega) only [↓wD, wU, simprocAttr, heq, decide_false]
    refine hK _ _ ?_
    clear hK K
    refine wt ?_
    refine w_reg fun K hK => ?_; simp (disch := omega) only [↓wD, wU, simprocAttr]; refine hK _ _ ?_; clear hK K
    refine w_ret ?_; (with_reducible repeat first | apply q_n | apply q_e | apply q_r | apply bq_n | apply bq_e | apply bq_r | apply bq_o rfl); refine ret1 (by (try simp only [wL, Nat.reduceBEq]); rfl) ?_
    refine ⟨?_, hE.trans hE2⟩
    have : ¬ l = m := fun e => heq (by subst e; rfl)
    simp [this]
  ·refine w_reg fun K hK => ?_; simp (disch := omega) only [↓wD, wU, simprocAttr, f0, f5, hlt]; refine hK _ _ ?_; clear hK K
   refine wf ?_
   refine w_exit ?_
   (with_reducible repeat first | apply q_n | apply q_e | apply q_r | apply bq_n | apply bq_e | apply bq_r | apply bq_o rfl)
   refine w_reg fun K hK => ?_; simp (disch := omega) only [↓wD, wU, simprocAttr]; refine hK _ _ ?_; clear hK K
   refine w_ret ?_; (with_reducible repeat first | apply q_n | apply q_e | apply q_r | apply bq_n | apply bq_e | apply bq_r | apply bq_o rfl); refine ret1 (by (try simp only [wL, Nat.reduceBEq]); rfl) ?_
   have : l = m := List.ext_getElem hlen fun j hj hm => hsame j hj hm (by omega)
   refine ⟨?_, hE⟩
   simp [this]
 ·have hlen' : ((l.length : Int) = (m.length : Int)) = False := by simp; omega
  refine w_reg fun K hK => ?_; simp (disch := omega) only [↓wD, wU, simprocAttr, hlen, hlen']; refine hK _ _ ?_; clear hK K
  refine wt ?_
  refine w_reg fun K hK => ?_; simp (disch := omega) only [↓wD, wU, simprocAttr]; refine hK _ _ ?_; clear hK K
  refine w_ret ?_; (with_reducible repeat first | apply q_n | apply q_e | apply q_r | apply bq_n | apply bq_e | apply bq_r | apply bq_o rfl); refine ret1 (by (try simp only [wL, Nat.reduceBEq]); rfl) ?_
  refine ⟨?_, Ext.refl _⟩
  have : ¬ l = m := fun e => hlen (by rw [e])
  simp [this]
/-- What Take asks. -/
theorem take_fn {M G : Nat → Prop} {H : Hp} {k : Nat} {lo hi : ByteArray} (hk0 : cell H k 0 = some (.string lo)) (hk1 : cell H k (0 + 1) = some (.string hi)) (h1 : Sz lo) (h2 : Sz hi) (hM : ¬ M k) : FnR Tryz.prog M G H (.func (.func 85) #[] #[.pointer (some ⟨k, 0, none⟩)]) fun h => spHas lo hi h.key := by
 refine ⟨_, _, _, rfl, fun H' hkeep cs a he => ?_⟩
 obtain ⟨va, vr, rfl, -, -, -, h3, -⟩ := he
 have hb := hkeep.2 k (cell_lt hk0) hM
 have hk0' := (cell_block hb 0).trans hk0
 have hk1' := (cell_block hb (0 + 1)).trans hk1
 have hlt := cell_lt hk0'
 show Cl _ _ [.agg _, .pointer _] _ _
 refine cl_of mixed c_holds_Holds_Take_1 (Nat.le_of_ble_eq_true rfl) ?_
 simp only [fwp, ir_holds_Holds_Take_1, argF, Nat.reduceAdd]
 refine w_reg fun K hK => ?_; simp (disch := omega) only [↓wD, wU, simprocAttr]; refine hK _ _ ?_; clear hK K
 refine w_reg fun K hK => ?_
 simp (disch := omega) only [↓wD, wU, simprocAttr, hk0', hk1']
 refine w_call (spHas_cl lo hi a.key h1 h2 h3) ?_
 rintro _ H1 ⟨rfl, hE⟩
 simp (disch := omega) only [↓wD, wU, simprocAttr]
 refine hK _ _ ?_
 clear hK K
 refine w_ret ?_; (with_reducible repeat first | apply q_n | apply q_e | apply q_r | apply bq_n | apply bq_e | apply bq_r | apply bq_o rfl); refine ret1 (by (try simp only [wL, Nat.reduceBEq]); rfl) ?_
 refine ⟨rfl, ?_⟩
 repeat (first | exact Ext.refl _ | assumption | (refine Ext.trans ?_ (by assumption)) | refine Ext.push ?_ _ | refine Ext.putc ?_ (by first | omega | (simp only [Array.size_push, putc_size]; omega)) _ _)
theorem Take_cl {M G : Nat → Prop} {H : Hp} {p : Nat} {L : List Hd} {v : Value} (lo hi : ByteArray) (hT : Tab M G H p L v) (hs : Sm L) (h1 : Sz lo) (h2 : Sz hi) : Cl Tryz.prog 35 [.pointer (some ⟨p, 0, none⟩), .agg #[.string lo, .string hi]] H fun r H' => FreshIn H.size H' r (L.filter fun h => spHas lo hi h.key) ∧ KeepOn (fun x => ¬ M x ∧ x ≠ p) H H' ∧ ∃ v', Tab M G H' p (L.filter fun h => !spHas lo hi h.key) v' := by
 refine cl_of mixed c_holds_Holds_Take (Nat.le_of_ble_eq_true rfl) ?_
 simp only [fwp, ir_holds_Holds_Take, argF, Nat.reduceAdd]
 refine w_reg fun K hK => ?_; simp (disch := omega) only [↓wD, wU, simprocAttr]; refine hK _ _ ?_; clear hK K
 generalize hH0 : H.push (.cells #[.string lo, .string hi] 31) = H0
 have hE0 : Ext H H0 := by subst hH0; exact (Ext.refl _).push _
 have hc : rdn H0 H.size 0 2 = some [.string lo, .string hi] := by subst hH0; exact rdn_new H [_, _] 31 0 2 (Nat.le_refl _)
 obtain ⟨c0, c1⟩ := rdn2 hc
 clear hH0
 have hT0 := hT.ext hE0
 refine w_seq (w_seq ?_)
 refine w_reg fun K hK => ?_
 simp (disch := omega) only [↓wD, wU, simprocAttr]
 refine w_call (there_cl hT0.c1') ?_
 rintro _ H1 ⟨rfl, e⟩
 subst e
 simp (disch := omega) only [↓wD, wU, simprocAttr]
 refine hK _ _ ?_
 clear hK K
 refine wf ?_
 refine w_skip ?_
 (with_reducible repeat first | apply q_n | apply q_e | apply q_r | apply bq_n | apply bq_e | apply bq_r | apply bq_o rfl)
 refine w_reg fun K hK => ?_
 simp (disch := omega) only [↓wD, wU, simprocAttr]
 refine w_call (less_cl hT0 hs (take_fn (M := M) (G := G) c0 c1 h1 h2 (fun hm => by have := hT.lt _ (.inl hm); omega))) ?_
 rintro _ H2 ⟨hF, hkp, hT2⟩
 simp (disch := omega) only [↓wD, wU, simprocAttr]
 refine hK _ _ ?_
 clear hK K
 refine w_ret ?_; (with_reducible repeat first | apply q_n | apply q_e | apply q_r | apply bq_n | apply bq_e | apply bq_r | apply bq_o rfl); refine ret1 (by (try simp only [wL, Nat.reduceBEq]); rfl) ?_
 refine ⟨?_, (hE0.on _).trans hkp, hT2⟩
 obtain ⟨M2, G2, h1, h2, h3⟩ := hF
 exact ⟨M2, G2, h1, fun x hx => ⟨Nat.le_trans hE0.size (h2 x hx).1, (h2 x hx).2⟩, h3⟩
end Go.WK
/-
 The document's example.
-/
namespace Go.WK
open Go Go.Proofs

theorem str1 {H : Hp} {s : ByteArray} (hs : Sz s) (t : Nat) : StrSl (fun x => x = H.size) (H.push (.cells #[.string s] t)) (.slice (some ⟨H.size, 0, none⟩) 1 1) [s] := by
 refine ⟨(by decide : (1 : Nat) ≤ big), .inr ⟨H.size, 0, 1, rfl, Nat.le_refl _, fun i hi => ?_⟩⟩
 have hi0 : i = 0 := by simp at hi; omega
 subst hi0
 exact ⟨rfl, _, rdn_new H [_] t 0 1 (Nat.le_refl _), rfl, hs⟩
theorem list_one {L : List Hd} {h : Hd} (hm : ∀ x, x ∈ L ↔ x = h) (hl : L.length = 1) : L = [h] := by
 match L, hl with
 | [x], _ => rw [(hm x).1 (by simp)]
abbrev kk : ByteArray := ⟨#[107]⟩
theorem plain_put : putE [] [plainH kk 1] = 0 := by decide
theorem awake_cl {H : Hp} : Cl Tryz.prog 9 [] H fun r H' => r = .bool true ∧ Ext H H' := by
 have hkk : Sz kk := by unfold Sz big; decide
 refine cl_of mixed c_watershedlaw16_awake (Nat.le_of_ble_eq_true rfl) ?_
 simp only [fwp, ir_watershedlaw16_awake, argF, Nat.reduceAdd]
 refine w_reg fun K hK => ?_; simp (disch := omega) only [↓wD, wU, simprocAttr]; refine hK _ _ ?_; clear hK K
 refine w_reg fun K hK => ?_
 simp (disch := omega) only [↓wD, wU, simprocAttr]
 refine w_call (New_cl) ?_
 rintro _ H1 ⟨rfl, hE1, hT1⟩
 simp (disch := omega) only [↓wD, wU, simprocAttr]
 refine hK _ _ ?_
 clear hK K
 refine w_reg fun K hK => ?_
 simp (disch := omega) only [↓wD, wU, simprocAttr]
 refine w_call (plain_cl kk 1 hkk i64_1) ?_
 rintro _ H2 ⟨cs, G2, rfl, he, hG2, hE2⟩
 have he' := he
 obtain ⟨va, vr, ecs, -⟩ := he'
 rw [ecs]
 simp (disch := omega) only [↓wD, wU, simprocAttr]
 rw [← ecs]
 have hp1 := cell_lt hT1.c0
 have hs2 := hE2.size
 have hE3 : Ext H2 (H2.push (.cells cs.toArray 35)) := (Ext.refl _).push _
 refine w_call (Put_cl (hT1.ext (hE2.trans hE3)) WF.nil (he.sl1 35) (fun x hx => by
   refine ⟨fun h => h, fun e => ?_⟩
   rcases hx with hx | hx
   ·have := (hG2 x hx).1; omega
   ·omega)) ?_
 rintro _ H3 ⟨rfl, hk3, L, M, G, v, hW, hT, hGr, hput, -⟩
 obtain ⟨hmem, hlen⟩ := hput plain_put
 have hL : L = [plainH kk 1] := list_one (by intro x; rw [hmem x]; simp) (by rw [hlen]; rfl)
 subst hL
 rw [plain_put]
 simp (disch := omega) only [↓wD, wU, simprocAttr]
 refine hK _ _ ?_
 clear hK K
 have hE13 : Ext H H3 := ⟨Nat.le_trans ((hE1.trans hE2).trans hE3).size hk3.1, fun b hb => by
  have := hE1.size
  rw [hk3.2 b (Nat.lt_of_lt_of_le hb ((hE1.trans hE2).trans hE3).size) ⟨fun h => h, by omega⟩, ((hE1.trans hE2).trans hE3).2 b hb]⟩
 refine w_reg fun K hK => ?_
 simp (disch := omega) only [↓wD, wU, simprocAttr]
 have hE4 : Ext H3 (H3.push (.cells #[.string kk] 9)) := (Ext.refl _).push _
 refine w_call (Busy_cl ⟨1, 1⟩ (hT.ext hE4) hW.sorted hW.sm (str1 hkk 9)) ?_
 rintro _ H5 ⟨hE5, a, b, rfl, hb⟩
 have hb0 : b = false := by
  rcases hb with ⟨_, x, hx, _, hne, _⟩ | ⟨h, _⟩
  ·simp at hx; subst hx; exact absurd rfl hne
  ·exact h
 subst hb0
 simp (disch := omega) only [↓wD, wU, simprocAttr]
 refine hK _ _ ?_
 clear hK K
 have hE6 : Ext H5 (H5.push (.cells #[.int .i64 a.client, .int .i64 a.num] 24)) := (Ext.refl _).push _
 generalize H5.push (.cells #[.int .i64 a.client, .int .i64 a.num] 24) = H6 at hE6 ⊢
 refine w_reg fun K hK => ?_
 simp (disch := omega) only [↓wD, wU, simprocAttr]
 have hE7 : Ext H6 (H6.push (.cells #[.string kk] 9)) := (Ext.refl _).push _
 have hE37 := ((hE4.trans hE5).trans hE6).trans hE7
 refine w_call (Busy_cl ⟨2, 1⟩ (hT.ext hE37) hW.sorted hW.sm (str1 hkk 9)) ?_
 rintro _ H8 ⟨hE8, a2, b2, rfl, hb2⟩
 have hb1 : b2 = true ∧ a2 = ⟨1, 1⟩ := by
  rcases hb2 with ⟨h, x, hx, _, _, e⟩ | ⟨_, _, h⟩
  ·simp at hx; subst hx; exact ⟨h, e⟩
  ·have := h (plainH kk 1) (by simp) rfl
   cases this
 obtain ⟨rfl, rfl⟩ := hb1
 simp (disch := omega) only [↓wD, wU, simprocAttr]
 refine hK _ _ ?_
 clear hK K
 have hE9 : Ext H8 (H8.push (.cells #[.int .i64 1, .int .i64 1] 24)) := (Ext.refl _).push _
 have hr9 : rdn (H8.push (.cells #[.int .i64 1, .int .i64 1] 24)) H8.size 0 2 = some [.int .i64 1, .int .i64 1] := rdn_new H8 [_, _] 24 0 2 (Nat.le_refl _)
 generalize H8.push (.cells #[.int .i64 1, .int .i64 1] 24) = H9 at hE9 hr9 ⊢
 have hE39 := (hE37.trans hE8).trans hE9
 refine w_reg fun K hK => ?_
 simp (disch := omega) only [↓wD, wU, simprocAttr, hr9, leavesEq, leafEq]
 refine w_call (Many_cl (hT.ext hE39)) ?_
 rintro _ _ ⟨rfl, rfl⟩
 simp (disch := omega) only [↓wD, wU, simprocAttr, cast1]
 refine hK _ _ ?_
 clear hK K
 refine w_ret ?_; (with_reducible repeat first | apply q_n | apply q_e | apply q_r | apply bq_n | apply bq_e | apply bq_r | apply bq_o rfl); refine ret1 (by (try simp only [wL, Nat.reduceBEq]); rfl) ?_
 exact ⟨rfl, hE13.trans hE39⟩
end Go.WK
/-
 HoldsBytes.
-/
namespace Go.WK
open Go Go.Proofs

theorem sum_le {α : Type} {f g : α → Nat} {k : Nat} : ∀ {l : List α}, (∀ a ∈ l, f a ≤ k * g a) → (l.map f).sum ≤ k * (l.map g).sum
 | [], _ => by simp
 | a :: l, h => by
  have h1 := h a (by simp)
  have h2 := sum_le (l := l) fun b hb => h b (by simp [hb])
  simp only [List.map_cons, List.sum_cons, Nat.mul_add]; omega
theorem len_le {α : Type} {g : α → Nat} : ∀ {l : List α}, (∀ a ∈ l, 1 ≤ g a) → l.length ≤ (l.map g).sum
 | [], _ => by simp
 | a :: l, h => by
  have h1 := h a (by simp)
  have h2 := len_le (l := l) fun b hb => h b (by simp [hb])
  simp only [List.map_cons, List.sum_cons, List.length_cons]; omega
theorem mem_le {α : Type} {g : α → Nat} : ∀ {l : List α} {a : α}, a ∈ l → g a ≤ (l.map g).sum
 | b :: l, a, h => by
  simp only [List.map_cons, List.sum_cons]
  rcases List.mem_cons.1 h with rfl | h
  ·omega
  ·have := mem_le (g := g) h; omega
theorem holdW_N (h : Hd) : holdW h ≤ 200 * hdN h := by
 have h1 := sum_le (f := actW) (g := acN) (k := 48) (l := h.acts) fun a _ => by unfold actW acN; omega
 have h2 := sum_le (f := readW) (g := rdN) (k := 48) (l := h.reads) fun a _ => by unfold readW rdN; omega
 unfold holdW hdN acsN
 omega
theorem hdN_small {l : List Hd} (hn : hdsN l ≤ 1500) : (l.map holdW).sum + 100 ≤ 400000 ∧ l.length ≤ 1500 ∧ ∀ h ∈ l, h.acts.length ≤ 1500 ∧ h.reads.length ≤ 1500 := by
 have h1 := sum_le (f := holdW) (g := hdN) (k := 200) (l := l) fun a _ => holdW_N a
 unfold hdsN at hn
 refine ⟨by omega, ?_, fun h hh => ?_⟩
 ·have := len_le (g := hdN) (l := l) fun a _ => by unfold hdN; omega
  omega
 ·have h2 := mem_le (g := hdN) hh
  have h3 := len_le (g := acN) (l := h.acts) fun a _ => by unfold acN; omega
  have h4 := len_le (g := rdN) (l := h.reads) fun a _ => by unfold rdN; omega
  have h5 : hdN h = 1 + h.key.size / 8 + h.value.size / 8 + (h.acts.map acN).sum + (h.reads.map rdN).sum := rfl
  omega
theorem Lent.hds {S : Nat → Prop} {H : Hp} {v : Value} {l : List Hd} (h : Lent (ElHdL S H) 7 mkH S H v l) : HdSl S H v l := SlP.mono h.slp (fun _ h => h) (fun _ _ _ => rfl) fun _ _ _ e => e.hd
theorem hds_len {S : Nat → Prop} {H : Hp} {v : Value} {l : List Hd} (hv : HdSl S H v l) : (∀ h ∈ l, (holdE h).length ≤ holdW h) ∧ ∀ h ∈ l, (hdE2 h).length ≤ holdW h := by
 have key : ∀ h ∈ l, Sz h.key ∧ Sz h.value ∧ (∀ a ∈ h.acts, Sz a.value) ∧ ∀ a ∈ h.reads, Sz a.value := by
  intro h hh
  obtain ⟨i, hi, rfl⟩ := List.getElem_of_mem hh
  obtain ⟨_, _, -, -, _, hel⟩ := SlP.open hv
  obtain ⟨_, _, -, -, cs, -, va, vr, -, ha, hr, -, hk, hx⟩ := hel i hi
  obtain ⟨_, _, -, -, -, hae⟩ := SlP.open ha
  obtain ⟨_, _, -, -, -, hre⟩ := SlP.open hr
  refine ⟨hk, hx, fun a ha => ?_, fun a ha => ?_⟩
  ·obtain ⟨j, hj, rfl⟩ := List.getElem_of_mem ha
   obtain ⟨_, _, -, -, _, -, -, -, -, -, hz⟩ := hae j hj
   exact hz
  ·obtain ⟨j, hj, rfl⟩ := List.getElem_of_mem ha
   obtain ⟨_, _, -, -, _, -, -, -, hz⟩ := hre j hj
   exact hz
 refine ⟨fun h hh => ?_, fun h hh => ?_⟩
 ·obtain ⟨h1, h2, h3, h4⟩ := key h hh
  have s1 := flat_all (e := actE) (w := actW) (l := h.acts) fun a ha => actE_len (h3 a ha)
  have s2 := flat_all (e := readE) (w := readW) (l := h.reads) fun a ha => readE_len (h4 a ha)
  have t1 := textE_len h.key h1
  have t2 := textE_len h.value h2
  have n1 := numsE_len [h.name.client, h.name.num, (h.acts.length : Int)]
  have n2 := numsE_len [(h.reads.length : Int)]
  simp only [holdE, holdW, List.length_append, List.length_cons, List.length_nil] at n1 n2 ⊢
  omega
 ·obtain ⟨h1, h2, h3, h4⟩ := key h hh
  exact hdE2_len h1 h2 h3 h4
theorem Lent.hext {S : Nat → Prop} {H H' : Hp} {v : Value} {l : List Hd} (h : Lent (ElHdL S H) 7 mkH S H v l) (hE : Ext H H') : Lent (ElHdL S H') 7 mkH S H' v l :=
 h.mono (by decide) (fun _ h => h) (fun b _ hb => hE.2 b hb) fun _ _ _ e => e.mono (fun _ h => h) fun b _ hb => hE.2 b hb
theorem bsl_ext {S : Nat → Prop} {H H' : Hp} {v : Value} {l : List UInt8} (h : BSl S H v l) (hE : Ext H H') : BSl S H' v l := SlP.mono h (fun _ h => h) (fun b _ hb => hE.2 b hb) fun _ _ _ h => h
theorem hds_ext {S : Nat → Prop} {H H' : Hp} {v : Value} {l : List Hd} (h : HdSl S H v l) (hE : Ext H H') : HdSl S H' v l := HdSl.mono h (fun _ h => h) fun b _ hb => hE.2 b hb
theorem Done2_cl {M : Nat → Prop} {H : Hp} {p : Nat} {q : Bool} {bs : List UInt8} {v : Value} (hW : Wr M H p (!q) bs v) (hl : bs.length ≤ big) :
  Cl Tryz.prog 22 [.pointer (some ⟨p, 0, none⟩)] H fun r H' => Ext H H' ∧ ∃ (sv : Value) (Ms : Nat → Prop) (sl : List UInt8), r = .tuple #[sv, .int .i64 (if q then 0 else 2)] ∧ BSl Ms H' sv sl ∧ (q = true → sl = bs) ∧ (∀ x, Ms x → x < H'.size) := by
 refine (Done_cl hW hl).mono fun r H' h => ⟨h.1, ?_⟩
 rcases h.2 with ⟨hq, rfl⟩ | ⟨hq, u, M', rfl, hM, hrow⟩
 ·simp only [Bool.not_eq_true'] at hq
  subst hq
  exact ⟨_, fun _ => False, [], rfl, sl_nil, (fun h => by cases h), fun _ h => h.elim⟩
 ·simp only [Bool.not_eq_false'] at hq
  subst hq
  exact ⟨u, M', bs, rfl, hrow.slp (by simp) hl bcs_el, fun _ => rfl, fun x hx => (hM x hx).2⟩
set_option maxHeartbeats 4000000 in
theorem HoldsBytes_cl {S S' : Nat → Prop} {H : Hp} {v u : Value} {l : List Hd} {bs : List UInt8} (hv : HdSl S H v l) (hu : BSl S' H u bs) : ClL Tryz.prog 4 [v, u] H fun r H' => r = .bool true ∧ Ext H H' := by
 refine clL_of mixed c_watershedlaw16_HoldsBytes (Nat.le_of_ble_eq_true rfl) ?_
 simp only [fwp, ir_watershedlaw16_HoldsBytes, argF, Nat.reduceAdd]
 obtain ⟨ub, uc, rfl, -⟩ := SlP.form hu
 refine w_reg fun K hK => ?_; simp (disch := omega) only [↓wD, wU, simprocAttr]; refine hK _ _ ?_; clear hK K
 refine w_seq (w_seq ?_)
 refine w_reg fun K hK => ?_
 simp (disch := omega) only [↓wD, wU, simprocAttr]
 refine w_call (awake_cl) ?_
 rintro _ H1 ⟨rfl, hE1⟩
 simp (disch := omega) only [↓wD, wU, simprocAttr]
 refine hK _ _ ?_
 clear hK K
 refine wf ?_
 refine w_skip ?_
 (with_reducible repeat first | apply q_n | apply q_e | apply q_r | apply bq_n | apply bq_e | apply bq_r | apply bq_o rfl)
 replace hv := HdSl.mono hv (fun _ h => h) fun b _ hb => hE1.2 b hb
 replace hu : BSl S' H1 _ bs := SlP.mono hu (fun _ h => h) (fun b _ hb => hE1.2 b hb) fun _ _ _ h => h
 refine w_seq (w_seq ?_)
 refine w_reg fun K hK => ?_
 simp (disch := omega) only [↓wD, wU, simprocAttr]
 refine w_call (HoldsOfN_cl 1500 (by omega) hv) ?_
 rintro _ H1 ⟨rfl, n, rfl, hn⟩
 by_cases hn1 : 1500 < n
 ·have z1 : ((1500 : Int) < (n : Int)) = True := eq_true (by omega)
  simp (disch := omega) only [↓wD, wU, simprocAttr, z1]
  refine hK _ _ ?_
  clear hK K
  refine wt ?_
  refine w_reg fun K hK => ?_; simp (disch := omega) only [↓wD, wU, simprocAttr]; refine hK _ _ ?_; clear hK K
  refine w_ret ?_; (with_reducible repeat first | apply q_n | apply q_e | apply q_r | apply bq_n | apply bq_e | apply bq_r | apply bq_o rfl); refine ret1 (by (try simp only [wL, Nat.reduceBEq]); rfl) ?_
  exact ⟨rfl, hE1⟩
 have z1 : ((1500 : Int) < (n : Int)) = False := eq_false (by omega)
 by_cases hb1 : 20000 < bs.length
 ·have z2 : ((20000 : Int) < (bs.length : Int)) = True := eq_true (by omega)
  simp (disch := omega) only [↓wD, wU, simprocAttr, z1, z2]
  refine hK _ _ ?_
  clear hK K
  refine wt ?_
  refine w_reg fun K hK => ?_; simp (disch := omega) only [↓wD, wU, simprocAttr]; refine hK _ _ ?_; clear hK K
  refine w_ret ?_; (with_reducible repeat first | apply q_n | apply q_e | apply q_r | apply bq_n | apply bq_e | apply bq_r | apply bq_o rfl); refine ret1 (by (try simp only [wL, Nat.reduceBEq]); rfl) ?_
  exact ⟨rfl, hE1⟩
 have z2 : ((20000 : Int) < (bs.length : Int)) = False := eq_false (by omega)
 have hN := hn (by omega)
 obtain ⟨hW, hll, hla⟩ := hdN_small (l := l) (by omega)
 simp (disch := omega) only [↓wD, wU, simprocAttr, z1, z2]
 refine hK _ _ ?_
 clear hK K
 refine wf ?_
 refine w_skip ?_
 (with_reducible repeat first | apply q_n | apply q_e | apply q_r | apply bq_n | apply bq_e | apply bq_r | apply bq_o rfl)
 -- what is lent, what is written
 refine w_reg fun K hK => ?_
 simp (disch := omega) only [↓wD, wU, simprocAttr]
 refine w_call (LentHolds_cl hv (by omega) (fun h hh => ⟨by have := (hla h hh).1; omega, by have := (hla h hh).2; omega⟩)) ?_
 rintro _ H2 ⟨hE2, hL⟩
 simp (disch := omega) only [↓wD, wU, simprocAttr]
 refine hK _ _ ?_
 clear hK K
 rename_i v2
 have hLs := hL.hds
 obtain ⟨lb, lc, elb, -⟩ := SlP.form hLs
 refine w_reg fun K hK => ?_
 simp (disch := omega) only [↓wD, wU, simprocAttr]
 refine w_call (NewWriter_cl) ?_
 rintro _ H3 ⟨rfl, hE3, hW3⟩
 simp (disch := omega) only [↓wD, wU, simprocAttr]
 refine w_call (Write_cl hW3 (HdSl.mono hLs (fun _ h => h) fun b _ hb => hE3.2 b hb) (fun x hx => ⟨id, by omega⟩) (by simp only [List.length_nil]; omega)) ?_
 rintro _ H4 ⟨rfl, hk4, M4, v4, hW4, hM4⟩
 rw [List.nil_append, Bool.false_or] at hW4
 have hs3 := hE3.1
 have hE24 : Ext H2 H4 := ⟨by have := hk4.1; omega, fun x hx => by rw [hk4.2 x (by omega) ⟨id, by omega⟩]; exact hE3.2 x hx⟩
 have hl1 := numsE_len [(l.length : Int)]
 have hl2 := flat_all (hds_len hv).1
 have hl3 := flat_all (hds_len hv).2
 simp only [List.length_cons, List.length_nil] at hl1
 have hol : (numsE [(l.length : Int)] ++ l.flatMap holdE).length ≤ 500000 := by rw [List.length_append]; omega
 simp (disch := omega) only [↓wD, wU, simprocAttr]
 obtain ⟨q, hq⟩ : ∃ q, q = l.all holdOk := ⟨_, rfl⟩
 rw [← hq] at hW4
 refine w_call (Done2_cl hW4 (by unfold big; omega)) ?_
 rintro _ H5 ⟨hE5, sv, Ms, sl, rfl, hsl, hsq, hMs⟩
 obtain ⟨sa, sc, rfl, -⟩ := SlP.form hsl
 simp (disch := omega) only [↓wD, wU, simprocAttr]
 refine hK _ _ ?_
 clear hK K
 have hE25 := hE24.trans hE5
 have hE15 := hE2.trans hE25
 refine w_reg fun K hK => ?_
 simp (disch := omega) only [↓wD, wU, simprocAttr]
 refine w_call (Bytes16_cl (hds_ext hv hE15) (by omega)) ?_
 rintro _ H6 ⟨tv, Mt, rfl, nbt⟩
 rw [← hq]
 simp (disch := omega) only [↓wD, wU, simprocAttr]
 refine hK _ _ ?_
 clear hK K
 have hE6 := nbt.ext
 have hE26 := hE25.trans hE6
 have hE16 := hE2.trans hE26
 have hbE : q = true → sl = numsE [(l.length : Int)] ++ l.flatMap hdE2 := fun h => by
  rw [hsq h, all_hdE2 (fun h hh => by have := (hla h hh).1; omega) (by rw [← hq]; exact h)]
 obtain ⟨tl, htl⟩ : ∃ tl, tl = numsE [(l.length : Int)] ++ l.flatMap hdE2 := ⟨_, rfl⟩
 rw [← htl] at nbt hbE
 have htb : tl.length ≤ 140737488355328 := by rw [htl, List.length_append]; omega
 have hbt := nbt.sl htb
 have hLs6 := hds_ext hLs hE26
 have hv6 := hds_ext hv hE16
 have hL6 := hL.hext hE26
 refine w_cut (fun g G => Ext H6 G ∧ g 1 = .slice ub bs.length uc ∧ g 6 = .slice sa sl.length sc) ?_ ?_
 ·refine w_seq ?_
  refine w_reg fun K hK => ?_
  cases hqq : q with
  | true =>
   simp (disch := omega) only [↓wD, wU, simprocAttr]
   refine w_call (SameBytes_cl (bsl_ext hsl hE6) hbt) ?_
   rintro _ _ ⟨rfl, rfl⟩
   have e0 : decide (sl = tl) = true := decide_eq_true (hbE hqq)
   rw [e0]
   simp (disch := omega) only [↓wD, wU, simprocAttr]
   refine w_call (Right_cl hLs6) ?_
   rintro _ H7 ⟨rfl, hE7⟩
   simp (disch := omega) only [↓wD, wU, simprocAttr]
   refine w_call (Right16_cl (hds_ext hv6 hE7)) ?_
   rintro _ H8 ⟨rfl, hE8⟩
   simp (disch := omega) only [↓wD, wU, simprocAttr]
   refine w_call (KeptHolds_cl (hL6.hext (hE7.trans hE8)) (hds_ext hv6 (hE7.trans hE8)) (by omega) (fun h hh => ⟨by have := (hla h hh).1; omega, by have := (hla h hh).2; omega⟩)) ?_
   rintro _ H9 ⟨rfl, hE9⟩
   simp (disch := omega) only [↓wD, wU, simprocAttr]
   refine hK _ _ ?_
   clear hK K
   refine wf ?_
   refine w_skip ?_
   (with_reducible repeat first | apply q_n | apply q_e | apply q_r | apply bq_n | apply bq_e | apply bq_r | apply bq_o rfl)
   exact ⟨(hE7.trans hE8).trans hE9, (by simp only [wL, Nat.reduceBEq]), (by simp only [wL, Nat.reduceBEq])⟩
  | false =>
   simp (disch := omega) only [↓wD, wU, simprocAttr]
   refine w_call (Right_cl hLs6) ?_
   rintro _ H7 ⟨rfl, hE7⟩
   simp (disch := omega) only [↓wD, wU, simprocAttr]
   refine w_call (Right16_cl (hds_ext hv6 hE7)) ?_
   rintro _ H8 ⟨rfl, hE8⟩
   simp (disch := omega) only [↓wD, wU, simprocAttr]
   refine w_call (KeptHolds_cl (hL6.hext (hE7.trans hE8)) (hds_ext hv6 (hE7.trans hE8)) (by omega) (fun h hh => ⟨by have := (hla h hh).1; omega, by have := (hla h hh).2; omega⟩)) ?_
   rintro _ H9 ⟨rfl, hE9⟩
   simp (disch := omega) only [↓wD, wU, simprocAttr]
   refine hK _ _ ?_
   clear hK K
   refine wf ?_
   refine w_skip ?_
   (with_reducible repeat first | apply q_n | apply q_e | apply q_r | apply bq_n | apply bq_e | apply bq_r | apply bq_o rfl)
   exact ⟨(hE7.trans hE8).trans hE9, (by simp only [wL, Nat.reduceBEq]), (by simp only [wL, Nat.reduceBEq])⟩
 ·rintro f G ⟨hEG, f1, f6⟩
  have hS5 := bsl_ext hsl (hE6.trans hEG)
  have hUG := bsl_ext (SlP.lt (by decide) hu) (hE16.trans hEG)
  have hsz6 := hE6.1
  have hszG := hEG.1
  have hsz1 := hE16.1
  have hEHG := hE1.trans (hE16.trans hEG)
  clear hLs6 hv6 hL6 hbt nbt hbE htl htb hsl hu hv hL hLs hW4 hW3
  obtain ⟨W, hW1, hW2, hWlt⟩ : ∃ W : Nat → Prop, BSl W G (.slice sa sl.length sc) sl ∧ BSl W G (.slice ub bs.length uc) bs ∧ ∀ x, W x → x < G.size :=
   ⟨fun x => Ms x ∨ S' x ∧ x < H1.size, SlP.mono hS5 (fun _ h => .inl h) (fun _ _ _ => rfl) fun _ _ _ h => h, SlP.mono hUG (fun _ h => .inr h) (fun _ _ _ => rfl) fun _ _ _ h => h, fun x hx => by
    rcases hx with hx | hx
    ·have := hMs x hx; omega
    ·omega⟩
  refine w_reg fun K hK => ?_; simp (disch := omega) only [↓wD, wU, simprocAttr, f1, f6]; refine hK _ _ ?_; clear hK K
  have hEP : Ext G (G.push (.cells #[.slice sa sl.length sc, .slice ub bs.length uc] 46)) := (Ext.refl _).push _
  have p0 : cell (G.push (.cells #[.slice sa sl.length sc, .slice ub bs.length uc] 46)) G.size 0 = some (.slice sa sl.length sc) := cell_new G [_, _] 46 0
  have p1 : cell (G.push (.cells #[.slice sa sl.length sc, .slice ub bs.length uc] 46)) G.size 1 = some (.slice ub bs.length uc) := cell_new G [_, _] 46 1
  have hsP : (G.push (.cells #[.slice sa sl.length sc, .slice ub bs.length uc] 46)).size = G.size + 1 := by simp
  generalize G.push (.cells #[.slice sa sl.length sc, .slice ub bs.length uc] 46) = G1 at hEP p0 p1 hsP ⊢
  generalize hPe : G.size = P at p0 p1 hsP hWlt ⊢
  refine w_seq ?_
  refine w_reg fun K hK => ?_; simp (disch := omega) only [↓wD, wU, simprocAttr]; refine hK _ _ ?_; clear hK K
  refine w_blk (w_loop (fun n f A => f 10 = .slice (some ⟨P, 0, none⟩) 2 2 ∧ Ext G1 A ∧ ∃ i : Nat, f 11 = .int .i64 i ∧ i ≤ 2 ∧ n = 2 - i) 2 ⟨(by simp only [wL, Nat.reduceBEq]), Ext.refl _, 0, (by simp only [wL, Nat.reduceBEq]; rfl), by omega, rfl⟩ ?_)
  clear f1 f6 f
  rintro n f A ⟨f10, hEA, i, f11, hi, rfl⟩
  refine w_seq (w_seq ?_)
  by_cases hi2 : i < 2
  ·have z1 : ((i : Int) < 2) = True := eq_true (by omega)
   have hGA := hEP.trans hEA
   have hsA := hEA.1
   obtain ⟨wa, wc, wl, hcell, hw⟩ : ∃ wa wc wl, cell A P i = some (.slice wa (wl : List UInt8).length wc) ∧ BSl W A (.slice wa wl.length wc) wl := by
    have hc0 : P < G1.size := by omega
    match i, hi2 with
    | 0, _ => exact ⟨sa, sc, sl, (cell_block (hEA.2 P hc0) 0).trans p0, bsl_ext hW1 hGA⟩
    | 1, _ => exact ⟨ub, uc, bs, (cell_block (hEA.2 P hc0) 1).trans p1, bsl_ext hW2 hGA⟩
   refine w_reg fun K hK => ?_; simp (disch := omega) only [↓wD, wU, simprocAttr, f11, z1]; refine hK _ _ ?_; clear hK K
   refine wt ?_
   refine w_skip ?_
   (with_reducible repeat first | apply q_n | apply q_e | apply q_r | apply bq_n | apply bq_e | apply bq_r | apply bq_o rfl)
   refine w_seq (w_blk ?_)
   refine w_alc (fun x => x = P) (fun _ => False) (fun x hx => hx.elim) fun K hK => ?_
   simp (disch := omega) only [↓a_nil, ↓a_st, ↓a_new, ↓a_box, ↓a_bsl, ↓a_ac, ↓a_ft, ↓a_ff, p_nil, p_new, p_box, p_bsl, ↓ow_s, ↓ow_e, ↓ow_g, ↓l_nil, ↓l_f, ↓l_t, ↓o_s, ↓o_e, ↓o_g, ↓o_ge, ↓k_ld, ↓k_ldn, isemS, ↓wD, wU, simprocAttr, f10, f11, z1, hi2, hcell, Nat.mul_one, Nat.zero_add]
   refine w_ac fun A1 gE1 => ?_
   simp (disch := omega) only [↓a_nil, ↓a_st, ↓a_new, ↓a_box, ↓a_bsl, ↓a_ac, ↓a_ft, ↓a_ff, p_nil, p_new, p_box, p_bsl, ↓ow_s, ↓ow_e, ↓ow_g, ↓l_nil, ↓l_f, ↓l_t, ↓o_s, ↓o_e, ↓o_g, ↓o_ge, ↓k_ld, ↓k_ldn, isemS, ↓wD, wU, simprocAttr]
   refine w_call (NewReader_cl (bsl_ext hw gE1)) ?_
   rintro _ A2 ⟨gE2, p, Sr, vr, rfl, hpn, hSr, hRr⟩
   simp (disch := omega) only [↓a_nil, ↓a_st, ↓a_new, ↓a_box, ↓a_bsl, ↓a_ac, ↓a_ft, ↓a_ff, p_nil, p_new, p_box, p_bsl, ↓ow_s, ↓ow_e, ↓ow_g, ↓l_nil, ↓l_f, ↓l_t, ↓o_s, ↓o_e, ↓o_g, ↓o_ge, ↓k_ld, ↓k_ldn, isemS, ↓wD, wU, simprocAttr]
   have hpl := cell_lt hRr.c0
   refine ⟨fun x => A1.size ≤ x ∧ x < A2.size, fun x hx => .inr hx.1, fun x hx => hx.2, gE2.1, fun x hx _ => gE2.2 x hx, ?_⟩
   refine w_al fun y A3 gE3 hny hby hFy hAy hcy => ?_
   simp (disch := omega) only [↓a_nil, ↓a_st, ↓a_new, ↓a_box, ↓a_bsl, ↓a_ac, ↓a_ft, ↓a_ff, p_nil, p_new, p_box, p_bsl, ↓ow_s, ↓ow_e, ↓ow_g, ↓l_nil, ↓l_f, ↓l_t, ↓o_s, ↓o_e, ↓o_g, ↓o_ge, ↓k_ld, ↓k_ldn, isemS, ↓wD, wU, simprocAttr]
   refine hK _ _ ?_
   clear hK K
   have hE3 := gE1.trans (gE2.trans gE3)
   have gs1 := gE1.1
   have gs2 := gE2.1
   have gs3 := gE3.1
   have hyA : A.size ≤ y := hny
   have hyp : y ≠ p := fun e => hFy ⟨by omega, by omega⟩
   have hySr : ¬ Sr y := fun h => hFy (hSr y h)
   have hBy := Bk.at (cs := [.slice wa wl.length wc, .bool false]) hcy
   have y0 := hBy.cell 0 (by simp)
   have y1 := hBy.cell 1 (by simp)
   simp only [List.getElem_cons_zero, List.getElem_cons_succ] at y0 y1
   have hR3 := hRr.ext gE3
   have hQ3 : Qr W A3 y (some wl) (.slice wa wl.length wc) := ⟨y0, y1, hBy.fz, bsl_ext hw hE3, fun h => by have := hWlt y h; omega, fun x hx => by have := hWlt x hx; omega⟩
   refine w_reg fun K hK => ?_
   simp (disch := omega) only [↓wD, wU, simprocAttr]
   refine w_call (Read_cl hR3) ?_
   rintro _ A4 ⟨⟨gk4, pv, gR4⟩, xu, Rx, rfl, hRx, hxs⟩
   simp (disch := omega) only [↓wD, wU, simprocAttr]
   refine hK _ _ ?_
   clear hK K
   have gs4 := gk4.1
   have hQ4 : Qr W A4 y (some wl) (.slice wa wl.length wc) := hQ3.keep gs4 fun x hx hh => gk4.2 x hx (by
    rcases hh with h | h
    ·have := hWlt x h; omega
    ·omega)
   refine w_reg fun K hK => ?_
   simp (disch := omega) only [↓wD, wU, simprocAttr]
   refine w_call (Read16_cl hQ4) ?_
   rintro _ A5 ⟨⟨gk5, yv, gQ5⟩, yu, Ry, rfl, hRy, hys⟩
   simp (disch := omega) only [↓wD, wU, simprocAttr]
   refine hK _ _ ?_
   clear hK K
   have gs5 := gk5.1
   have hxs5 : HdSl Rx A5 xu _ := HdSl.mono hxs (fun _ h => h) fun x hx hx' => gk5.2 x hx' (by have := hRx x hx; omega)
   have hR5 := gR4.keep gs5 fun x hx hh => gk5.2 x hx (by
    rcases hh with h | h
    ·exact fun e => hySr (e ▸ h)
    ·omega)
   have hkA5 : Ext G1 A5 := ⟨by omega, fun x hx => by rw [gk5.2 x (by omega) (by omega), gk4.2 x (by omega) (by omega), hE3.2 x (by omega), hEA.2 x hx]⟩
   obtain ⟨ya, yc, rfl, -⟩ := SlP.form gQ5.sl
   refine w_seq ?_
   refine w_lin (fun _ => True) fun K hK => ?_
   have e0 : decide ((holdsR (some wl)).1.1 = (holdsR (some wl)).1.1) = true := decide_eq_true rfl
   cases hok : (holdsR (some wl)).1.2 with
   | true =>
    simp (disch := omega) only [↓l_nil, ↓l_f, ↓l_t, ↓o_s, ↓o_e, ↓o_g, ↓o_ge, ↓k_ld, ↓k_ldn, isemS, ↓wD, wU, simprocAttr]
    refine w_call (SameHolds_cl hxs5 hys) ?_
    rintro _ A6 ⟨rfl, hE6'⟩
    rw [e0]
    have q0 := (gQ5.ext hE6').c0
    simp (disch := omega) only [↓l_nil, ↓l_f, ↓l_t, ↓o_s, ↓o_e, ↓o_g, ↓o_ge, ↓k_ld, ↓k_ldn, isemS, ↓wD, wU, simprocAttr, q0]
    refine w_call (Left_cl (hR5.ext hE6')) ?_
    rintro _ _ ⟨rfl, rfl⟩
    simp (disch := omega) only [↓l_nil, ↓l_f, ↓l_t, ↓o_s, ↓o_e, ↓o_g, ↓o_ge, ↓k_ld, ↓k_ldn, isemS, ↓wD, wU, simprocAttr]
    refine ⟨(Ext.refl _).on _, ?_⟩
    refine hK _ _ ?_
    clear hK K
    refine wf ?_
    refine w_skip ?_
    (with_reducible repeat first | apply q_n | apply q_e | apply q_r | apply bq_n | apply bq_e | apply bq_r | apply bq_o rfl)
    refine w_reg1 fun K hK => ?_; simp (disch := omega) only [↓wD, wU, simprocAttr, f11]; refine hK _ _ ?_; clear hK K
    (with_reducible repeat first | apply q_n | apply q_e | apply q_r | apply bq_n | apply bq_e | apply bq_r | apply bq_o rfl)
    exact ⟨2 - (i + 1), by omega, (by simp only [wL, Nat.reduceBEq, f10]), hkA5.trans hE6', i + 1, (by simp only [wL, Nat.reduceBEq]), by omega, rfl⟩
   | false =>
    simp (disch := omega) only [↓l_nil, ↓l_f, ↓l_t, ↓o_s, ↓o_e, ↓o_g, ↓o_ge, ↓k_ld, ↓k_ldn, isemS, ↓wD, wU, simprocAttr]
    refine w_call (SameHolds_cl hxs5 hys) ?_
    rintro _ A6 ⟨rfl, hE6'⟩
    rw [e0]
    simp (disch := omega) only [↓l_nil, ↓l_f, ↓l_t, ↓o_s, ↓o_e, ↓o_g, ↓o_ge, ↓k_ld, ↓k_ldn, isemS, ↓wD, wU, simprocAttr]
    refine ⟨(Ext.refl _).on _, ?_⟩
    refine hK _ _ ?_
    clear hK K
    refine wf ?_
    refine w_skip ?_
    (with_reducible repeat first | apply q_n | apply q_e | apply q_r | apply bq_n | apply bq_e | apply bq_r | apply bq_o rfl)
    refine w_reg1 fun K hK => ?_; simp (disch := omega) only [↓wD, wU, simprocAttr, f11]; refine hK _ _ ?_; clear hK K
    (with_reducible repeat first | apply q_n | apply q_e | apply q_r | apply bq_n | apply bq_e | apply bq_r | apply bq_o rfl)
    exact ⟨2 - (i + 1), by omega, (by simp only [wL, Nat.reduceBEq, f10]), hkA5.trans hE6', i + 1, (by simp only [wL, Nat.reduceBEq]), by omega, rfl⟩
  ·have z1 : ((i : Int) < 2) = False := eq_false (by omega)
   refine w_reg fun K hK => ?_; simp (disch := omega) only [↓wD, wU, simprocAttr, f11, z1]; refine hK _ _ ?_; clear hK K
   refine wf ?_
   refine w_exit ?_
   (with_reducible repeat first | apply q_n | apply q_e | apply q_r | apply bq_n | apply bq_e | apply bq_r | apply bq_o rfl)
   refine w_reg fun K hK => ?_; simp (disch := omega) only [↓wD, wU, simprocAttr]; refine hK _ _ ?_; clear hK K
   refine w_ret ?_; (with_reducible repeat first | apply q_n | apply q_e | apply q_r | apply bq_n | apply bq_e | apply bq_r | apply bq_o rfl); refine ret1 (by (try simp only [wL, Nat.reduceBEq]); rfl) ?_
   exact ⟨rfl, hEHG.trans (hEP.trans hEA)⟩
end Go.WK
